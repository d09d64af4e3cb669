/- A stretch of a region, reckoned by the kernel: operations one by one, on what is told. -/
import Derived.Test.YtmkjcahdjphimaaE2
import Derived.ChangeKeysEq
import Derived.Laws.StructEq
import Derived.Laws.OwnMore
namespace Go.Eng
open Go

/-- What a computation comes to that asks the program alone. -/
def pureRun {α : Type} (P : Program) : Sem α → Option α
  | .pure a => some a
  | .program k => pureRun P (k P)
  | .mark _ k => pureRun P k
  | _ => none
theorem pureRun_sound {α : Type} {P : Program} {s : Sem α} {a : α} (h : pureRun P s = some a) (w : World) : s.run P w = .ok a w := by
  induction s with
  | pure x => cases h; rfl
  | program k ih => exact ih P h
  | mark m k ih => exact ih h
  | _ => cases h

def FW (ρ : Option Nat) : Fence := { fn := fun _ => True, depth := none, alive := false, round := ρ }
theorem FW_none : FW none = Fence.wide := rfl

inductive Hint where
  | n
  | al (t : Nat)
  | ld (t : Nat)
  | lv (t : Nat) (v : Value)
  | lg (v : Value)
  | st (t : Nat)
  | sv (t : Nat) (cs : List Value)
  | sp (v : Value)
  | s
  | w (v : Value)
  | o (t : Nat)
  | mg (t : Nat) (v : Value)

structure Out where
  v : Value
  h : Hs
  c : Option Prop

def rho (e : Env) (x : Operand) : Value := (opd e x).getD undef
def known (e : Env) : List Operand → Bool
  | [] => true
  | x :: r => match opd e x with | some _ => known e r | none => false
theorem known_spec {e : Env} : ∀ {xs : List Operand}, known e xs = true → ∀ x ∈ xs, ∃ v, opd e x = some v
  | [], _, _, hx => by cases hx
  | y :: r, h, x, hx => by
    unfold known at h
    cases hy : opd e y with
    | none => rw [hy] at h; cases h
    | some v =>
      rw [hy] at h
      cases hx with
      | head => exact ⟨v, hy⟩
      | tail _ hx => exact known_spec h x hx
theorem EnvOk.rho {n : Nat} {e : Env} {a : Act} (h : EnvOk n e a) {xs : List Operand} (hk : known e xs = true) : ∀ x ∈ xs, Eng.rho e x = a.eval x := fun x hx => by
  obtain ⟨v, hv⟩ := known_spec hk x hx
  rw [h.opd hv]; simp [Eng.rho, hv]

def noSel : Op → Bool
  | .select _ _ => false
  | .defer _ => false
  | _ => true
theorem noSel_select {o : Op} (h : noSel o = true) : ∀ cs b, o ≠ .select cs b := fun cs b e => by rw [e] at h; cases h
theorem noSel_defer {o : Op} (h : noSel o = true) : ∀ c, o ≠ .defer c := fun c e => by rw [e] at h; cases h

/-- The operation yields this value in every world of which this is told, and turns nothing. -/
def Sp (P : Program) (g : GH) (h : Hs) (e : Env) (o : Oper) (v : Value) : Prop :=
  ∀ w, Ok g h w → (execOp (rho e) o).run P w = .ok (.value v) w
def OwnRead (cs : List Value) (off : Nat) (agg : Bool) (sz : Nat) (v : Value) : Prop :=
  if agg then (seg cs off sz).length = sz ∧ v = .agg (seg cs off sz).toArray else cs[off]? = some v

/-! ### Quiet operations that ask something -/

/-- Equality of values that hold no addresses, by their type. -/
def eqFs (P : Program) (eq : TypeId → Value → Value → Option Bool) (xs ys : Array Value) : List Field → Option Bool
  | [] => some true
  | f :: fs =>
    bif decide (f.name = "_") then eqFs P eq xs ys fs else
      match pureRun P (part f.type xs f.offset), pureRun P (part f.type ys f.offset) with
      | some a, some b =>
        match eq f.type a b, eqFs P eq xs ys fs with
        | some r, some q => some (r && q)
        | _, _ => none
      | _, _ => none
def eqIs (P : Program) (eq : TypeId → Value → Value → Option Bool) (el : TypeId) (c : Nat) (xs ys : Array Value) : List Nat → Option Bool
  | [] => some true
  | i :: is =>
    match pureRun P (part el xs (i * c)), pureRun P (part el ys (i * c)) with
    | some a, some b =>
      match eq el a b, eqIs P eq el c xs ys is with
      | some r, some q => some (r && q)
      | _, _ => none
    | _, _ => none
def eqAt (P : Program) : Nat → TypeId → Value → Value → Option Bool
  | 0, _, _, _ => none
  | _ + 1, t, .bool a, .bool b => match P.underlying t with
    | some .bool => some (a == b)
    | _ => none
  | _ + 1, t, .int k a, .int k' b => match P.underlying t with
    | some (.int _) => bif decide (k = k') then some (a == b) else none
    | _ => none
  | _ + 1, t, .string a, .string b => match P.underlying t with
    | some .string => some (a == b)
    | _ => none
  | d + 1, t, .agg xs, .agg ys => match P.underlying t with
    | some (.struct _) => bif P.stoodInHeld t then none else eqFs P (eqAt P d) xs ys (P.fieldsOf t).toList
    | some (.array n el) => match P.info? el with
      | some _ => eqIs P (eqAt P d) el (P.cellsOf el) xs ys (List.range n)
      | none => none
    | _ => none
  | _, _, _, _ => none

theorem eqFs_sound {P : Program} {d : Nat} {eq : TypeId → Value → Value → Option Bool} (ih : ∀ t x y b w, eq t x y = some b → (Op.equalIn d t x y).run P w = .ok b w) (xs ys : Array Value) :
    ∀ (fs : List Field) (b : Bool) (w : World), eqFs P eq xs ys fs = some b → (Op.eqFields d xs ys fs).run P w = .ok b w
  | [], b, w, h => by cases h; rfl
  | f :: fs, b, w, h => by
    unfold eqFs at h
    unfold Op.eqFields
    by_cases hn : f.name = "_"
    · rw [decide_eq_true hn, cond_true] at h
      simp only [hn, ne_eq, not_true_eq_false, if_false]
      exact eqFs_sound ih xs ys fs b w h
    · rw [decide_eq_false hn, cond_false] at h
      split at h <;> try (cases h; done)
      rename_i a b' ha hb
      split at h <;> try (cases h; done)
      rename_i r q hr hq
      cases h
      simp only [hn, ne_eq, not_false_eq_true, if_true, Sem.run_bind, pureRun_sound ha w, pureRun_sound hb w, Result.andThen_ok, ih _ _ _ _ w hr]
      cases r
      · simp
      · simpa using eqFs_sound ih xs ys fs q w hq
theorem eqIs_sound {P : Program} {d : Nat} {eq : TypeId → Value → Value → Option Bool} (ih : ∀ t x y b w, eq t x y = some b → (Op.equalIn d t x y).run P w = .ok b w) (el : TypeId) (c : Nat) (xs ys : Array Value) :
    ∀ (is : List Nat) (b : Bool) (w : World), eqIs P eq el c xs ys is = some b → (Op.eqItems d el c xs ys is).run P w = .ok b w
  | [], b, w, h => by cases h; rfl
  | i :: is, b, w, h => by
    unfold eqIs at h
    unfold Op.eqItems
    split at h <;> try (cases h; done)
    rename_i a b' ha hb
    split at h <;> try (cases h; done)
    rename_i r q hr hq
    cases h
    simp only [Sem.run_bind, pureRun_sound ha w, pureRun_sound hb w, Result.andThen_ok, ih _ _ _ _ w hr]
    cases r
    · simp
    · simpa using eqIs_sound ih el c xs ys is q w hq
theorem fieldsOf_eq {P : Program} {t : TypeId} {fs : Array Field} (h : P.underlying t = some (.struct fs)) : P.underlying t = some (.struct (P.fieldsOf t)) := by
  simp [Program.fieldsOf, h]
theorem eqAt_sound {P : Program} : ∀ (d : Nat) (t : TypeId) (x y : Value) (b : Bool) (w : World), eqAt P d t x y = some b → (Op.equalIn d t x y).run P w = .ok b w := by
  intro d
  induction d with
  | zero => intro t x y b w h; simp [eqAt] at h
  | succ d ih =>
    intro t x y b w h
    cases x <;> cases y <;> simp only [eqAt] at h <;> try (cases h; done)
    · split at h <;> try (cases h; done)
      rename_i ht
      cases h
      exact run_equalIn_bool' w d t _ _ ht
    · split at h <;> try (cases h; done)
      rename_i k a k' b' _ k2 ht
      by_cases hk : k = k'
      · rw [decide_eq_true hk, cond_true] at h
        cases h
        subst hk
        exact run_equalIn_int w d t _ _ _ _ ht
      · rw [decide_eq_false hk, cond_false] at h; cases h
    · split at h <;> try (cases h; done)
      rename_i ht
      cases h
      rw [run_equalIn_string w d t _ _ ht, beq_toListBytes]
    · split at h
      · rename_i ht
        cases hp : P.stoodInHeld t with
        | true => rw [hp] at h; cases h
        | false =>
          rw [hp, cond_false] at h
          rw [run_equalIn_struct w d t _ _ (fieldsOf_eq ht) hp]
          exact eqFs_sound ih _ _ _ _ _ h
      · rename_i n el ht
        split at h <;> try (cases h; done)
        rename_i i hi
        rw [run_equalIn_array w d _ _ ht hi]
        exact eqIs_sound ih _ _ _ _ _ _ _ h
      · cases h

/-- A slice's address lies flat. -/
def FlatA (a : Option Addr) (n : Nat) : Prop := (a = none → n = 0) ∧ ∀ ad, a = some ad → n = 0 ∨ ad.spot = none
/-- The address of what a slice is cut at. -/
def subA (a : Option Addr) (c l sz : Nat) : Option Addr := if c = l then a else a.map (·.add (l * sz))

def evS (P : Program) (e : Env) (o : Oper) : Option (Value × Prop) :=
  match o.op with
  | .indexAddr T x i =>
    match rho e x, rho e i with
    | .slice a n _, .int _ z =>
      match P.underlying T with
      | some (.slice el) => match pureRun P (sizeOf el) with
        | some sz => some (.pointer (some ⟨ab a, ao a + z.toNat * sz, none⟩), 0 ≤ z ∧ z < n ∧ FlatA a n)
        | none => none
      | _ => none
    | .pointer (some ad), .int _ z =>
      match P.underlying T with
      | some (.array n el) => match pureRun P (sizeOf el) with
        | some sz => some (.pointer (some ⟨ad.block, ad.off + z.toNat * sz, none⟩), 0 ≤ z ∧ z < n ∧ ad.spot = none)
        | none => none
      | _ => none
    | _, _ => none
  | .binOp .quo _ x y _ =>
    match rho e x, rho e y with
    | .int k a, .int k' b => bif decide (k = k') then some (.int k (k.wrap (a.tdiv b)), b ≠ 0) else none
    | _, _ => none
  | .binOp .rem _ x y _ =>
    match rho e x, rho e y with
    | .int k a, .int k' b => bif decide (k = k') then some (.int k (a.tmod b), b ≠ 0) else none
    | _, _ => none
  | .binOp .eql T x y _ =>
    match rho e x, rho e y with
    | .agg xs, .agg ys => match eqAt P 10000 T (.agg xs) (.agg ys) with
      | some b => some (.bool b, P.eqGuardType P.depth T = false)
      | none => none
    | _, _ => none
  | .binOp .neq T x y _ =>
    match rho e x, rho e y with
    | .agg xs, .agg ys => match eqAt P 10000 T (.agg xs) (.agg ys) with
      | some b => some (.bool (!b), P.eqGuardType P.depth T = false)
      | none => none
    | _, _ => none
  | .slice T x lo hi none =>
    match rho e x, P.underlying T with
    | .slice a n c, some (.slice el) => match pureRun P (sizeOf el) with
      | some sz =>
        match lo.map (rho e), hi.map (rho e) with
        | none, none => some (.slice (subA a c 0 sz) n c, True)
        | some (.int _ l), none => some (.slice (subA a c l.toNat sz) (n - l.toNat) (c - l.toNat), 0 ≤ l ∧ l ≤ n)
        | none, some (.int _ h) => some (.slice (subA a c 0 sz) h.toNat c, 0 ≤ h ∧ h ≤ c)
        | some (.int _ l), some (.int _ h) => some (.slice (subA a c l.toNat sz) (h.toNat - l.toNat) (c - l.toNat), 0 ≤ l ∧ l ≤ h ∧ h ≤ c)
        | _, _ => none
      | none => none
    | _, _ => none
  | _ => none

/-- The address of an own slice's element. -/
def evO (P : Program) (e : Env) (h : Hs) (o : Oper) (t : Nat) : Option (Value × Prop) :=
  match o.op with
  | .indexAddr T x i =>
    match rho e x, rho e i, findE h t with
    | .slice a n _, .int _ z, some (.sl a' n' _ _ sz' _) =>
      match P.underlying T with
      | some (.slice el) => match pureRun P (sizeOf el) with
        | some sz => bif Nat.beq sz sz' then some (.pointer (some ⟨ab a, z.toNat * sz, none⟩), 0 ≤ z ∧ z < n ∧ a = a' ∧ n = n') else none
        | none => none
      | _ => none
    | _, _, _ => none
  | _ => none

/-- With the value given: what is asked. -/
def evW (P : Program) (e : Env) (o : Oper) (v : Value) : Option Prop :=
  match o.op with
  | .index T x i =>
    match rho e x, rho e i, P.underlying T with
    | .agg cs, .int _ z, some (.array n el) =>
      match pureRun P (sizeOf el), pureRun P (isAgg el) with
      | some 1, some false => some (0 ≤ z ∧ z < n ∧ cs.toList[z.toNat]? = some v)
      | _, _ => none
    | .string s, .int _ z, some .string => some (0 ≤ z ∧ ∃ b, s[z.toNat]? = some b ∧ v = .int .u8 b.toNat)
    | _, _, _ => none
  | _ => none

theorem run_sliceBound0 {P : Program} (w : World) (k : IntKind) (i : Int) (y : Nat) (code : BoundsCode) (h0 : 0 ≤ i) (h1 : i ≤ y) : (Instr.sliceBound (.int k i) y code).run P w = .ok i.toNat w := by
  simp [Instr.sliceBound, asIntOf, h0, h1]
theorem evS_sound {P : Program} {e : Env} {o : Oper} {v : Value} {c : Prop} (hev : evS P e o = some (v, c)) (hc : c) (w : World) : (execOp (rho e) o).run P w = .ok (.value v) w := by
  unfold evS at hev
  split at hev
  · rename_i T x i ho
    split at hev
    · rename_i a n cc k z hx hi
      split at hev <;> try (cases hev; done)
      rename_i el hT
      split at hev <;> try (cases hev; done)
      rename_i sz hsz
      cases hev
      obtain ⟨h0, h1, h2, h3⟩ := hc
      cases a with
      | none => have := h2 rfl; omega
      | some ad =>
        have hs : ad.spot = none := (h3 ad rfl).resolve_left (by omega)
        have had : ad.add (z.toNat * sz) = ⟨ab (some ad), ao (some ad) + z.toNat * sz, none⟩ := by
          obtain ⟨b, off, sp⟩ := ad
          cases hs
          rw [add_flat]; rfl
        simp only [execOp, ho, Instr.indexAt, hx, hi, asIntOf, Sem.run_bind, Sem.run_pure, Result.andThen_ok, run_underlying hT, h0, h1, and_self, if_true, pureRun_sound hsz w, had]
    · rename_i ad k z hx hi
      split at hev <;> try (cases hev; done)
      rename_i n el hT
      split at hev <;> try (cases hev; done)
      rename_i sz hsz
      cases hev
      obtain ⟨h0, h1, h2⟩ := hc
      have had : ad.add (z.toNat * sz) = ⟨ad.block, ad.off + z.toNat * sz, none⟩ := by
        obtain ⟨b, off, sp⟩ := ad
        cases h2
        rw [add_flat]
      simp only [execOp, ho, Instr.indexAt, hx, hi, asIntOf, Sem.run_bind, Sem.run_pure, Result.andThen_ok, run_underlying hT, Instr.sureAddr, h0, h1, and_self, if_true, pureRun_sound hsz w, had]
    · cases hev
  · rename_i T x y U ho
    split at hev <;> try (cases hev; done)
    rename_i k a k' b hx hy
    by_cases hk : k = k'
    · rw [decide_eq_true hk, cond_true] at hev
      cases hev
      subst hk
      simp only [execOp, ho, eqGuard, hx, hy, binOp, Op.intDiv, if_neg hc]
      simp
    · rw [decide_eq_false hk, cond_false] at hev; cases hev
  · rename_i T x y U ho
    split at hev <;> try (cases hev; done)
    rename_i k a k' b hx hy
    by_cases hk : k = k'
    · rw [decide_eq_true hk, cond_true] at hev
      cases hev
      subst hk
      simp only [execOp, ho, eqGuard, hx, hy, binOp, Op.intDiv, if_neg hc]
      simp
    · rw [decide_eq_false hk, cond_false] at hev; cases hev
  · rename_i T x y U ho
    split at hev <;> try (cases hev; done)
    rename_i xs ys hx hy
    split at hev <;> try (cases hev; done)
    rename_i b hb
    cases hev
    simp only [execOp, ho, hx, hy, Sem.run_bind, run_eqGuard_agg w .eql T x y xs ys hc, Result.andThen_ok, run_eql_struct w T xs ys, eqAt_sound 10000 T _ _ b w hb, Sem.run_pure]
  · rename_i T x y U ho
    split at hev <;> try (cases hev; done)
    rename_i xs ys hx hy
    split at hev <;> try (cases hev; done)
    rename_i b hb
    cases hev
    simp only [execOp, ho, hx, hy, Sem.run_bind, run_eqGuard_agg w .neq T x y xs ys hc, Result.andThen_ok, run_neq_struct w T xs ys, eqAt_sound 10000 T _ _ b w hb, Sem.run_pure]
  · rename_i T x lo hi ho
    split at hev <;> try (cases hev; done)
    rename_i a n cc el hx hT
    split at hev <;> try (cases hev; done)
    rename_i sz hsz
    split at hev <;> try (cases hev; done)
    · rename_i hlo hhi
      cases hev
      simp only [execOp, ho, Instr.sliceAt, Instr.slice, hx, hlo, hhi, Instr.sliceBounds, Sem.run_bind, Sem.run_pure, Result.andThen_ok, run_underlying hT, pureRun_sound hsz w, Option.map_none, Nat.sub_zero, subA]
    · rename_i k l hlo hhi
      cases hev
      obtain ⟨h0, h1⟩ := hc
      simp only [execOp, ho, Instr.sliceAt, Instr.slice, hx, hlo, hhi, Instr.sliceBounds, Sem.run_bind, Sem.run_pure, Result.andThen_ok, run_underlying hT, pureRun_sound hsz w, Option.map_none, run_sliceBound0 w k l n _ h0 h1, subA]
    · rename_i k h hlo hhi
      cases hev
      obtain ⟨h0, h1⟩ := hc
      simp only [execOp, ho, Instr.sliceAt, Instr.slice, hx, hlo, hhi, Instr.sliceBounds, Sem.run_bind, Sem.run_pure, Result.andThen_ok, run_underlying hT, pureRun_sound hsz w, Option.map_none, run_sliceBound0 w k h cc _ h0 h1, Nat.sub_zero, subA]
    · rename_i k l k' h hlo hhi
      cases hev
      obtain ⟨h0, h1, h2⟩ := hc
      simp only [execOp, ho, Instr.sliceAt, Instr.slice, hx, hlo, hhi, Instr.sliceBounds, Sem.run_bind, Sem.run_pure, Result.andThen_ok, run_underlying hT, pureRun_sound hsz w, Option.map_none, run_sliceBound0 w k' h cc _ (by omega) h2, run_sliceBound0 w k l h.toNat _ h0 (by omega), subA]
  · cases hev
theorem evO_sound {P : Program} {g : GH} {e : Env} {h : Hs} {o : Oper} {t : Nat} {v : Value} {c : Prop} (hev : evO P e h o t = some (v, c)) (hc : c) {w : World} (hw : Ok g h w) : (execOp (rho e) o).run P w = .ok (.value v) w := by
  unfold evO at hev
  split at hev <;> try (cases hev; done)
  rename_i T x i ho
  split at hev <;> try (cases hev; done)
  rename_i a n cc k z a' n' cc' T' sz' cs hx hi hf
  split at hev <;> try (cases hev; done)
  rename_i el hT
  split at hev <;> try (cases hev; done)
  rename_i sz hsz
  cases hb : Nat.beq sz sz' with
  | false => rw [hb] at hev; cases hev
  | true =>
    rw [hb, cond_true] at hev
    cases hev
    obtain ⟨h0, h1, rfl, rfl⟩ := hc
    have hh := hw.en _ (findE_mem hf)
    rcases ownsRow_key hh with ⟨rfl, rfl, _⟩ | ⟨b, cur, rfl, _⟩
    · omega
    · have had : (⟨b, 0, none⟩ : Addr).add (z.toNat * sz) = ⟨ab (some ⟨b, 0, none⟩), z.toNat * sz, none⟩ := by rw [add_flat, Nat.zero_add]; rfl
      simp only [execOp, ho, Instr.indexAt, hx, hi, asIntOf, Sem.run_bind, Sem.run_pure, Result.andThen_ok, run_underlying hT, h0, h1, and_self, if_true, pureRun_sound hsz w, had]
theorem evW_sound {P : Program} {e : Env} {o : Oper} {v : Value} {c : Prop} (hev : evW P e o v = some c) (hc : c) (w : World) : (execOp (rho e) o).run P w = .ok (.value v) w := by
  unfold evW at hev
  split at hev <;> try (cases hev; done)
  rename_i T x i ho
  split at hev <;> try (cases hev; done)
  · rename_i cs k z n el hx hi hT
    split at hev <;> try (cases hev; done)
    rename_i hsz hag
    cases hev
    obtain ⟨h0, h1, h2⟩ := hc
    have h2' : cs[z.toNat * 1]? = some v := by simpa using h2
    simp only [execOp, ho, Instr.index, hx, hi, asIntOf, Sem.run_bind, Sem.run_pure, Result.andThen_ok, run_underlying hT, h0, h1, and_self, if_true, pureRun_sound hsz w, part, pureRun_sound hag w, Bool.false_eq_true, if_false, h2']
  · rename_i s k z hx hi hT
    cases hev
    obtain ⟨h0, b, h1, rfl⟩ := hc
    simp only [execOp, ho, Instr.index, hx, hi, asIntOf, Sem.run_bind, Sem.run_pure, Result.andThen_ok, run_underlying hT, h0, if_true, h1]

def evN (P : Program) (e : Env) (h : Hs) (o : Oper) : Option Out :=
  match pureRun P (execOp (rho e) o) with
  | some (.value v) => some ⟨v, h, none⟩
  | some .skip => some ⟨undef, h, none⟩
  | _ => none
def evAl (P : Program) (e : Env) (h : Hs) (nb t : Nat) (o : Oper) : Option Out :=
  match o.op with
  | .alloc T =>
    match pureRun P (zeroValue T) with
    | some z => some ⟨.pointer (some ⟨nb, 0, none⟩), (t, .blk nb T z.cells.toList) :: h, none⟩
    | none => none
  | .box T x => some ⟨.pointer (some ⟨nb, 0, none⟩), (t, .blk nb T (rho e x).cells.toList) :: h, none⟩
  | .makeMap _ none => some ⟨.map (some nb), (t, .mp nb []) :: h, none⟩
  | .buildSlice T len parts =>
    match P.underlying T with
    | some (.slice el) => match pureRun P (sizeOf el), pureRun P (zeroValue el) with
      | some sz, some z => match Instr.fill (fun i => some (i * sz, sz)) ((Array.range (len * sz)).map (z.cells[· % z.cells.size]!)) (parts.map fun (i, x) => (i, rho e x)).toList with
        | some cells => bif Nat.ble (len * sz) 16777216 && Nat.ble len maxLen && Nat.beq cells.toList.length (len * sz) then
            some ⟨.slice (some ⟨nb, 0, none⟩) len len, (t, .sl (some ⟨nb, 0, none⟩) len len el sz cells.toList) :: h, none⟩ else none
        | none => none
      | _, _ => none
    | _ => none
  | _ => none
def evLd (P : Program) (e : Env) (h : Hs) (o : Oper) (t : Nat) : Option Out :=
  match o.op with
  | .load T x =>
    match rho e x with
    | .pointer (some ad) =>
      match findE h t, ad.spot with
      | some en, none =>
        match en.cells with
        | some (b, cs) =>
          match pureRun P (isAgg T), pureRun P (sizeOf T) with
          | some true, some sz =>
            let l := seg cs ad.off sz
            bif Nat.beq l.length sz then some ⟨.agg l.toArray, h, some (ad.block = b)⟩ else none
          | some false, some _ =>
            match cs[ad.off]? with
            | some v => some ⟨v, h, some (ad.block = b)⟩
            | none => none
          | _, _ => none
        | none => none
      | _, _ => none
    | _ => none
  | _ => none
def evLv (P : Program) (e : Env) (h : Hs) (o : Oper) (t : Nat) (v : Value) : Option Out :=
  match o.op with
  | .load T x =>
    match rho e x with
    | .pointer (some ad) =>
      match findE h t, ad.spot with
      | some en, none =>
        match en.cells with
        | some (b, cs) =>
          match pureRun P (isAgg T), pureRun P (sizeOf T) with
          | some ag, some sz => some ⟨v, h, some (ad.block = b ∧ OwnRead cs ad.off ag sz v)⟩
          | _, _ => none
        | none => none
      | _, _ => none
    | _ => none
  | _ => none
def evLg (P : Program) (g : GH) (e : Env) (h : Hs) (o : Oper) (v : Value) : Option Out :=
  match o.op with
  | .load T x =>
    match rho e x with
    | .pointer (some ad) =>
      match pureRun P (isAgg T), pureRun P (sizeOf T) with
      | some ag, some sz => some ⟨v, h, some (GLoad g ad ag sz v)⟩
      | _, _ => none
    | _ => none
  | _ => none
def evSt (P : Program) (e : Env) (h : Hs) (o : Oper) (t : Nat) : Option Out :=
  match o.op with
  | .store T x y =>
    match rho e x with
    | .pointer (some ad) =>
      match findE h t, ad.spot with
      | some en, none =>
        match en.cells with
        | some (b, cs) =>
          match pureRun P (sizeOf T) with
          | some sz =>
            let l := (rho e y).cells.toList
            bif Nat.beq l.length sz && Nat.ble (ad.off + l.length) cs.length && l.all (·.oneCell') then
              some ⟨undef, updE h t (en.setCells (splice cs ad.off l)), some (ad.block = b)⟩ else none
          | none => none
        | none => none
      | _, _ => none
    | _ => none
  | _ => none
def evSv (P : Program) (e : Env) (h : Hs) (o : Oper) (t : Nat) (cs' : List Value) : Option Out :=
  match o.op with
  | .store T x y =>
    match rho e x with
    | .pointer (some ad) =>
      match findE h t, ad.spot with
      | some en, none =>
        match en.cells with
        | some (b, cs) =>
          match pureRun P (sizeOf T) with
          | some sz =>
            some ⟨undef, updE h t (en.setCells cs'), some (ad.block = b ∧ (rho e y).cells.toList.length = sz ∧ ad.off + (rho e y).cells.toList.length ≤ cs.length ∧ (∀ u ∈ (rho e y).cells.toList, u.oneCell' = true) ∧ splice cs ad.off (rho e y).cells.toList = cs')⟩
          | none => none
        | none => none
      | _, _ => none
    | _ => none
  | _ => none

/-- What a lookup in a map of such entries yields. -/
def LookOk (P : Program) (T : TypeId) (es : List (Value × Value)) (k : Value) (cok : Bool) (v : Value) : Prop :=
  ∀ (w : World) (b : Nat) (o : Obj), w.heap[b]? = some o → isMap o es → (Instr.lookup T (.map (some b)) k cok).run P w = .ok v w
def evMg (P : Program) (e : Env) (h : Hs) (o : Oper) (t : Nat) (v : Value) : Option Out :=
  match o.op with
  | .lookup T x k cok =>
    match rho e x, findE h t with
    | .map (some b), some (.mp b' es) => some ⟨v, h, some (b = b' ∧ LookOk P T es (rho e k) cok v)⟩
    | _, _ => none
  | _ => none
theorem evMg_sound {P : Program} {g : GH} {e : Env} {h : Hs} {o : Oper} {t : Nat} {v : Value} {out : Out} (hev : evMg P e h o t v = some out) (hc : ∀ c, out.c = some c → c) {w : World} (hw : Ok g h w) : (execOp (rho e) o).run P w = .ok (.value out.v) w ∧ out.h = h := by
  unfold evMg at hev
  split at hev <;> try (cases hev; done)
  rename_i T x k cok ho
  split at hev <;> try (cases hev; done)
  rename_i b b' es hx hf
  cases hev
  obtain ⟨rfl, hl⟩ := hc _ rfl
  obtain ⟨o', ho', hm⟩ := hw.en _ (findE_mem hf)
  have := hl w b o' ho' hm
  refine ⟨?_, rfl⟩
  simp only [execOp, ho, hx, Sem.run_bind, this, Result.andThen_ok, Sem.run_pure]

def evOp (P : Program) (g : GH) (e : Env) (h : Hs) (nb : Nat) (hint : Hint) (o : Oper) : Option Out :=
  match hint with
  | .n => evN P e h o
  | .al t => evAl P e h nb t o
  | .ld t => evLd P e h o t
  | .lv t v => evLv P e h o t v
  | .lg v => evLg P g e h o v
  | .st t => evSt P e h o t
  | .sv t cs => evSv P e h o t cs
  | .sp v => some ⟨v, h, some (Sp P g h e o v)⟩
  | .s => match evS P e o with
    | some (v, c) => some ⟨v, h, some c⟩
    | none => none
  | .w v => match evW P e o v with
    | some c => some ⟨v, h, some c⟩
    | none => none
  | .o t => match evO P e h o t with
    | some (v, c) => some ⟨v, h, some c⟩
    | none => none
  | .mg t v => evMg P e h o t v

def Yield (v : Value) : Next → Prop
  | .value u => u = v
  | .skip => v = undef
  | _ => False

theorem rho_some {e : Env} {x : Operand} {v : Value} (h : rho e x = v) (hk : (opd e x).isSome = true) : opd e x = some v := by
  obtain ⟨u, hu⟩ := Option.isSome_iff_exists.1 hk
  rw [hu]; simp [rho, hu] at h; rw [h]

/-- One operation's reckoning is right. -/
theorem evOp_sound {P : Program} {g : GH} {e : Env} {h : Hs} {nb : Nat} {hint : Hint} {o : Oper} {out : Out} (hev : evOp P g e h nb hint o = some out) (hc : ∀ c, out.c = some c → c)
    {w : World} (hw : Ok g h w) (hnb : (∃ t, hint = .al t) → nb = w.heap.size) :
    ∃ nx w', (execOp (rho e) o).run P w = .ok nx w' ∧ Yield out.v nx ∧ Ok g out.h w' := by
  cases hint with
  | n =>
    simp only [evOp, evN] at hev
    split at hev
    · rename_i v hp; cases hev; exact ⟨_, w, pureRun_sound hp w, rfl, hw⟩
    · rename_i hp; cases hev; exact ⟨_, w, pureRun_sound hp w, rfl, hw⟩
    · cases hev
  | sp v =>
    cases hev
    exact ⟨_, w, hc _ rfl w hw, rfl, hw⟩
  | mg t v =>
    obtain ⟨h1, h2⟩ := evMg_sound (show evMg P e h o t v = some out from hev) hc hw
    exact ⟨_, w, h1, rfl, by rw [h2]; exact hw⟩
  | s =>
    simp only [evOp] at hev
    split at hev <;> try (cases hev; done)
    rename_i v c hs
    cases hev
    exact ⟨_, w, evS_sound hs (hc _ rfl) w, rfl, hw⟩
  | w v =>
    simp only [evOp] at hev
    split at hev <;> try (cases hev; done)
    rename_i c hs
    cases hev
    exact ⟨_, w, evW_sound hs (hc _ rfl) w, rfl, hw⟩
  | o t =>
    simp only [evOp] at hev
    split at hev <;> try (cases hev; done)
    rename_i v c hs
    cases hev
    exact ⟨_, w, evO_sound hs (hc _ rfl) hw, rfl, hw⟩
  | al t =>
    have hnb := hnb ⟨t, rfl⟩
    subst hnb
    simp only [evOp, evAl] at hev
    split at hev
    · rename_i T ho
      split at hev
      · rename_i z hz
        cases hev
        refine ⟨.value (.pointer (some ⟨w.heap.size, 0, none⟩)), w.alloc (.cells z.cells T), ?_, rfl, ?_⟩
        · simp only [execOp, ho, Instr.alloc, Sem.run_bind, pureRun_sound hz w, Result.andThen_ok, newVar, newRow, run_newObj, Sem.run_pure]
          rfl
        · refine hw.push (fun k hk => heap_alloc_old w _ hk) ?_ (fun k hk => by cases hk; exact Nat.le_refl _)
          show (w.alloc _).heap[w.heap.size]? = _
          rw [heap_alloc_new]
      · cases hev
    · rename_i T x ho
      cases hev
      refine ⟨.value (.pointer (some ⟨w.heap.size, 0, none⟩)), w.alloc (.cells (rho e x).cells T), ?_, rfl, ?_⟩
      · simp only [execOp, ho, Instr.box, Sem.run_bind, Result.andThen_ok, newVar, newRow, run_newObj, Sem.run_pure]
        rfl
      · refine hw.push (fun k hk => heap_alloc_old w _ hk) ?_ (fun k hk => by cases hk; exact Nat.le_refl _)
        show (w.alloc _).heap[w.heap.size]? = _
        rw [heap_alloc_new]
    · rename_i T ho
      cases hev
      refine ⟨.value (.map (some w.heap.size)), w.alloc (.map #[] 0), ?_, rfl, ?_⟩
      · simp only [execOp, ho, Option.map_none, Instr.makeMap, Sem.run_bind, Result.andThen_ok, run_newObj, Sem.run_pure]
        rfl
      · refine hw.push (fun k hk => heap_alloc_old w _ hk) ⟨_, heap_alloc_new w _, #[], 0, rfl, rfl, by simp, by simp⟩ (fun k hk => by cases hk; exact Nat.le_refl _)
    · rename_i T len parts ho
      split at hev <;> try (cases hev; done)
      rename_i el hT
      split at hev <;> try (cases hev; done)
      rename_i sz z hsz hz
      split at hev <;> try (cases hev; done)
      rename_i cells hf
      cases hb : (Nat.ble (len * sz) 16777216 && Nat.ble len maxLen && Nat.beq cells.toList.length (len * sz)) with
      | false => rw [hb] at hev; cases hev
      | true =>
        rw [hb] at hev
        cases hev
        simp only [Bool.and_eq_true, Nat.ble_eq, Nat.beq_eq] at hb
        obtain ⟨⟨h1, h2⟩, h3⟩ := hb
        have h1' : ¬ (len * sz > 2 ^ 24) := by omega
        refine ⟨.value (.slice (some ⟨w.heap.size, 0, none⟩) len len), w.alloc (.cells cells el), ?_, rfl, ?_⟩
        · by_cases h0' : len * sz = 0
          · rw [h0'] at hf
            simp only [execOp, ho, Instr.buildSlice, Sem.run_bind, run_underlying hT, Result.andThen_ok, pureRun_sound hsz w, h0', if_true]
            have e0 : ∀ z : Array Value, (Array.range 0).map (z[· % z.size]!) = #[] := fun z => by simp
            rw [e0] at hf
            rw [if_neg (by decide)]
            simp only [Sem.run_bind, Sem.run_pure, Result.andThen_ok]
            rw [e0]
            simp only [hf, Sem.run_bind, newRow, run_newObj, Result.andThen_ok, Sem.run_pure]
            rfl
          · simp only [execOp, ho, Instr.buildSlice, Sem.run_bind, run_underlying hT, Result.andThen_ok, pureRun_sound hsz w, if_neg h1', if_neg h0', pureRun_sound hz w, Sem.run_pure, hf, newRow, run_newObj]
            rfl
        · refine hw.push (fun k hk => heap_alloc_old w _ hk) (World.ownsRow_lit w cells len (Nat.zero_le _) h2 (by simpa using h3)) (fun k hk => by cases hk; exact Nat.le_refl _)
    · cases hev
  | ld t =>
    simp only [evOp, evLd] at hev
    split at hev <;> try (cases hev; done)
    rename_i T x ho
    split at hev <;> try (cases hev; done)
    rename_i ad hx
    split at hev <;> try (cases hev; done)
    rename_i en hf hsp
    split at hev <;> try (cases hev; done)
    rename_i b cs hcs
    have hh := hw.en _ (findE_mem hf)
    split at hev <;> try (cases hev; done)
    · rename_i sz hag hsz
      cases hb : Nat.beq (seg cs ad.off sz).length sz with
      | false => rw [hb] at hev; cases hev
      | true =>
        rw [hb] at hev
        cases hev
        have hbl : ad.block = b := hc _ rfl
        have hl := Nat.eq_of_beq_eq_true hb
        have had : ad = ⟨b, ad.off, none⟩ := by cases ad; simp_all
        have hr := run_loadCells_list (P := P) (w := w) ad (seg cs ad.off sz) (fun j u e1 => by rw [had, add_flat]; exact Ent.cell hh hcs (seg_get e1))
        rw [hl] at hr
        refine ⟨.value _, w, ?_, rfl, hw⟩
        simp only [execOp, ho, Instr.loadAt, hx, Instr.sureAddr, loadVar, Sem.run_bind, Sem.run_pure, Result.andThen_ok, pureRun_sound hag w, if_true, pureRun_sound hsz w, hr]
    · rename_i sz hag hsz
      split at hev <;> try (cases hev; done)
      rename_i v hv
      cases hev
      have hbl : ad.block = b := hc _ rfl
      have had : ad = ⟨b, ad.off, none⟩ := by cases ad; simp_all
      have hcell : w.cell? ad = some v := by rw [had]; exact Ent.cell hh hcs hv
      refine ⟨.value _, w, ?_, rfl, hw⟩
      simp only [execOp, ho, Instr.loadAt, hx, Instr.sureAddr, loadVar, Sem.run_bind, Sem.run_pure, Result.andThen_ok, pureRun_sound hag w, Bool.false_eq_true, if_false, run_load, hcell]
  | lv t v =>
    simp only [evOp, evLv] at hev
    split at hev <;> try (cases hev; done)
    rename_i T x ho
    split at hev <;> try (cases hev; done)
    rename_i ad hx
    split at hev <;> try (cases hev; done)
    rename_i en hf hsp
    split at hev <;> try (cases hev; done)
    rename_i b cs hcs
    have hh := hw.en _ (findE_mem hf)
    split at hev <;> try (cases hev; done)
    rename_i ag sz hag hsz
    cases hev
    obtain ⟨hbl, hor⟩ := hc _ rfl
    have had : ad = ⟨b, ad.off, none⟩ := by cases ad; simp_all
    cases ag with
    | true =>
      obtain ⟨hl, rfl⟩ : (seg cs ad.off sz).length = sz ∧ v = .agg (seg cs ad.off sz).toArray := hor
      have hr := run_loadCells_list (P := P) (w := w) ad (seg cs ad.off sz) (fun j u e1 => by rw [had, add_flat]; exact Ent.cell hh hcs (seg_get e1))
      rw [hl] at hr
      refine ⟨.value _, w, ?_, rfl, hw⟩
      simp only [execOp, ho, Instr.loadAt, hx, Instr.sureAddr, loadVar, Sem.run_bind, Sem.run_pure, Result.andThen_ok, pureRun_sound hag w, if_true, pureRun_sound hsz w, hr]
    | false =>
      have hcell : w.cell? ad = some v := by rw [had]; exact Ent.cell hh hcs hor
      refine ⟨.value _, w, ?_, rfl, hw⟩
      simp only [execOp, ho, Instr.loadAt, hx, Instr.sureAddr, loadVar, Sem.run_bind, Sem.run_pure, Result.andThen_ok, pureRun_sound hag w, Bool.false_eq_true, if_false, run_load, hcell]
  | lg v =>
    simp only [evOp, evLg] at hev
    split at hev <;> try (cases hev; done)
    rename_i T x ho
    split at hev <;> try (cases hev; done)
    rename_i ad hx
    split at hev <;> try (cases hev; done)
    rename_i ag sz hag hsz
    cases hev
    have hg : GLoad g ad ag sz v := hc _ rfl
    refine ⟨.value _, w, ?_, rfl, hw⟩
    cases ag with
    | true =>
      obtain ⟨cs, rfl, hl, hcs⟩ : ∃ cs : List Value, v = .agg cs.toArray ∧ cs.length = sz ∧ ∀ j u, cs[j]? = some u → gcell g (ad.add j) = some u := hg
      have hr := run_loadCells_list (P := P) (w := w) ad cs (fun j u e1 => gcell_cell hw (hcs j u e1))
      rw [hl] at hr
      simp only [execOp, ho, Instr.loadAt, hx, Instr.sureAddr, loadVar, Sem.run_bind, Sem.run_pure, Result.andThen_ok, pureRun_sound hag w, if_true, pureRun_sound hsz w, hr]
    | false =>
      have hcell : w.cell? ad = some v := gcell_cell hw hg
      simp only [execOp, ho, Instr.loadAt, hx, Instr.sureAddr, loadVar, Sem.run_bind, Sem.run_pure, Result.andThen_ok, pureRun_sound hag w, Bool.false_eq_true, if_false, run_load, hcell]
  | st t =>
    simp only [evOp, evSt] at hev
    split at hev <;> try (cases hev; done)
    rename_i T x y ho
    split at hev <;> try (cases hev; done)
    rename_i ad hx
    split at hev <;> try (cases hev; done)
    rename_i en hf hsp
    split at hev <;> try (cases hev; done)
    rename_i b cs hcs
    split at hev <;> try (cases hev; done)
    rename_i sz hsz
    cases hb : (Nat.beq (rho e y).cells.toList.length sz && Nat.ble (ad.off + (rho e y).cells.toList.length) cs.length && (rho e y).cells.toList.all (·.oneCell')) with
    | false => rw [hb] at hev; cases hev
    | true =>
      rw [hb] at hev
      cases hev
      simp only [Bool.and_eq_true, Nat.beq_eq, Nat.ble_eq, List.all_eq_true] at hb
      obtain ⟨⟨h1, h2⟩, h3⟩ := hb
      have hbl : ad.block = b := hc _ rfl
      have had : ad = ⟨b, ad.off, none⟩ := by cases ad; simp_all
      obtain ⟨w', hr, hw'⟩ := storeCells_own (P := P) hw hf hcs h2 h3
      refine ⟨.skip, w', ?_, rfl, hw'⟩
      have hz : (rho e y).cells.size = sz := by rw [← h1]; simp
      simp only [execOp, ho, Instr.storeAt, hx, Instr.sureAddr, storeVar, Sem.run_bind, Sem.run_pure, Result.andThen_ok, pureRun_sound hsz w, hz, ne_eq, not_true_eq_false, if_false]
      rw [had, hr]; rfl
  | sv t cs' =>
    simp only [evOp, evSv] at hev
    split at hev <;> try (cases hev; done)
    rename_i T x y ho
    split at hev <;> try (cases hev; done)
    rename_i ad hx
    split at hev <;> try (cases hev; done)
    rename_i en hf hsp
    split at hev <;> try (cases hev; done)
    rename_i b cs hcs
    split at hev <;> try (cases hev; done)
    rename_i sz hsz
    cases hev
    obtain ⟨hbl, h1, h2, h3, rfl⟩ := hc _ rfl
    have had : ad = ⟨b, ad.off, none⟩ := by cases ad; simp_all
    obtain ⟨w', hr, hw'⟩ := storeCells_own (P := P) hw hf hcs h2 h3
    refine ⟨.skip, w', ?_, rfl, hw'⟩
    have hz : (rho e y).cells.size = sz := by rw [← h1]; simp
    simp only [execOp, ho, Instr.storeAt, hx, Instr.sureAddr, storeVar, Sem.run_bind, Sem.run_pure, Result.andThen_ok, pureRun_sound hsz w, hz, ne_eq, not_true_eq_false, if_false]
    rw [had, hr]; rfl
end Go.Eng
