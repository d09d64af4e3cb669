/- Maps: looked into, and put into. -/
import Derived.Test.YtmkjcahdjphimaaE11
namespace Go.Eng
open Go

/-- What the keys of a type are told by: 'q' says which are one. -/
structure KeyT (P : Program) (kt : TypeId) {K : Type} (enc : K → Value) (q : K → K → Bool) : Prop where
  check : ∀ (em : Bool) (k : K) (w : World), (Instr.checkKey em 10000 kt (enc k)).run P w = .ok () w
  eq : ∀ (a b : K) (w : World), (Op.equal kt (enc a) (enc b)).run P w = .ok (q a b) w
  now : ∃ d, P.underlying kt = some d ∧ ((∀ a b, Instr.sameNow d (enc a) (enc b) = some (q a b)) ∨ (∀ a b, Instr.sameNow d (enc a) (enc b) = none))
  same : ∀ a b, q a b = true → enc a = enc b
  bits : ∀ a, Instr.sameBits 10000 (enc a) (enc a) = true

def mpE {K V : Type} (enc : K → Value) (ev : V → Value) (m : List (K × V)) : List (Value × Value) := m.map fun p => (enc p.1, ev p.2)
def mfind {K V : Type} (q : K → K → Bool) (k : K) : List (K × V) → Nat → Option (Nat × V)
  | [], _ => none
  | p :: r, i => bif q k p.1 then some (i, p.2) else mfind q k r (i + 1)
theorem mfind_get {K V : Type} (q : K → K → Bool) (k : K) : ∀ (m : List (K × V)) (i : Nat), (mfind q k m i).map (·.2) = mget q m k
  | [], _ => rfl
  | p :: r, i => by
    unfold mfind mget
    cases q k p.1
    · exact mfind_get q k r (i + 1)
    · rfl
theorem mfind_put {K V : Type} {q : K → K → Bool} {k : K} {v : V} : ∀ {m : List (K × V)} {i : Nat}, mfind q k m i = none → mput q m k v = m ++ [(k, v)]
  | [], _, _ => rfl
  | p :: r, i, h => by
    unfold mfind at h
    unfold mput
    cases hq : q k p.1
    · rw [hq] at h; exact congrArg (p :: ·) (mfind_put h)
    · rw [hq] at h; cases h
theorem mfind_set {K V : Type} {q : K → K → Bool} {k : K} {v u : V} {j : Nat} : ∀ {m : List (K × V)} {i : Nat}, mfind q k m i = some (j, u) → i ≤ j ∧ mput q m k v = m.set (j - i) (k, v) ∧ ∃ p, m[j - i]? = some p ∧ q k p.1 = true ∧ p.2 = u
  | [], _, h => by cases h
  | p :: r, i, h => by
    unfold mfind at h
    unfold mput
    cases hq : q k p.1
    · rw [hq] at h
      obtain ⟨h1, h2, h3⟩ := mfind_set (v := v) (show mfind q k r (i + 1) = some (j, u) from h)
      have e1 : j - i = (j - (i + 1)) + 1 := by omega
      refine ⟨by omega, ?_, ?_⟩
      · rw [e1, List.set_cons_succ]; exact congrArg (p :: ·) h2
      · rw [e1, List.getElem?_cons_succ]; exact h3
    · rw [hq] at h
      cases h
      refine ⟨Nat.le_refl _, ?_, p, ?_, hq, rfl⟩
      · rw [Nat.sub_self]; rfl
      · rw [Nat.sub_self]; rfl

section
variable {P : Program} {kt : TypeId} {K V : Type} {enc : K → Value} {q : K → K → Bool} {ev : V → Value}

theorem findAsking_run (kT : KeyT P kt enc q) (k : K) (w : World) : ∀ (es : List MapEntry) (m : List (K × V)) (i : Nat), es.map (fun e => (e.key, e.val)) = mpE enc ev m →
    (Instr.findAsking kt (enc k) es i).run P w = .ok ((mfind q k m i).map fun x => (x.1, ev x.2)) w
  | [], [], i, _ => rfl
  | [], _ :: _, _, h => by cases h
  | _ :: _, [], _, h => by cases h
  | e :: es, p :: m, i, h => by
    obtain ⟨h1, h2⟩ := List.cons.inj h
    have hk : e.key = enc p.1 := congrArg Prod.fst h1
    have hv : e.val = ev p.2 := congrArg Prod.snd h1
    unfold Instr.findAsking mfind
    simp only [Sem.run_bind, hk, kT.eq, Result.andThen_ok]
    cases q k p.1
    · simpa using findAsking_run kT k w es m (i + 1) h2
    · simp [hv]
theorem findNow_run {d : TypeDesc} (hd : ∀ a b, Instr.sameNow d (enc a) (enc b) = some (q a b)) (k : K) : ∀ (es : List MapEntry) (m : List (K × V)) (i : Nat), es.map (fun e => (e.key, e.val)) = mpE enc ev m →
    Instr.findNow d (enc k) es i = some ((mfind q k m i).map fun x => (x.1, ev x.2))
  | [], [], i, _ => rfl
  | [], _ :: _, _, h => by cases h
  | _ :: _, [], _, h => by cases h
  | e :: es, p :: m, i, h => by
    obtain ⟨h1, h2⟩ := List.cons.inj h
    have hk : e.key = enc p.1 := congrArg Prod.fst h1
    have hv : e.val = ev p.2 := congrArg Prod.snd h1
    unfold Instr.findNow mfind
    simp only [hk, hd]
    cases q k p.1
    · simpa using findNow_run hd k es m (i + 1) h2
    · simp [hv]
theorem findKey_run (kT : KeyT P kt enc q) (k : K) (w : World) (es : List MapEntry) (m : List (K × V)) (h : es.map (fun e => (e.key, e.val)) = mpE enc ev m) :
    (Instr.findKey kt (enc k) es).run P w = .ok ((mfind q k m 0).map fun x => (x.1, ev x.2)) w := by
  obtain ⟨d, hd, hn | hn⟩ := kT.now
  · unfold Instr.findKey
    simp only [Sem.run_bind, run_underlying hd w, Result.andThen_ok, findNow_run hn k es m 0 h, Sem.run_pure]
  · unfold Instr.findKey
    simp only [Sem.run_bind, run_underlying hd w, Result.andThen_ok]
    cases es with
    | nil =>
      cases m with
      | nil => rfl
      | cons p m => cases h
    | cons e es =>
      cases m with
      | nil => cases h
      | cons p m =>
        have hk : e.key = enc p.1 := congrArg Prod.fst (List.cons.inj h).1
        have : Instr.findNow d (enc k) (e :: es) 0 = none := by unfold Instr.findNow; rw [hk, hn]
        rw [this]
        exact findAsking_run kT k w _ _ 0 h

/-- What a lookup yields. -/
def lookV (ev : V → Value) (cok : Bool) (z : V) (r : Option V) : Value := bif cok then .tuple #[ev (r.getD z), .bool r.isSome] else ev (r.getD z)
theorem look_ok {T el : TypeId} {cok : Bool} {m : List (K × V)} {k : K} {z : V} (kT : KeyT P kt enc q) (hT : P.underlying T = some (.map kt el)) (hz : pureRun P (zeroValue el) = some (ev z)) {r : Option V} (hr : mget q m k = r) : LookOk P T (mpE enc ev m) (enc k) cok (lookV ev cok z r) := by
  subst hr
  intro w b ob hob hm
  obtain ⟨a, clk, rfl, he, _⟩ := hm
  have hg : (getObj b).run P w = .ok (.map a clk) w := by simp [getObj, Sem.run, hob]
  have hfk := findKey_run (ev := ev) kT k w a.toList m he
  have hmg := mfind_get q k m 0
  simp only [Instr.lookup, Sem.run_bind, run_underlying hT w, Result.andThen_ok, hg, Sem.run_pure, kT.check, hfk]
  cases hr : mfind q k m 0 with
  | none =>
    rw [hr] at hmg
    rw [← hmg]
    simp only [Option.map_none, Sem.run_bind, pureRun_sound hz w, Result.andThen_ok, Sem.run_pure]
    cases cok <;> rfl
  | some jv =>
    rw [hr] at hmg
    rw [← hmg]
    simp only [Option.map_some, Sem.run_pure, Result.andThen_ok]
    cases cok <;> rfl

def isAggD : Option TypeDesc → Bool
  | some (.struct _) => true
  | some (.array _ _) => true
  | _ => false
theorem KeyT.agg {enc' : K → List Value} (hd : isAggD (P.underlying kt) = true) (check : ∀ (em : Bool) (k : K) (w : World), (Instr.checkKey em 10000 kt (.agg (enc' k).toArray)).run P w = .ok () w)
    (eq : ∀ (a b : K) (w : World), (Op.equal kt (.agg (enc' a).toArray) (.agg (enc' b).toArray)).run P w = .ok (q a b) w) (same : ∀ a b, q a b = true → enc' a = enc' b) (bits : ∀ a, ∀ v ∈ enc' a, Instr.sameBits 9999 v v = true) : KeyT P kt (fun k => .agg (enc' k).toArray) q := by
  refine ⟨check, eq, ?_, fun a b h => by rw [same a b h], fun a => ?_⟩
  · cases hu : P.underlying kt with
    | none => rw [hu] at hd; cases hd
    | some d =>
      rw [hu] at hd
      refine ⟨d, rfl, .inr fun a b => ?_⟩
      cases d <;> first | rfl | cases hd
  · show (_ && _) = true
    simp only [BEq.rfl, Bool.true_and, List.all_eq_true]
    intro p hp
    obtain ⟨x, y⟩ := p
    have : x = y ∧ x ∈ enc' a := by
      have hz : ∀ (l : List Value), (x, y) ∈ l.zip l → x = y ∧ x ∈ l := by
        intro l
        induction l with
        | nil => intro h; cases h
        | cons u l ih =>
          intro h
          rw [List.zip_cons_cons] at h
          rcases List.mem_cons.1 h with h | h
          · cases h; exact ⟨rfl, by simp⟩
          · obtain ⟨h1, h2⟩ := ih h; exact ⟨h1, by simp [h2]⟩
      exact hz _ hp
    obtain ⟨rfl, hm⟩ := this
    exact bits a x hm
def isStrD : Option TypeDesc → Bool
  | some .string => true
  | _ => false
theorem KeyT.str (hd : isStrD (P.underlying kt) = true) (check : ∀ (em : Bool) (k : ByteArray) (w : World), (Instr.checkKey em 10000 kt (.string k)).run P w = .ok () w)
    (eq : ∀ (a b : ByteArray) (w : World), (Op.equal kt (.string a) (.string b)).run P w = .ok (a == b) w) : KeyT P kt Value.string (fun a b => a == b) := by
  refine ⟨check, eq, ?_, fun a b h => by rw [bytes_beq.1 h], fun a => ?_⟩
  · cases hu : P.underlying kt with
    | none => rw [hu] at hd; cases hd
    | some d =>
      rw [hu] at hd
      refine ⟨d, rfl, .inl fun a b => ?_⟩
      cases d <;> first | rfl | cases hd
  · exact bytes_beq.2 rfl
theorem eqA_get {xs ys : List Int} : ∀ {is : List Nat}, eqA xs ys is = true → ∀ i ∈ is, xs.getD i 0 = ys.getD i 0
  | [], _, i, hi => by cases hi
  | j :: is, h, i, hi => by
    unfold eqA at h
    simp only [Bool.and_eq_true, beq_iff_eq] at h
    rcases List.mem_cons.1 hi with rfl | hi
    · exact h.1
    · exact eqA_get h.2 i hi
theorem arrC_same {n : Nat} {k : IntKind} {xs ys : List Int} (h : eqA xs ys (List.range n) = true) : arrC n k xs = arrC n k ys := by
  unfold arrC
  exact List.map_congr_left fun i hi => by rw [eqA_get h i hi]
theorem arrC_bits {n : Nat} {k : IntKind} {xs : List Int} : ∀ v ∈ arrC n k xs, Instr.sameBits 9999 v v = true := by
  intro v hv
  obtain ⟨i, _, rfl⟩ := List.mem_map.1 (show v ∈ (List.range n).map _ from hv)
  show (_ && _) = true
  simp

def updAt (ops : Array Oper) (i n : Nat) (e : Env) : Option (TypeId × Nat × Value × Value × Option Tmp) :=
  match ops[i]? with
  | some o =>
    match o.op, guardOf ops e o with
    | .mapUpdate T x k v, some true =>
      match rho e x, known e [x, k, v] && dstOk n o.dst with
      | .map (some b), true => some (T, b, rho e k, rho e v, o.dst)
      | _, _ => none
    | _, _ => none
  | none => none
end

theorem isMap_put {K V : Type} {q : K → K → Bool} {enc : K → Value} {ev : V → Value} {a : Array MapEntry} {clk : Nat} {m : List (K × V)} (he : a.toList.map (fun e => (e.key, e.val)) = mpE enc ev m) (hb : (a.toList.map (·.born)).Nodup) (hl : ∀ e ∈ a.toList, e.born < clk) (k : K) (v : V) (hn : mfind q k m 0 = none) :
    isMap (.map (a.push { key := enc k, val := ev v, born := clk }) (clk + 1)) (mpE enc ev (mput q m k v)) := by
  refine ⟨_, _, rfl, ?_, ?_, ?_⟩
  · rw [mfind_put hn]; simp only [mpE, Array.toList_push, List.map_append, he, List.map_cons, List.map_nil]
  · simp only [Array.toList_push, List.map_append, List.map_cons, List.map_nil]
    refine List.nodup_append.2 ⟨hb, by simp, ?_⟩
    intro x hx y hy
    obtain ⟨e, he', rfl⟩ := List.mem_map.1 hx
    have := hl e he'
    simp at hy; omega
  · intro e hm
    simp only [Array.toList_push, List.mem_append, List.mem_singleton] at hm
    rcases hm with hm | rfl
    · have := hl e hm; omega
    · simp
theorem isMap_set {K V : Type} {q : K → K → Bool} {enc : K → Value} {ev : V → Value} {a : Array MapEntry} {clk j : Nat} {m : List (K × V)} (he : a.toList.map (fun e => (e.key, e.val)) = mpE enc ev m) (hb : (a.toList.map (·.born)).Nodup) (hl : ∀ e ∈ a.toList, e.born < clk) (k : K) (v u : V) (hn : mfind q k m 0 = some (j, u)) :
    isMap (.map (a.modify j fun e => { e with key := enc k, val := ev v }) clk) (mpE enc ev (mput q m k v)) := by
  obtain ⟨_, h2, p, h3, _⟩ := mfind_set (v := v) hn
  rw [Nat.sub_zero] at h2 h3
  have hj : j < a.size := by
    have h4 : j < m.length := (List.getElem?_eq_some_iff.1 h3).1
    have := congrArg List.length he
    simp [mpE] at this; omega
  have hm : (a.modify j fun e => { e with key := enc k, val := ev v }).toList = a.toList.set j { a[j] with key := enc k, val := ev v } := by
    apply List.ext_getElem?
    intro i
    simp only [Array.getElem?_toList, Array.getElem?_modify, List.getElem?_set, Array.length_toList]
    by_cases hij : j = i
    · subst hij; simp [hj]
    · simp [hij]
  refine ⟨_, _, rfl, ?_, ?_, ?_⟩
  · rw [hm, h2, List.map_set, he]; simp [mpE, List.map_set]
  · rw [hm, List.map_set]
    have : (a.toList.map (·.born)).set j (a[j]).born = a.toList.map (·.born) := by
      apply List.ext_getElem?
      intro i
      rw [List.getElem?_set]
      by_cases hij : j = i
      · subst hij; simp [hj]
      · simp [hij]
    show ((a.toList.map (·.born)).set j (a[j]).born).Nodup
    rw [this]; exact hb
  · intro e hmem
    rw [hm] at hmem
    rcases List.mem_or_eq_of_mem_set hmem with h | rfl
    · exact hl e h
    · exact hl a[j] (by simp)

section
variable {P : Program} {ρ : Option Nat} {c : Code} {Q : Post} {n : Nat} {e : Env} {d : List Deferred} {g : GH} {h : Hs} {kt : TypeId} {K V : Type} {enc : K → Value} {q : K → K → Bool} {ev : V → Value}
theorem U.put {i T el b t : Nat} {dst : Option Tmp} (m : List (K × V)) (k : K) (v : V) (kT : KeyT P kt enc q) (hT : P.underlying T = some (.map kt el)) (ha : updAt (opsOf c) i n e = some (T, b, enc k, ev v, dst)) (hf : findE h t = some (.mp b (mpE enc ev m))) :
    Stp P ρ (opsOf c) i ⟨n, e, d, g, h⟩ (fun _ : Unit => True) (fun _ => ⟨n, putE e dst undef, d, g, updE h t (.mp b (mpE enc ev (mput q m k v)))⟩) := by
  intro a w hs R hR Q
  unfold updAt at ha
  cases ho : (opsOf c)[i]? with
  | none => rw [ho] at ha; cases ha
  | some o =>
    rw [ho] at ha
    simp only at ha
    split at ha <;> try (cases ha; done)
    rename_i T' x y z hop hgd
    split at ha <;> try (cases ha; done)
    rename_i b' hx hkn
    obtain ⟨rfl, rfl, hy, hz, rfl⟩ : T' = T ∧ b' = b ∧ rho e y = enc k ∧ rho e z = ev v ∧ o.dst = dst := by simpa using ha
    simp only [Bool.and_eq_true] at hkn
    unfold wpOpIn
    simp only [ho]
    rw [guardOf_sound hgd hs.env, if_pos rfl]
    refine ⟨fun _ _ => trivial, ?_⟩
    rw [Oper.semAt_eq _ _ _ (by rw [hop]; intro c e; cases e)]
    have hx' : a.eval x = .map (some b') := by rw [← hs.env.rho hkn.1 x (by simp)]; exact hx
    have hy' : a.eval y = enc k := by rw [← hs.env.rho hkn.1 y (by simp)]; exact hy
    have hz' : a.eval z = ev v := by rw [← hs.env.rho hkn.1 z (by simp)]; exact hz
    obtain ⟨ob, hob, arr, clk, rfl, he, hbn, hbl⟩ := hs.ok.en _ (findE_mem hf)
    have hg : (getObj b').run P w = .ok (.map arr clk) w := by simp [getObj, Sem.run, hob]
    have hset : ∀ o', (setObj b' o').run P w = .ok () (w.putObj b' o') := fun o' => by simp [setObj, Sem.run, hob, World.putObj]
    have hfk := findKey_run (ev := ev) kT k w arr.toList m he
    have hlt := (Array.getElem?_eq_some_iff.1 hob).1
    have fin : ∀ o', isMap o' (mpE enc ev (mput q m k v)) → Ok g (updE h t (.mp b' (mpE enc ev (mput q m k v)))) (w.putObj b' o') := fun o' hm =>
      hs.ok.upd hf (fun k _ hk => World.putObj_heap_other fun e => hk (by rw [e]; rfl)) ⟨o', World.putObj_heap_same hlt, hm⟩ (fun k hk => .inl hk)
    cases hr : mfind q k m 0 with
    | none =>
      have hrun : (execOp a.eval o).run P w = .ok .skip (w.putObj b' (.map (arr.push { key := enc k, val := ev v, born := clk }) (clk + 1))) := by
        rw [hr] at hfk
        simp only [execOp, hop, hx', hy', hz', Instr.mapUpdate, Sem.run_bind, run_underlying hT w, Result.andThen_ok, hg, kT.check, hfk, Option.map_none, hset, Sem.run_pure]
      rw [hrun]
      exact hR () _ _ trivial (hs.put hkn.2 (fin _ (isMap_put he hbn hbl k v hr)))
    | some ju =>
      obtain ⟨j, u⟩ := ju
      obtain ⟨_, _, p, h3, h4, h5⟩ := mfind_set (v := v) hr
      rw [Nat.sub_zero] at h3
      have hkey : (((arr[j]?).map (·.key)).getD (enc k)) = enc k := by
        have : (arr.toList.map (fun e => (e.key, e.val)))[j]? = (mpE enc ev m)[j]? := by rw [he]
        simp only [mpE, List.getElem?_map, h3, Option.map_some, Array.getElem?_toList] at this
        cases ha : arr[j]? with
        | none => rw [ha] at this; cases this
        | some e0 =>
          rw [ha] at this
          simp only [Option.map_some, Option.some.injEq, Prod.mk.injEq] at this
          simp only [Option.map_some, Option.getD_some, this.1]
          exact (kT.same _ _ h4).symm
      have hrun : (execOp a.eval o).run P w = .ok .skip (w.putObj b' (.map (arr.modify j fun e => { e with key := enc k, val := ev v }) clk)) := by
        rw [hr] at hfk
        simp only [execOp, hop, hx', hy', hz', Instr.mapUpdate, Sem.run_bind, run_underlying hT w, Result.andThen_ok, hg, kT.check, hfk, Option.map_some, hkey, Instr.keyThatStays, kT.bits, if_true, hset, Sem.run_pure]
      rw [hrun]
      exact hR () _ _ trivial (hs.put hkn.2 (fin _ (isMap_set he hbn hbl k v u hr)))
end
end Go.Eng
