/- The rules of the walk, over what is told: regions, branches, blocks, loops, returns, calls. -/
import Derived.Test.YtmkjcahdjphimaaE3
namespace Go.Eng
open Go

structure St where
  n : Nat
  e : Env
  d : List Deferred
  g : GH
  h : Hs
structure St.ok (s : St) (a : Act) (w : World) : Prop where
  env : EnvOk s.n s.e a
  df : a.defers = s.d
  ok : Ok s.g s.h w

def putE (e : Env) (dst : Option Tmp) (v : Value) : Env :=
  match dst with
  | some d => (d, v) :: e
  | none => e
def dstOk (n : Nat) (dst : Option Tmp) : Bool :=
  match dst with
  | some d => Nat.blt d n
  | none => true
theorem EnvOk.put {n : Nat} {e : Env} {a : Act} (h : EnvOk n e a) {dst : Option Tmp} (hd : dstOk n dst = true) (v : Value) : EnvOk n (putE e dst v) (a.put dst v) := by
  cases dst with
  | none => exact h
  | some d =>
    have hlt : d < n := by simpa [dstOk, Nat.blt_eq] using hd
    refine ⟨by simp [Act.put, h.sz], ?_⟩
    intro t u hu
    simp only [putE, look] at hu
    cases hb : Nat.beq d t with
    | true =>
      rw [hb] at hu; cases hu
      obtain rfl := Nat.eq_of_beq_eq_true hb
      simp [Act.put, h.sz, hlt]
    | false =>
      rw [hb] at hu
      have hne : d ≠ t := fun e1 => by rw [e1, Nat.beq_refl] at hb; cases hb
      have := h.ev t u hu
      simp [Act.put, hne, this]
theorem St.ok.put {s : St} {a : Act} {w : World} (h : s.ok a w) {dst : Option Tmp} (hd : dstOk s.n dst = true) {v : Value} {h' : Hs} {g' : GH} {w' : World} (hw : Ok g' h' w') :
    ({ s with e := putE s.e dst v, g := g', h := h' } : St).ok (a.put dst v) w' := by
  refine ⟨h.env.put hd v, ?_, hw⟩
  cases dst <;> exact h.df

def opsOf : Code → Array Oper
  | .region _ ops _ => ops
  | _ => #[]
def isReg : Code → Bool
  | .region _ _ false => true
  | _ => false
theorem isReg_spec {c : Code} (h : isReg c = true) : ∃ id, c = .region id (opsOf c) false := by
  cases c <;> try (cases h; done)
  rename_i id ops d
  cases d
  · exact ⟨id, rfl⟩
  · cases h

/-- How the code's parts are named: '.l' the first, '.r' the second. -/
def _root_.Go.Code.l : Code → Code
  | .seq a _ => a
  | .cond _ a _ => a
  | .block _ c => c
  | .loop c => c
  | .scope c => c
  | .rangeFunc _ _ a _ => a
  | c => c
def _root_.Go.Code.r : Code → Code
  | .seq _ b => b
  | .cond _ _ b => b
  | .rangeFunc _ _ _ b => b
  | c => c

abbrev Post := Exit → Act → World → Prop
def WP (P : Program) (ρ : Option Nat) (c : Code) (Q : Post) (s : St) : Prop := ∀ a w, s.ok a w → c.wpIn (FW ρ) 0 P Q a w
def PO (Q : Post) (x : Exit) (s : St) : Prop := ∀ a w, s.ok a w → Q x a w
def WO (P : Program) (ρ : Option Nat) (c : Code) (Q : Post) (i : Nat) (s : St) : Prop :=
  ∀ a w, s.ok a w → wpOpsIn (FW ρ) 0 P (opsOf c) Q (List.range' i ((opsOf c).size - i)) a w
/-- What follows. -/
def Nx (P : Program) (ρ : Option Nat) (c : Code) (Q : Post) : Post := Exit.then (c.wpIn (FW ρ) 0 P Q) Q

section
variable {P : Program} {ρ : Option Nat} {c : Code} {Q : Post} {s : St}

theorem PO.nx (h : WP P ρ c Q s) : PO (Nx P ρ c Q) .normal s := h
theorem PO.nx_ret (h : PO Q .ret s) : PO (Nx P ρ c Q) .ret s := h
theorem PO.nx_exit {id : Nat} (h : PO Q (.exit id) s) : PO (Nx P ρ c Q) (.exit id) s := h
theorem PO.nx_panic {ch : List PanicEntry} (h : PO Q (.panic ch) s) : PO (Nx P ρ c Q) (.panic ch) s := h
theorem PO.blk_normal {id : Nat} (h : PO Q .normal s) : PO (Exit.inBlock id Q) .normal s := h
theorem PO.blk_ret {id : Nat} (h : PO Q .ret s) : PO (Exit.inBlock id Q) .ret s := h
theorem PO.blk_panic {id : Nat} {ch : List PanicEntry} (h : PO Q (.panic ch) s) : PO (Exit.inBlock id Q) (.panic ch) s := h
theorem PO.blk_exit {id : Nat} (h : PO Q .normal s) : PO (Exit.inBlock id Q) (.exit id) s := fun a w hs => by
  show if id = id then _ else _
  rw [if_pos rfl]; exact h a w hs
theorem PO.blk_other {id id' : Nat} (hn : Nat.beq id' id = false) (h : PO Q (.exit id') s) : PO (Exit.inBlock id Q) (.exit id') s := fun a w hs => by
  show if id' = id then _ else _
  rw [if_neg (fun e => by rw [e, Nat.beq_refl] at hn; cases hn)]; exact h a w hs

def isSeq : Code → Bool | .seq _ _ => true | _ => false
theorem WP.seq (hc : isSeq c = true) (h : WP P ρ c.l (Nx P ρ c.r Q) s) : WP P ρ c Q s := by
  cases c <;> try (cases hc; done)
  exact fun a w hs => wpIn_seq (h a w hs)
def blockId : Code → Option Nat | .block id _ => some id | _ => none
theorem WP.block {id : Nat} (hc : blockId c = some id) (h : WP P ρ c.l (Exit.inBlock id Q) s) : WP P ρ c Q s := by
  cases c <;> try (cases hc; done)
  cases hc
  exact fun a w hs => wpIn_block (h a w hs)
def isSkip : Code → Bool | .skip => true | _ => false
theorem WP.skip (hc : isSkip c = true) (h : PO Q .normal s) : WP P ρ c Q s := by
  cases c <;> try (cases hc; done)
  exact fun a w hs => wpIn_skip (h a w hs)
def isRet : Code → Bool | .ret => true | _ => false
theorem WP.ret (hc : isRet c = true) (h : PO Q .ret s) : WP P ρ c Q s := by
  cases c <;> try (cases hc; done)
  exact fun a w hs => wpIn_ret (h a w hs)
def exitId : Code → Option Nat | .exit id => some id | _ => none
theorem WP.exit {id : Nat} (hc : exitId c = some id) (h : PO Q (.exit id) s) : WP P ρ c Q s := by
  cases c <;> try (cases hc; done)
  cases hc
  exact fun a w hs => wpIn_exit (h a w hs)
def condOf : Code → Option Operand | .cond x _ _ => some x | _ => none
theorem WP.condT (hc : (condOf c).bind (opd s.e) = some (.bool true)) (h : WP P ρ c.l Q s) : WP P ρ c Q s := by
  cases c <;> try (cases hc; done)
  exact fun a w hs => wpIn_cond_true (hs.env.opd hc) (h a w hs)
theorem WP.condF (hc : (condOf c).bind (opd s.e) = some (.bool false)) (h : WP P ρ c.r Q s) : WP P ρ c Q s := by
  cases c <;> try (cases hc; done)
  exact fun a w hs => wpIn_cond_false (hs.env.opd hc) (h a w hs)

/-- A loop, by a number of rounds that are left. -/
def isLoop : Code → Bool | .loop _ => true | _ => false
def LoopQ (J : Nat → St → Prop) (k : Nat) (Q : Post) : Post := Exit.then (fun a w => ∃ k' s', k' < k ∧ J k' s' ∧ s'.ok a w) Q
theorem least_of {I : Nat → Prop} (h : ∃ k, I k) : ∃ m, I m ∧ ∀ k, I k → m ≤ k := by
  obtain ⟨k, hk⟩ := h
  induction k using Nat.strongRecOn with
  | _ k ih =>
    by_cases hx : ∃ j, j < k ∧ I j
    · obtain ⟨j, hj, hI⟩ := hx
      exact ih j hj hI
    · refine ⟨k, hk, fun j hj => ?_⟩
      rcases Nat.lt_or_ge j k with hlt | hge
      · exact absurd ⟨j, hlt, hj⟩ hx
      · exact hge
theorem WP.loop (hc : isLoop c = true) (J : Nat → St → Prop) (round : ∀ k s, J k s → WP P ρ c.l (LoopQ J k Q) s) {k : Nat} (h0 : J k s) : WP P ρ c Q s := by
  cases c <;> try (cases hc; done)
  rename_i body
  intro a w hs
  let I : Nat → Act → World → Prop := fun k a w => ∃ s, J k s ∧ s.ok a w
  have hI : ∃ k, I k a w := ⟨k, s, h0, hs⟩
  classical
  refine wpIn_loop (fun a w => ∃ k, I k a w) (fun a w => if hx : ∃ k, I k a w then Classical.choose (least_of hx) else 0) hI ?_
  intro a w hx
  obtain ⟨s1, hJ, hs1⟩ := (Classical.choose_spec (least_of hx)).1
  refine wpIn_mono (round _ s1 hJ a w hs1) ?_
  intro e a' w' hq
  cases e <;> try exact hq
  obtain ⟨k', s', hlt, hJ', hs'⟩ := hq
  have hx' : ∃ k, I k a' w' := ⟨k', s', hJ', hs'⟩
  refine ⟨hx', ?_⟩
  rw [dif_pos hx, dif_pos hx']
  exact Nat.lt_of_le_of_lt ((Classical.choose_spec (least_of hx')).2 _ ⟨s', hJ', hs'⟩) hlt
theorem PO.again {J : Nat → St → Prop} {k k' : Nat} (hk : k' < k) {s' : St} (hJ : J k' s') (hsub : ∀ a w, s.ok a w → s'.ok a w) : PO (LoopQ J k Q) .normal s :=
  fun a w hs => ⟨k', s', hk, hJ, hsub a w hs⟩
theorem PO.lp_exit {J : Nat → St → Prop} {k id : Nat} (h : PO Q (.exit id) s) : PO (LoopQ J k Q) (.exit id) s := h
theorem PO.lp_ret {J : Nat → St → Prop} {k : Nat} (h : PO Q .ret s) : PO (LoopQ J k Q) .ret s := h
theorem PO.lp_panic {J : Nat → St → Prop} {k : Nat} {ch : List PanicEntry} (h : PO Q (.panic ch) s) : PO (LoopQ J k Q) (.panic ch) s := h

/-- Less is told. -/
def selE (e : Env) (ts : List Nat) : Env := ts.filterMap fun t => (look e t).map (t, ·)
theorem look_selE {e : Env} : ∀ {ts : List Nat} {t : Nat} {v : Value}, look (selE e ts) t = some v → look e t = some v
  | [], t, v, h => by cases h
  | x :: r, t, v, h => by
    unfold selE at h
    rw [List.filterMap_cons] at h
    cases hx : look e x with
    | none => simp only [hx, Option.map_none] at h; exact look_selE (ts := r) h
    | some u =>
      simp only [hx, Option.map_some, look] at h
      cases hb : Nat.beq x t with
      | true => rw [hb] at h; cases h; rw [← Nat.eq_of_beq_eq_true hb]; exact hx
      | false => rw [hb] at h; exact look_selE (ts := r) h
theorem St.ok.sel {s : St} {a : Act} {w : World} (h : s.ok a w) (ts : List Nat) : ({ s with e := selE s.e ts } : St).ok a w :=
  ⟨⟨h.env.sz, fun t v e => h.env.ev t v (look_selE e)⟩, h.df, h.ok⟩
theorem St.ok.pick {s : St} {a : Act} {w : World} (h : s.ok a w) (m : Nat) (is : List Nat) (hn : is.all (fun i => is.count i == 1) = true) : ({ s with h := pickN m s.h is } : St).ok a w :=
  ⟨h.env, h.df, h.ok.pickN m is (nodupB hn)⟩
theorem WP.weak {s' : St} (hs : ∀ a w, s.ok a w → s'.ok a w) (h : WP P ρ c Q s') : WP P ρ c Q s := fun a w h1 => h a w (hs a w h1)
theorem PO.weak {s' : St} {x : Exit} (hs : ∀ a w, s.ok a w → s'.ok a w) (h : PO Q x s') : PO Q x s := fun a w h1 => h a w (hs a w h1)
theorem WO.weak {s' : St} {i : Nat} (hs : ∀ a w, s.ok a w → s'.ok a w) (h : WO P ρ c Q i s') : WO P ρ c Q i s := fun a w h1 => h a w (hs a w h1)

/-- The stretch of operations from i on, m of them. -/
def guardOf (ops : Array Oper) (e : Env) (o : Oper) : Option Bool :=
  match o.guard with
  | none => some true
  | some (j, want) =>
    match (ops[j]?).bind (·.dst) with
    | some d =>
      match look e d with
      | some (.bool b) => some (b == want)
      | some (.tuple _) => some false
      | _ => none
    | none => none
def hintOf (hs : List (Nat × Hint)) (i : Nat) : Hint :=
  match hs with
  | [] => .n
  | (j, x) :: r => bif Nat.beq j i then x else hintOf r i
def stepP (n : Nat) (e : Env) (o : Oper) (out : Option Out) (K : Env → Hs → Prop) : Prop :=
  match out, noSel o.op && known e o.op.operands.toList && dstOk n o.dst with
  | some r, true =>
    match r.c with
    | none => K (putE e o.dst r.v) r.h
    | some c => c ∧ K (putE e o.dst r.v) r.h
  | _, _ => False
def segP (P : Program) (g : GH) (n : Nat) (ops : Array Oper) (hs : List (Nat × Hint)) : Nat → Nat → Env → Hs → (Env → Hs → Prop) → Prop
  | 0, _, e, h, K => K e h
  | m + 1, i, e, h, K =>
    match ops[i]? with
    | none => False
    | some o =>
      match guardOf ops e o with
      | none => False
      | some false =>
        match dstOk n o.dst with
        | true => segP P g n ops hs m (i + 1) (putE e o.dst undef) h K
        | false => False
      | some true =>
        match hintOf hs i with
        | .al t => ∀ nb, stepP n e o (evOp P g e h nb (.al t) o) fun e h => segP P g n ops hs m (i + 1) e h K
        | x => stepP n e o (evOp P g e h 0 x o) fun e h => segP P g n ops hs m (i + 1) e h K

theorem guardOf_sound {ops : Array Oper} {e : Env} {o : Oper} {b : Bool} {n : Nat} {a : Act} (h : guardOf ops e o = some b) (he : EnvOk n e a) : Region.wanted o (yielded ops a.tmps) = b := by
  unfold guardOf at h
  unfold Region.wanted
  cases hg : o.guard with
  | none => rw [hg] at h; cases h; rfl
  | some p =>
    obtain ⟨j, want⟩ := p
    rw [hg] at h
    simp only at h ⊢
    cases hj : (ops[j]?).bind (·.dst) with
    | none => rw [hj] at h; cases h
    | some d =>
      rw [hj] at h
      simp only at h
      cases hl : look e d with
      | none => rw [hl] at h; cases h
      | some v =>
        rw [hl] at h
        cases v <;> try (cases h; done)
        · rename_i b'
          cases h
          have : yielded ops a.tmps j = some b' := by unfold yielded; rw [hj]; simp [he.ev d _ hl]
          rw [this]
          cases b' <;> cases want <;> rfl
        · rename_i vs
          cases h
          have : yielded ops a.tmps j = none := by unfold yielded; rw [hj]; simp [he.ev d _ hl]
          rw [this]
          cases want <;> rfl

theorem run_op {P : Program} {ρ : Option Nat} {o : Oper} {a : Act} {w : World} {K : Act → World → Prop} {Q : Post} {nx : Next} {w' : World} {v : Value} (hn : noSel o.op = true) (hr : (execOp a.eval o).run P w = .ok nx w') (hy : Yield v nx) (hk : K (a.put o.dst v) w') :
    o.wpIn (FW ρ) 0 P a w K Q := by
  refine ⟨fun _ _ => trivial, ?_⟩
  rw [Oper.semAt_eq _ _ _ (noSel_defer hn), hr]
  cases nx <;> first | (cases hy; exact hk) | exact hy.elim

theorem stepP_sound {P : Program} {g : GH} {s : St} {o : Oper} {nb : Nat} {x : Hint} {K : Env → Hs → Prop} (hg : s.g = g) (h : stepP s.n s.e o (evOp P g s.e s.h nb x o) K) {a : Act} {w : World} (hs : s.ok a w) (hnb : (∃ t, x = .al t) → nb = w.heap.size)
    {R : Act → World → Prop} {Q : Post} (hk : ∀ e h a w, K e h → ({ s with e := e, h := h } : St).ok a w → R a w) : o.wpIn (FW ρ) 0 P a w R Q := by
  subst hg
  unfold stepP at h
  split at h
  · rename_i r hev hb
    simp only [Bool.and_eq_true] at hb
    obtain ⟨⟨h1, h2⟩, h3⟩ := hb
    have hc : (∀ c, r.c = some c → c) ∧ K (putE s.e o.dst r.v) r.h := by
      cases hrc : r.c with
      | none => rw [hrc] at h; exact ⟨fun c e => (by cases e), h⟩
      | some c => rw [hrc] at h; exact ⟨fun c e => (by cases e; exact h.1), h.2⟩
    obtain ⟨nx, w', hr, hy, hw'⟩ := evOp_sound hev hc.1 hs.ok hnb
    have hcong := execOp_congr (ρ := rho s.e) (ρ' := a.eval) o (noSel_select h1) (fun y hy => hs.env.rho h2 y (by simpa using hy))
    rw [hcong] at hr
    exact run_op h1 hr hy (hk _ _ _ _ hc.2 (hs.put h3 hw'))
  · exact h.elim

theorem wpOps_cons_some {ops : Array Oper} {i : Nat} {l : List Nat} {o : Oper} {a : Act} {w : World} (ho : ops[i]? = some o) : wpOpsIn (FW ρ) 0 P ops Q (i :: l) a w =
    if Region.wanted o (yielded ops a.tmps) then o.wpIn (FW ρ) 0 P a w (wpOpsIn (FW ρ) 0 P ops Q l) Q else (∀ f, o.about P w a.eval = some f → (FW ρ).fn f) ∧ wpOpsIn (FW ρ) 0 P ops Q l (a.put o.dst undef) w := by
  rw [wpOpsIn]; simp only [ho]

theorem segP_sound {ops : Array Oper} {hs : List (Nat × Hint)} {K : Env → Hs → Prop} : ∀ (m i : Nat) (s : St), segP P s.g s.n ops hs m i s.e s.h K →
    ∀ (l : List Nat), (∀ e h a w, K e h → ({ s with e := e, h := h } : St).ok a w → wpOpsIn (FW ρ) 0 P ops Q l a w) →
    ∀ a w, s.ok a w → wpOpsIn (FW ρ) 0 P ops Q (List.range' i m ++ l) a w
  | 0, i, s, h, l, hk, a, w, ho => by
    rw [List.range'_zero, List.nil_append]
    exact hk _ _ _ _ h ho
  | m + 1, i, s, h, l, hk, a, w, hok => by
    rw [List.range'_succ, List.cons_append]
    unfold segP at h
    cases ho : ops[i]? with
    | none => rw [ho] at h; exact h.elim
    | some o =>
      rw [ho] at h
      rw [wpOps_cons_some ho]
      simp only at h
      cases hg : guardOf ops s.e o with
      | none => rw [hg] at h; exact h.elim
      | some b =>
        rw [hg] at h
        rw [guardOf_sound hg hok.env]
        cases b with
        | false =>
          simp only at h
          cases hd : dstOk s.n o.dst with
          | false => rw [hd] at h; exact h.elim
          | true =>
            rw [hd] at h
            simp only [Bool.false_eq_true, if_false]
            refine ⟨fun _ _ => trivial, ?_⟩
            exact segP_sound m (i + 1) { s with e := putE s.e o.dst undef } h l (fun e h a w => hk e h a w) _ _ (hok.put hd hok.ok)
        | true =>
          simp only [if_true]
          have hcont : ∀ e h a w, segP P s.g s.n ops hs m (i + 1) e h K → ({ s with e := e, h := h } : St).ok a w → wpOpsIn (FW ρ) 0 P ops Q (List.range' (i + 1) m ++ l) a w :=
            fun e h' a' w' hseg hok' => segP_sound m (i + 1) { s with e := e, h := h' } hseg l (fun e h a w => hk e h a w) _ _ hok'
          cases hx : hintOf hs i with
          | al t =>
            rw [hx] at h
            exact stepP_sound rfl (h w.heap.size) hok (fun _ => rfl) hcont
          | n => rw [hx] at h; exact stepP_sound rfl h hok (fun ⟨_, e⟩ => by cases e) hcont
          | ld t => rw [hx] at h; exact stepP_sound rfl h hok (fun ⟨_, e⟩ => by cases e) hcont
          | lv t v => rw [hx] at h; exact stepP_sound rfl h hok (fun ⟨_, e⟩ => by cases e) hcont
          | lg v => rw [hx] at h; exact stepP_sound rfl h hok (fun ⟨_, e⟩ => by cases e) hcont
          | st t => rw [hx] at h; exact stepP_sound rfl h hok (fun ⟨_, e⟩ => by cases e) hcont
          | sv t cs => rw [hx] at h; exact stepP_sound rfl h hok (fun ⟨_, e⟩ => by cases e) hcont
          | sp v => rw [hx] at h; exact stepP_sound rfl h hok (fun ⟨_, e⟩ => by cases e) hcont
          | s => rw [hx] at h; exact stepP_sound rfl h hok (fun ⟨_, e⟩ => by cases e) hcont
          | w v => rw [hx] at h; exact stepP_sound rfl h hok (fun ⟨_, e⟩ => by cases e) hcont
          | o t => rw [hx] at h; exact stepP_sound rfl h hok (fun ⟨_, e⟩ => by cases e) hcont
          | mg t v => rw [hx] at h; exact stepP_sound rfl h hok (fun ⟨_, e⟩ => by cases e) hcont

/-- Into a region. -/
theorem WP.reg (hc : isReg c = true) (h : WO P ρ c Q 0 s) : WP P ρ c Q s := by
  obtain ⟨id, hid⟩ := isReg_spec hc
  intro a w hs
  rw [hid]
  refine wpIn_region ?_
  have := h a w hs
  rw [List.range_eq_range']
  simpa using this
/-- m operations from i on, by the kernel's reckoning: 'X' is what they come to, asked before what follows. -/
theorem WO.seg {i : Nat} (m : Nat) (ts : List Nat) (hs : List (Nat × Hint)) (X : (Env → Hs → Prop) → Prop) (hX : ∀ K, X K = segP P s.g s.n (opsOf c) hs m i s.e s.h (fun e h => K (selE e ts) h)) (hm : Nat.ble (i + m) (opsOf c).size = true)
    (x : X (fun e h => WO P ρ c Q (i + m) { s with e := e, h := h })) : WO P ρ c Q i s := by
  intro a w hok
  rw [hX] at x
  have hle : i + m ≤ (opsOf c).size := Nat.le_of_ble_eq_true hm
  have e1 : List.range' i ((opsOf c).size - i) = List.range' i m ++ List.range' (i + m) ((opsOf c).size - (i + m)) := by
    have : (opsOf c).size - i = m + ((opsOf c).size - (i + m)) := by omega
    rw [this, ← List.range'_append_1]
  rw [e1]
  refine segP_sound m i s x _ ?_ a w hok
  intro e h a w hk hok'
  exact hk a w (hok'.sel ts)
theorem WO.done {i : Nat} (hi : Nat.ble (opsOf c).size i = true) (h : PO Q .normal s) : WO P ρ c Q i s := by
  intro a w hs
  have : (opsOf c).size - i = 0 := by have := Nat.le_of_ble_eq_true hi; omega
  rw [this, List.range'_zero]
  exact h a w hs
/-- A whole region at once. -/
theorem WP.seg (hc : isReg c = true) (m : Nat) (ts : List Nat) (hs : List (Nat × Hint)) (X : (Env → Hs → Prop) → Prop) (hX : ∀ K, X K = segP P s.g s.n (opsOf c) hs m 0 s.e s.h (fun e h => K (selE e ts) h)) (hm : Nat.beq m (opsOf c).size = true)
    (x : X (fun e h => PO Q .normal { s with e := e, h := h })) : WP P ρ c Q s := by
  refine WP.reg hc (WO.seg m ts hs X hX (by rw [Nat.eq_of_beq_eq_true hm]; simp) ?_)
  have e1 : (fun e h => WO P ρ c Q (0 + m) { s with e := e, h := h }) = fun e h => PO Q .normal { s with e := e, h := h } := by
    funext e h
    refine propext ⟨fun h1 a w hs => ?_, fun h1 => WO.done (by rw [Nat.eq_of_beq_eq_true hm]; simp) h1⟩
    have := h1 a w hs
    rw [Nat.eq_of_beq_eq_true hm] at this
    simpa [wpOpsIn] using this
  rw [e1]; exact x
/-- A region, and what stands behind it. -/
theorem WP.sseg (hc : isSeq c = true) (hr : isReg c.l = true) (m : Nat) (ts : List Nat) (hs : List (Nat × Hint)) (X : (Env → Hs → Prop) → Prop) (hX : ∀ K, X K = segP P s.g s.n (opsOf c.l) hs m 0 s.e s.h (fun e h => K (selE e ts) h)) (hm : Nat.beq m (opsOf c.l).size = true)
    (x : X (fun e h => WP P ρ c.r Q { s with e := e, h := h })) : WP P ρ c Q s := WP.seq hc (WP.seg hr m ts hs X hX hm x)
end
end Go.Eng
