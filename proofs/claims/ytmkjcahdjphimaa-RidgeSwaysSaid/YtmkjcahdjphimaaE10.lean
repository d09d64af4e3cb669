/- Ranges over functions: the loop's record, a round by its contract, the statement. -/
import Derived.Test.YtmkjcahdjphimaaE9
namespace Go.Eng
open Go

def jumpOf (js : List Code) (j : Int) : Option Code := if j = 0 then none else js[(j - 1).toNat]?
/-- The record of a range over a function, between two rounds: 'j' is the jump that a round has left (0: none). -/
def lrec (fn : FuncId) (T : Array Value) (ps : Array Tmp) (assign body : Code) (D : Nat) (js : List Code) (j : Int) : Loop :=
  { state := if j = 0 then .ready else .done, pending := jumpOf js j, fn, tmps := T, params := ps, assign, body, defers := D }
def lbusy (fn : FuncId) (T : Array Value) (ps : Array Tmp) (assign body : Code) (D : Nat) : Loop :=
  { state := .busy, pending := none, fn, tmps := T, params := ps, assign, body, defers := D }
def EnvA (n : Nat) (e : Env) (T : Array Value) : Prop := EnvOk n e { tmps := T, defers := [] }
theorem EnvOk.toA {n : Nat} {e : Env} {a : Act} (h : EnvOk n e a) : EnvA n e a.tmps := ⟨h.sz, h.ev⟩
theorem EnvA.sel {n : Nat} {e : Env} {T : Array Value} (h : EnvA n e T) (ts : List Nat) {e' : Env} (he : selE e ts = e') : EnvA n e' T := by
  subst he
  exact ⟨h.sz, fun t v hl => h.ev t v (look_selE hl)⟩

def putsE : List Tmp → List Value → Env → Env
  | p :: ps, v :: vs, e => putsE ps vs ((p, v) :: e)
  | _, _, e => e
theorem EnvA.put {n : Nat} {e : Env} {T : Array Value} (h : EnvA n e T) {d : Tmp} (hd : Nat.blt d n = true) (v : Value) : EnvA n ((d, v) :: e) (T.setIfInBounds d v) := by
  have := EnvOk.put (n := n) (e := e) (a := { tmps := T, defers := [] }) h (dst := some d) hd v
  exact ⟨this.sz, this.ev⟩
theorem EnvA.puts {n : Nat} : ∀ {ps : List Tmp} {vs : List Value} {e : Env} {T : Array Value}, EnvA n e T → ps.all (fun d => Nat.blt d n) = true →
    EnvA n (putsE ps vs e) ((ps.zip vs).foldl (fun T (t, v) => T.setIfInBounds t v) T)
  | [], _, e, T, h, _ => h
  | p :: ps, [], e, T, h, _ => h
  | p :: ps, v :: vs, e, T, h, hp => by
    simp only [List.all_cons, Bool.and_eq_true] at hp
    exact EnvA.puts (ps := ps) (vs := vs) (e := (p, v) :: e) (T := T.setIfInBounds p v) (h.put hp.1 v) hp.2

/-- One round, by what it comes to. -/
def RoundC (P : Program) (l : Nat) (fn : FuncId) (tmps : Array Value) (assign body : Code) (w : World) (R : Ending → World → Prop) : Prop := RoundIn (FW none) 0 P l fn tmps assign body w R
theorem roundIn_FW {P : Program} {ρ : Option Nat} {n l : Nat} {fn : FuncId} {tmps : Array Value} {assign body : Code} {w : World} {R : Ending → World → Prop} (h : RoundC P l fn tmps assign body w R) : RoundIn (FW ρ) n P l fn tmps assign body w R :=
  ⟨trivial, fun c cs _ => h.2 c cs (fun _ hd => by cases hd)⟩

section
variable {P : Program} {ρ : Option Nat} {c : Code} {Q : Post} {s : St}

/-- Behind the assignment of a round. -/
def RdA (P : Program) (l : Nat) (body : Code) (R : Ending → World → Prop) : Post :=
  Exit.then (fun a₁ w₁ => ∃ w₂, (Instr.beginRound l).run P w₁ = .ok () w₂ ∧ body.wpIn (FW (some l)) 0 P (roundPost P l R) a₁ w₂) (fun _ _ _ => False)

theorem round_wp {l fn : Nat} {ps : Array Tmp} {args : List Value} {T : Array Value} {assign body : Code} {n : Nat} {e e2 : Env} {g : GH} {h : Hs} {R : Ending → World → Prop} (hT : EnvA n e T) (hps : ps.toList.all (fun d => Nat.blt d n) = true)
    (he : putsE ps.toList args e = e2) (hwp : WP P (some l) assign (RdA P l body R) { n := n, e := e2, d := [], g := g, h := h }) {w : World} (hw : Ok g h w) :
    RoundC P l fn ((ps.zip args.toArray).foldl (fun T (t, v) => T.setIfInBounds t v) T) assign body w R := by
  refine roundIn_of_wpIn (F := FW none) trivial ?_
  subst he
  have h1 := hT.puts (vs := args) hps
  have h2 : (ps.zip args.toArray).foldl (fun T (t, v) => T.setIfInBounds t v) T = (ps.toList.zip args).foldl (fun T (t, v) => T.setIfInBounds t v) T := by
    rw [← Array.foldl_toList, Array.toList_zip]
  rw [h2]
  exact hwp _ w ⟨⟨h1.sz, h1.ev⟩, rfl, hw⟩

theorem PO.rd_begin {l t fn D : Nat} {T : Array Value} {ps : Array Tmp} {assign body : Code} {js : List Code} {R : Ending → World → Prop} (hf : findE s.h t = some (.ob l (.loop (lrec fn T ps assign body D js 0))))
    (k : WP P (some l) body (roundPost P l R) { s with h := updE s.h t (.ob l (.loop (lbusy fn T ps assign body D))) }) : PO (RdA P l body R) .normal s := fun a w hs => by
  have hl : w.heap[l]? = some (.loop (lrec fn T ps assign body D js 0)) := hs.ok.en _ (findE_mem hf)
  refine ⟨_, run_beginRound hl rfl, k a _ ⟨hs.env, hs.df, ?_⟩⟩
  exact putObj_ob hs.ok _ hf
theorem PO.rd_end {l t fn D : Nat} {T : Array Value} {ps : Array Tmp} {assign body : Code} {R : Ending → World → Prop} (hf : findE s.h t = some (.ob l (.loop (lbusy fn T ps assign body D)))) (js : List Code)
    (hR : ∀ w, Ok s.g (updE s.h t (.ob l (.loop (lrec fn T ps assign body D js 0)))) w → R (.returned (.bool true)) w) : PO (roundPost P l R) .normal s := fun a w hs => by
  have hl : w.heap[l]? = some (.loop (lbusy fn T ps assign body D)) := hs.ok.en _ (findE_mem hf)
  exact ⟨_, _, run_endRound none hl, hR _ (putObj_ob hs.ok _ hf)⟩
theorem PO.rd_ret {l t fn D : Nat} {T : Array Value} {ps : Array Tmp} {assign body : Code} {R : Ending → World → Prop} (hf : findE s.h t = some (.ob l (.loop (lbusy fn T ps assign body D)))) (js : List Code) (j : Int) (hj : jumpOf js j = some .ret) (h0 : j ≠ 0)
    (hR : ∀ w, Ok s.g (updE s.h t (.ob l (.loop (lrec fn T ps assign body D js j)))) w → R (.returned (.bool false)) w) : PO (roundPost P l R) .ret s := fun a w hs => by
  have hl : w.heap[l]? = some (.loop (lbusy fn T ps assign body D)) := hs.ok.en _ (findE_mem hf)
  refine ⟨_, _, run_endRound (some .ret) hl, hR _ ?_⟩
  have := putObj_ob hs.ok (.loop (lrec fn T ps assign body D js j)) hf
  simpa [lrec, hj, h0, lbusy] using this
theorem PO.rd_exit {l t fn D id : Nat} {T : Array Value} {ps : Array Tmp} {assign body : Code} {R : Ending → World → Prop} (hf : findE s.h t = some (.ob l (.loop (lbusy fn T ps assign body D)))) (js : List Code) (j : Int) (hj : jumpOf js j = some (.exit id)) (h0 : j ≠ 0)
    (hR : ∀ w, Ok s.g (updE s.h t (.ob l (.loop (lrec fn T ps assign body D js j)))) w → R (.returned (.bool false)) w) : PO (roundPost P l R) (.exit id) s := fun a w hs => by
  have hl : w.heap[l]? = some (.loop (lbusy fn T ps assign body D)) := hs.ok.en _ (findE_mem hf)
  refine ⟨_, _, run_endRound (some (.exit id)) hl, hR _ ?_⟩
  have := putObj_ob hs.ok (.loop (lrec fn T ps assign body D js j)) hf
  simpa [lrec, hj, h0, lbusy] using this

/-- A call of yield at operation i. -/
def yieldAt (ops : Array Oper) (i n : Nat) (e : Env) : Option (Nat × List Value × Option Tmp) :=
  match ops[i]? with
  | some o =>
    match o.op, guardOf ops e o with
    | .call { callee := .value f, args := args, argTypes := _ }, some true =>
      match rho e f, known e (f :: args.toList) && dstOk n o.dst with
      | .func (.yield l) first cap, true => bif first.isEmpty && cap.isEmpty then some (l, args.toList.map (rho e), o.dst) else none
      | _, _ => none
    | _, _ => none
  | none => none

theorem Stp.yield {i l t fn D : Nat} {T : Array Value} {ps : Array Tmp} {assign body : Code} {js : List Code} {args : List Value} {dst : Option Tmp} {α : Type} {p : α → Prop} {v : α → Value} {g' : α → GH} {h' : α → Hs} (hc : yieldAt (opsOf c) i s.n s.e = some (l, args, dst))
    (hf : findE s.h t = some (.ob l (.loop (lrec fn T ps assign body D js 0)))) (hsz : args.length = ps.size)
    (hcon : ∀ w, Ok s.g s.h w → RoundC P l fn ((ps.zip args.toArray).foldl (fun T (t, v) => T.setIfInBounds t v) T) assign body w (Ret p v g' h')) : Stp P ρ (opsOf c) i s p (fun x => { s with e := putE s.e dst (v x), g := g' x, h := h' x }) := by
  intro a w hs R hR Q
  unfold yieldAt at hc
  cases ho : (opsOf c)[i]? with
  | none => rw [ho] at hc; cases hc
  | some o =>
    rw [ho] at hc
    simp only at hc
    split at hc <;> try (cases hc; done)
    rename_i f xs ats hop hgd
    split at hc <;> try (cases hc; done)
    rename_i l' first cap hfv hkn
    cases hb : first.isEmpty && cap.isEmpty with
    | false => rw [hb] at hc; cases hc
    | true =>
      rw [hb] at hc
      cases hc
      simp only [Bool.and_eq_true] at hkn hb
      obtain rfl : first = #[] := by simpa using hb.1
      obtain rfl : cap = #[] := by simpa using hb.2
      unfold wpOpIn
      simp only [ho]
      rw [guardOf_sound hgd hs.env, if_pos rfl]
      refine ⟨fun _ _ => trivial, ?_⟩
      rw [Oper.semAt_eq _ _ _ (by rw [hop]; intro c e; cases e)]
      have hrf : a.eval f = .func (.yield l) #[] #[] := by rw [← hs.env.rho hkn.1 f (by simp)]; exact hfv
      have hra : xs.map a.eval = (xs.toList.map (rho s.e)).toArray := by
        apply Array.ext'
        simp only [Array.toList_map]
        exact List.map_congr_left fun x hx => (hs.env.rho hkn.1 x (by simp [hx])).symm
      have hl : w.heap[l]? = some (.loop (lrec fn T ps assign body D js 0)) := hs.ok.en _ (findE_mem hf)
      have hy := run_yield (P := P) (args := (xs.toList.map (rho s.e)).toArray) hl (by simpa [lrec] using hsz)
      have hrun : (execOp a.eval o).run P w = .ok (.round l fn ((ps.zip (xs.toList.map (rho s.e)).toArray).foldl (fun T (t, v) => T.setIfInBounds t v) T) assign body) w := by
        simp only [execOp, hop, resolve, hrf, Deferred.ofValue, Sem.run_bind, Sem.run_pure, Result.andThen_ok, invoke, hra]
        have : (#[] : Array Value) ++ (xs.toList.map (rho s.e)).toArray = (xs.toList.map (rho s.e)).toArray := by simp
        rw [this]; exact hy
      rw [hrun]
      refine ⟨fun h => (by cases h), ?_⟩
      refine (roundIn_FW (hcon w hs.ok)).mono ?_
      rintro e w' ⟨x, hp, rfl, hw'⟩
      exact hR x _ _ hp (hs.put hkn.2 hw')

theorem Ok.dropOb {g : GH} {h : Hs} {w : World} {t b : Nat} {o : Obj} (o' : Obj) (hw : Ok g h w) (hf : findE h t = some (.ob b o)) : Ok g (rmE h t) (w.putObj b o') := by
  have h2 := Ok.perm (rmE_perm hf) hw
  have h0 : findE ((t, Ent.ob b o) :: rmE h t) t = some (.ob b o) := by unfold findE; rw [Nat.beq_refl]; rfl
  have h3 := putObj_ob h2 o' h0
  have h4 : updE ((t, Ent.ob b o) :: rmE h t) t (.ob b o') = (t, .ob b o') :: rmE h t := by unfold updE; rw [Nat.beq_refl]; rfl
  rw [h4] at h3
  exact Ok.sub (List.sublist_cons_self _ _) h3

/-- What follows a range over a function. -/
def PJ (P : Program) (ρ : Option Nat) (js : List Code) (Q : Post) (j : Int) (s : St) : Prop :=
  match jumpOf js j with
  | none => PO Q .normal s
  | some c => WP P ρ c Q s
theorem PJ.zero {js : List Code} {j : Int} (hj : j = 0) (k : PO Q .normal s) : PJ P ρ js Q j s := by subst hj; exact k
theorem PJ.jump {js : List Code} {j : Int} (j' : Int) (cc : Code) (hj : j = j') (hc : jumpOf js j' = some cc) (k : WP P ρ cc Q s) : PJ P ρ js Q j s := by
  subst hj
  unfold PJ
  rw [hc]; exact k

def rangeAt (c : Code) (e : Env) : Option (Nat × List Value × List Value × Array Tmp) :=
  match c with
  | .rangeFunc f ps _ _ =>
    match rho e f, known e [f] with
    | .func (.func K) first cap, true => some (K, first.toList, cap.toList, ps)
    | _, _ => none
  | _ => none

abbrev yv (l : Nat) : Value := .func (.yield l) #[] #[]
theorem WP.range {K : Nat} {first cap : List Value} {ps : Array Tmp} (js : List Code) (tl td tl2 : Nat) {n : Nat} {e : Env} {d : List Deferred} {g : GH} {h : Hs} (hc : rangeAt c e = some (K, first, cap, ps)) (he : ∀ args w, (callFunc K args).run P w = .ok (.enter K args) w)
    (k : ∀ fn T D l, EnvA n e T → ∃ (α : Type) (p : α → Prop) (v : α → Value) (g' : α → GH) (h' : α → Hs),
      (∀ w, Ok g ((tl, .ob l (.loop (lrec fn T ps c.l c.r D js 0))) :: (td, .ob D (.deferred (some []))) :: h) w → Calls P K (first ++ yv l :: cap).toArray w (Ret p v g' h')) ∧
      ∀ x, p x → ∃ j, findE (h' x) tl2 = some (.ob l (.loop (lrec fn T ps c.l c.r D js j))) ∧
        PJ P none js Q j { n := n, e := e, d := { target := .collected D, args := #[] } :: d, g := g' x, h := rmE (h' x) tl2 }) : WP P none c Q { n := n, e := e, d := d, g := g, h := h } := by
  cases c <;> try (cases hc; done)
  rename_i f ps' assign body
  intro a w hs
  have hdone := hc
  simp only [rangeAt] at hdone
  split at hdone <;> try (cases hdone; done)
  rename_i K' first' cap' hfv hkn
  cases hdone
  have hrf : a.eval f = .func (.func K) first' cap' := by rw [← hs.env.rho hkn f (by simp)]; exact hfv
  refine wpIn_rangeFunc (F := FW none) (n := 0) ?_
  intro fn _
  obtain ⟨rec, hrec⟩ : ∃ rec, rec = lrec fn a.tmps ps assign body w.heap.size js 0 := ⟨_, rfl⟩
  obtain ⟨W1, hW1⟩ : ∃ W1, (w.alloc (.deferred (some []))).alloc (.loop rec) = W1 := ⟨_, rfl⟩
  have hok0 : Ok g ((td, .ob w.heap.size (.deferred (some []))) :: h) (w.alloc (.deferred (some []))) :=
    hs.ok.push (fun k hk => heap_alloc_old w _ hk) (World.alloc_heap_new w _) (fun k hk => by cases hk; exact Nat.le_refl _)
  have hok1 : Ok g ((tl, .ob (w.heap.size + 1) (.loop rec)) :: (td, .ob w.heap.size (.deferred (some []))) :: h) W1 := by
    rw [← hW1]
    have h1 : (w.alloc (.deferred (some []))).heap.size = w.heap.size + 1 := World.size_alloc _ _
    refine hok0.push (fun k hk => heap_alloc_old _ _ hk) ?_ (fun k hk => by cases hk; omega)
    have := World.alloc_heap_new (w.alloc (.deferred (some []))) (.loop rec)
    rw [h1] at this; exact this
  obtain ⟨α, p, v, g', h', hcall, hend⟩ := k fn a.tmps w.heap.size (w.heap.size + 1) hs.env.toA
  refine ⟨w.heap.size + 1, [{ target := .collected w.heap.size, args := #[] }], W1, { target := .fn (.func K) cap', args := first' ++ #[yv (w.heap.size + 1)] }, W1, K, (first'.toList ++ yv (w.heap.size + 1) :: cap'.toList).toArray, W1, ?_, ?_, fun _ _ => trivial, ?_, fun hd => (by cases hd), ?_⟩
  · rw [← hW1, hrec]; exact run_enterLoop_outer _ _ _ _ _
  · simp only [resolve, rangeCall, hrf]
    simp [Deferred.ofValue, Act.eval, Sem.run_bind, Sem.run_pure]
  · have e1 : (first' ++ #[yv (w.heap.size + 1)]) ++ cap' = (first'.toList ++ yv (w.heap.size + 1) :: cap'.toList).toArray := by apply Array.ext'; simp
    simp only [invoke, e1]
    exact he _ W1
  · refine (callsIn_FW (hcall W1 (by rw [hrec] at hok1; exact hok1))).mono ?_
    rintro en W2 ⟨x, hp, rfl, hw2⟩
    obtain ⟨j, hf, hj⟩ := hend x hp
    have hl : W2.heap[w.heap.size + 1]? = some (.loop (lrec fn a.tmps ps assign body w.heap.size js j)) := hw2.en _ (findE_mem hf)
    have hb : (lrec fn a.tmps ps assign body w.heap.size js j).state ≠ .busy := by
      by_cases h0 : j = 0 <;> simp [lrec, h0]
    refine ⟨jumpOf js j, _, run_endLoop hl hb, ?_⟩
    have hok2 : Ok (g' x) (rmE (h' x) tl2) (W2.putObj (w.heap.size + 1) (.loop { lrec fn a.tmps ps assign body w.heap.size js j with state := .exhausted })) := by
      exact hw2.dropOb _ hf
    have hsto : ({ n := n, e := e, d := { target := .collected w.heap.size, args := #[] } :: d, g := g' x, h := rmE (h' x) tl2 } : St).ok { a with defers := [{ target := .collected w.heap.size, args := #[] }] ++ a.defers } (W2.putObj (w.heap.size + 1) (.loop { lrec fn a.tmps ps assign body w.heap.size js j with state := .exhausted })) :=
      ⟨⟨hs.env.sz, hs.env.ev⟩, by show _ :: a.defers = _ :: d; rw [hs.df], hok2⟩
    unfold PJ at hj
    cases hjo : jumpOf js j with
    | none => rw [hjo] at hj; exact hj _ _ hsto
    | some cc => rw [hjo] at hj; exact hj _ _ hsto
end
end Go.Eng
