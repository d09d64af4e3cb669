/- Functions: entered, returned from, called by their contracts. -/
import Derived.Test.YtmkjcahdjphimaaE4
import Derived.RangeFuncRecord
import Derived.Shelf.Abstract
namespace Go.Eng
open Go

/-- A contract's word: a return, with a value, what is fixed and what is own told. -/
def Ret {α : Type} (p : α → Prop) (v : α → Value) (g : α → GH) (h : α → Hs) : Ending → World → Prop := fun e w => ∃ x, p x ∧ e = .returned (v x) ∧ Ok (g x) (h x) w
theorem Ret.mk {α : Type} {p : α → Prop} {v : α → Value} {g : α → GH} {h : α → Hs} {w : World} (x : α) (hp : p x) {u : Value} (hu : u = v x) (hw : Ok (g x) (h x) w) : Ret p v g h (.returned u) w := ⟨x, hp, by rw [hu], hw⟩

section
variable {P : Program} {ρ : Option Nat} {c : Code} {Q : Post} {s : St}

def Res (P : Program) (e : Env) (h : Hs) : List ResultVar → List Value → Prop
  | [], [] => True
  | .tmp t :: r, v :: vs => look e t = some v ∧ Res P e h r vs
  | .cell a T :: r, v :: vs => (∃ b off t en cs ag sz, look e a = some (.pointer (some ⟨b, off, none⟩)) ∧ findE h t = some en ∧ en.cells = some (b, cs) ∧ pureRun P (isAgg T) = some ag ∧ pureRun P (sizeOf T) = some sz ∧ OwnRead cs off ag sz v) ∧ Res P e h r vs
  | _, _ => False
def retV : List Value → Value
  | [v] => v
  | vs => .tuple vs.toArray

theorem run_readOwn {g : GH} {h : Hs} {w : World} (hw : Ok g h w) {b off t : Nat} {en : Ent} {cs : List Value} {T : TypeId} {ag : Bool} {sz : Nat} {v : Value} (hf : findE h t = some en) (hcs : en.cells = some (b, cs))
    (hag : pureRun P (isAgg T) = some ag) (hsz : pureRun P (sizeOf T) = some sz) (hor : OwnRead cs off ag sz v) : (loadVar T ⟨b, off, none⟩).run P w = .ok v w := by
  have hh := hw.en _ (findE_mem hf)
  cases ag with
  | true =>
    obtain ⟨hl, rfl⟩ : (seg cs off sz).length = sz ∧ v = .agg (seg cs off sz).toArray := hor
    have hr := run_loadCells_list (P := P) (w := w) ⟨b, off, none⟩ (seg cs off sz) (fun j u e1 => by rw [add_flat]; exact Ent.cell hh hcs (seg_get e1))
    rw [hl] at hr
    simp only [loadVar, Sem.run_bind, Sem.run_pure, Result.andThen_ok, pureRun_sound hag w, if_true, pureRun_sound hsz w, hr]
  | false =>
    have hcell : w.cell? ⟨b, off, none⟩ = some v := Ent.cell hh hcs hor
    simp only [loadVar, Sem.run_bind, Result.andThen_ok, pureRun_sound hag w, Bool.false_eq_true, if_false, run_load, hcell]

def resF (a : Act) : ResultVar → Sem Value
  | .tmp t => pure (a.tmps.getD t undef)
  | .cell b t => do loadVar t (← asAddr (a.tmps.getD b undef))
theorem results_eq (F : Func) (a : Act) : results F a.tmps = (do let vs ← F.results.mapM (resF a); pure (if h : vs.size = 1 then vs[0] else .tuple vs)) := by
  unfold results
  congr 2
theorem run_results_list {n : Nat} {e : Env} {h : Hs} {g : GH} {a : Act} {w : World} (he : EnvOk n e a) (hw : Ok g h w) : ∀ {rs : List ResultVar} {vs : List Value}, Res P e h rs vs →
    (rs.mapM (resF a)).run P w = .ok vs w
  | [], [], _ => rfl
  | [], _ :: _, hr => hr.elim
  | .tmp _ :: _, [], hr => hr.elim
  | .cell _ _ :: _, [], hr => hr.elim
  | .tmp t :: r, v :: vs, hr => by
    have ih := run_results_list he hw hr.2
    have := he.ev t v hr.1
    rw [List.mapM_cons]
    simp only [resF, Sem.run_bind, Sem.run_pure, Result.andThen_ok, ih, Array.getD_eq_getD_getElem?, this, Option.getD_some]
  | .cell x T :: r, v :: vs, hr => by
    obtain ⟨⟨b, off, t, en, cs, ag, sz, h1, h2, h3, h4, h5, h6⟩, hr2⟩ := hr
    have ih := run_results_list he hw hr2
    have := he.ev x _ h1
    rw [List.mapM_cons]
    simp only [resF, Sem.run_bind, Sem.run_pure, Result.andThen_ok, Array.getD_eq_getD_getElem?, this, Option.getD_some, asAddr, run_readOwn hw h2 h3 h4 h5 h6, ih]

theorem run_results {F : Func} {n : Nat} {e : Env} {h : Hs} {g : GH} {a : Act} {w : World} (he : EnvOk n e a) (hw : Ok g h w) {vs : List Value} (hr : Res P e h F.results.toList vs) : (results F a.tmps).run P w = .ok (retV vs) w := by
  rw [results_eq]
  have := run_results_list (P := P) he hw hr
  rw [Array.mapM_eq_mapM_toList]
  simp only [Sem.run_bind, Sem.run_map, this, Result.andThen_ok, Sem.run_pure]
  congr 1
  match vs with
  | [] => simp [retV]
  | [v] => simp [retV]
  | v :: u :: r => simp [retV]

def Marks : Hs → List Deferred → Hs → Prop
  | h, [], h' => h = h'
  | h, d :: ds, h' => ∃ b t, d = { target := .collected b, args := #[] } ∧ findE h t = some (.ob b (.deferred (some []))) ∧ Marks (updE h t (.ob b (.deferred none))) ds h'

theorem putObj_ob {g : GH} {h : Hs} {w : World} (hw : Ok g h w) {t b : Nat} {o : Obj} (o' : Obj) (hf : findE h t = some (.ob b o)) : Ok g (updE h t (.ob b o')) (w.putObj b o') := by
  have hb : w.heap[b]? = some o := hw.en _ (findE_mem hf)
  have hlt := (Array.getElem?_eq_some_iff.1 hb).1
  refine hw.upd hf (fun k _ hk => World.putObj_heap_other fun e => hk (by rw [e]; rfl)) ?_ (fun k hk => .inl hk)
  exact World.putObj_heap_same hlt

theorem leaves_marks {F : Func} {R : Ending → World → Prop} {n : Nat} {e : Env} {g : GH} {a : Act} {vs : List Value} {h' : Hs} (he : EnvOk n e a) (hr : Res P e h' F.results.toList vs) (hR : ∀ w, Ok g h' w → R (.returned (retV vs)) w) :
    ∀ (ds : List Deferred) (h : Hs) (w : World), Ok g h w → Marks h ds h' → LeavesInM (FW none) 0 P F a.tmps R ds .returning w
  | [], h, w, hw, hm => by
    have hm' : h = h' := hm
    subst hm'
    exact ⟨_, run_results he hw hr, hR w hw⟩
  | d :: ds, h, w, hw, hm => by
    obtain ⟨b, t, rfl, hf, hm2⟩ := hm
    refine ⟨by simp, .inl ⟨b, _, rfl, run_takeDeferred (hw.en _ (findE_mem hf)), ?_⟩⟩
    exact leaves_marks he hr hR ds _ _ (putObj_ob hw _ hf) hm2

/-- A return: the marks are taken, the results are read. -/
theorem PO.body {F : Func} {R : Ending → World → Prop} (vs : List Value) (h' : Hs) (hm : Marks s.h s.d h') (hr : Res P s.e h' F.results.toList vs) (hR : ∀ w, Ok s.g h' w → R (.returned (retV vs)) w) :
    PO (bodyPostM (FW none) 0 P F R) .ret s := fun a w hs => by
  show LeavesInM _ _ _ _ _ _ a.defers _ _
  rw [hs.df]
  exact leaves_marks hs.env hr hR s.d s.h w hs.ok hm
theorem PO.bodyN {F : Func} {R : Ending → World → Prop} (h : PO (bodyPostM (FW none) 0 P F R) .ret s) : PO (bodyPostM (FW none) 0 P F R) .normal s := h

def argsE : Nat → List Value → Env
  | _, [] => []
  | i, v :: r => (i, v) :: argsE (i + 1) r
theorem look_argsE : ∀ (l : List Value) (i t : Nat) (v : Value), look (argsE i l) t = some v → i ≤ t ∧ l[t - i]? = some v
  | [], i, t, v, h => by cases h
  | x :: r, i, t, v, h => by
    unfold argsE look at h
    cases hb : Nat.beq i t with
    | true =>
      rw [hb] at h; cases h
      obtain rfl := Nat.eq_of_beq_eq_true hb
      simp
    | false =>
      rw [hb] at h
      obtain ⟨h1, h2⟩ := look_argsE r (i + 1) t v h
      refine ⟨by omega, ?_⟩
      have : t - i = (t - (i + 1)) + 1 := by omega
      rw [this, List.getElem?_cons_succ]; exact h2

/-- A function's contract, out of the walk of its body. -/
theorem fn_wp {f : FuncId} {F : Func} {c : Code} {args : List Value} {n : Nat} {g : GH} {h : Hs} {R : Ending → World → Prop} (hf : P.funcs[f]? = some F) (hb : F.body = some c) (hn : F.ntmps = n) (ha : Nat.ble args.length n = true)
    (hwp : WP P none c (bodyPostM (FW none) 0 P F R) { n := n, e := argsE 0 args, d := [], g := g, h := h }) {w : World} (hw : Ok g h w) : Calls P f args.toArray w R := by
  have hle : args.length ≤ n := Nat.le_of_ble_eq_true ha
  refine callsIn_wide.1 (callsIn_of_wp_marks (F := FW none) (n := 0) hf hb trivial (hwp _ w ⟨⟨?_, ?_⟩, rfl, hw⟩))
  · simp only [Array.size_append, List.size_toArray, Array.size_replicate, hn]; omega
  · intro t v hl
    obtain ⟨_, h2⟩ := look_argsE args 0 t v hl
    rw [Nat.sub_zero] at h2
    have hlt : t < args.length := (List.getElem?_eq_some_iff.1 h2).1
    rw [Array.getElem?_append_left (by simpa using hlt)]
    simpa using h2

/-- A call at operation i: the function, its arguments, where its value goes. -/
def callAt (ops : Array Oper) (i n : Nat) (e : Env) : Option (Nat × List Value × Option Tmp) :=
  match ops[i]? with
  | some o =>
    match o.op, guardOf ops e o with
    | .call { callee := .value f, args := args, argTypes := _ }, some true =>
      match rho e f, known e (f :: args.toList) && dstOk n o.dst with
      | .func (.func K) first cap, true => some (K, first.toList ++ args.toList.map (rho e) ++ cap.toList, o.dst)
      | _, _ => none
    | _, _ => none
  | none => none

theorem callsIn_FW {K : FuncId} {args : Array Value} {w : World} {R : Ending → World → Prop} {n : Nat} (h : Calls P K args w R) : CallsIn (FW ρ) n P K args w R := (callsIn_wide (n := n)).2 h

theorem WO.call {i K : Nat} {args : List Value} {dst : Option Tmp} {α : Type} {p : α → Prop} {v : α → Value} {g' : α → GH} {h' : α → Hs} (hc : callAt (opsOf c) i s.n s.e = some (K, args, dst)) (he : ∀ args w, (callFunc K args).run P w = .ok (.enter K args) w)
    (hcon : ∀ w, Ok s.g s.h w → Calls P K args.toArray w (Ret p v g' h')) (hn : ∀ x, p x → WO P ρ c Q (i + 1) { s with e := putE s.e dst (v x), g := g' x, h := h' x }) : WO P ρ c Q i s := by
  intro a w hs
  unfold callAt at hc
  cases ho : (opsOf c)[i]? with
  | none => rw [ho] at hc; cases hc
  | some o =>
    rw [ho] at hc
    simp only at hc
    split at hc <;> try (cases hc; done)
    rename_i f xs ats hop hgd
    split at hc <;> try (cases hc; done)
    rename_i K' first cap hfv hkn
    cases hc
    simp only [Bool.and_eq_true] at hkn
    have hlt : i < (opsOf c).size := (Array.getElem?_eq_some_iff.1 ho).1
    have e1 : (opsOf c).size - i = ((opsOf c).size - (i + 1)) + 1 := by omega
    rw [e1, List.range'_succ, wpOps_cons_some ho, guardOf_sound hgd hs.env, if_pos rfl]
    refine ⟨fun _ _ => trivial, ?_⟩
    rw [Oper.semAt_eq _ _ _ (by rw [hop]; intro c e; cases e)]
    have hrf : a.eval f = .func (.func K) first cap := by rw [← hs.env.rho hkn.1 f (by simp)]; exact hfv
    have hra : xs.map a.eval = (xs.toList.map (rho s.e)).toArray := by
      apply Array.ext'
      simp only [Array.toList_map]
      exact List.map_congr_left fun x hx => (hs.env.rho hkn.1 x (by simp [hx])).symm
    have hrun : (execOp a.eval o).run P w = .ok (.enter K (first.toList ++ xs.toList.map (rho s.e) ++ cap.toList).toArray) w := by
      simp only [execOp, hop, resolve, hrf, Deferred.ofValue, Sem.run_bind, Sem.run_pure, Result.andThen_ok, invoke, hra]
      have : first ++ (xs.toList.map (rho s.e)).toArray ++ cap = (first.toList ++ xs.toList.map (rho s.e) ++ cap.toList).toArray := by apply Array.ext'; simp
      rw [this]; exact he _ w
    rw [hrun]
    refine ⟨fun h => (by cases h), ?_⟩
    refine (callsIn_FW (hcon w hs.ok)).mono ?_
    rintro e w' ⟨x, hp, rfl, hw'⟩
    exact hn x hp _ _ (hs.put hkn.2 hw')
end
end Go.Eng
