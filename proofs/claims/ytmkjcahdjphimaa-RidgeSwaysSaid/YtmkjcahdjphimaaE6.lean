/- One step of a walk, apart from how it is taken: in a region that stands in the text's order, or in one that draws its order. -/
import Derived.Test.YtmkjcahdjphimaaE5
namespace Go.Eng
open Go

/-- Operation i of a region does this, whatever else: no panic, no stop. -/
def Clean (ρ : Option Nat) (P : Program) (ops : Array Oper) (i : Nat) (K : Act → World → Prop) (a : Act) (w : World) : Prop := ∀ Q, wpOpIn (FW ρ) 0 P ops Q i K a w
theorem Clean.mono {ρ : Option Nat} {P : Program} {ops : Array Oper} {i : Nat} {K K' : Act → World → Prop} {a : Act} {w : World} (h : ∀ a w, K a w → K' a w) (hc : Clean ρ P ops i K a w) : Clean ρ P ops i K' a w := fun Q => wpOpIn_mono h (hc Q)

def Stp {α : Type} (P : Program) (ρ : Option Nat) (ops : Array Oper) (i : Nat) (s : St) (p : α → Prop) (S : α → St) : Prop :=
  ∀ a w, s.ok a w → ∀ K, (∀ x a' w', p x → (S x).ok a' w' → K a' w') → Clean ρ P ops i K a w

section
variable {P : Program} {ρ : Option Nat} {c : Code} {Q : Post} {s : St}

theorem WO.step {α : Type} {i : Nat} {p : α → Prop} {S : α → St} (hi : Nat.blt i (opsOf c).size = true) (h : Stp P ρ (opsOf c) i s p S) (hn : ∀ x, p x → WO P ρ c Q (i + 1) (S x)) : WO P ρ c Q i s := by
  intro a w hs
  have hlt : i < (opsOf c).size := by simpa [Nat.blt_eq] using hi
  have e1 : (opsOf c).size - i = ((opsOf c).size - (i + 1)) + 1 := by omega
  rw [e1, List.range'_succ, wpOpsIn_cons]
  exact h a w hs _ (fun x a' w' hp hok => hn x hp a' w' hok) Q

/-- What is told holds of the world, so what follows of that may be used. -/
theorem WO.know {i : Nat} {φ : Prop} (h : ∀ w, Ok s.g s.h w → φ) (hn : φ → WO P ρ c Q i s) : WO P ρ c Q i s := fun a w hs => hn (h w hs.ok) a w hs
theorem WP.know {φ : Prop} (h : ∀ w, Ok s.g s.h w → φ) (hn : φ → WP P ρ c Q s) : WP P ρ c Q s := fun a w hs => hn (h w hs.ok) a w hs

/-! ### Regions that draw their order -/

/-- An operation that is passed by, or yields one value in every world of a class. -/
def YC (P : Program) (ops : Array Oper) (C : World → Prop) (o : Oper) (v : Value) (a : Act) : Prop :=
  (Region.wanted o (yielded ops a.tmps) = true ∧ ∀ w, C w → (execOp a.eval o).run P w = .ok (.value v) w) ∨ (Region.wanted o (yielded ops a.tmps) = false ∧ v = undef)

theorem YC.clean {ops : Array Oper} {C : World → Prop} {i : Nat} {o : Oper} {v : Value} {a : Act} {w : World} {K : Act → World → Prop} (hi : ops[i]? = some o) (hn : noSel o.op = true) (hy : YC P ops C o v a) (hw : C w) (h : K (a.put o.dst v) w) : Clean ρ P ops i K a w := by
  intro Q
  unfold wpOpIn
  simp only [hi]
  rcases hy with ⟨hwt, hv⟩ | ⟨hwt, rfl⟩
  · simp only [hwt, if_true]
    exact run_op hn (hv w hw) rfl h
  · simp only [hwt, Bool.false_eq_true, if_false]
    exact ⟨fun _ _ => trivial, h⟩

theorem YC.of_same {ops : Array Oper} {C : World → Prop} {o : Oper} {v : Value} {a a' : Act} (hy : YC P ops C o v a) (he : execOp a'.eval o = execOp a.eval o)
    (hw : Region.wanted o (yielded ops a'.tmps) = Region.wanted o (yielded ops a.tmps)) : YC P ops C o v a' := by
  unfold YC at *
  rw [he, hw]
  exact hy

theorem clean_put {ops : Array Oper} {C : World → Prop} {j : Nat} {oi oj : Oper} {v : Value} (hj : ops[j]? = some oj) (hap : oi.apart ops oj = true) (hsi : noSel oi.op = true) (hsj : noSel oj.op = true)
    {K : Act → World → Prop} {a : Act} {w : World} (hy : YC P ops C oi v a) (h : Clean ρ P ops j K (a.put oi.dst v) w) : Clean ρ P ops j (fun a' w' => YC P ops C oi v a' ∧ K (a'.put oi.dst v) w') a w := by
  intro Q
  have h := h (fun _ _ _ => False)
  obtain ⟨h1, h2, h3⟩ := Oper.apart_spec hap
  have keep : ∀ (a : Act), YC P ops C oi v a → ∀ u, YC P ops C oi v (a.put oj.dst u) := fun a hy u =>
    hy.of_same (execOp_put oi (noSel_select hsi) a oj.dst u h3) (wanted_put oi a oj.dst u h3)
  have keepD : ∀ d, YC P ops C oi v { a with defers := d :: a.defers } := fun d => hy.of_same rfl rfl
  have noOut : LetsOut (fun _ _ _ => False) → False := fun ⟨_, _, h⟩ => h
  unfold wpOpIn at *
  simp only [hj] at *
  rw [wanted_put oj a oi.dst v h1] at h
  split
  · rename_i hw
    simp only [hw, if_true] at h
    unfold Oper.wpIn at *
    refine ⟨fun _ _ => trivial, ?_⟩
    have h := h.2
    rw [Oper.semAt_eq _ _ _ (noSel_defer hsj), execOp_put oj (noSel_select hsj) a oi.dst v h1] at h
    rw [Oper.semAt_eq _ _ _ (noSel_defer hsj)]
    generalize (execOp a.eval oj).run P w = r at *
    cases r with
    | ok x w' =>
      cases x <;> simp only [Oper.uponIn] at h ⊢
      case value u => exact ⟨keep a hy u, by rw [← Act.put_comm a v u h2]; exact h⟩
      case skip => exact ⟨keep a hy _, by rw [← Act.put_comm a v undef h2]; exact h⟩
      case defer d =>
        refine ⟨keep _ (keepD d) _, ?_⟩
        rw [← Act.put_comm _ v undef h2, ← Act.put_defers]
        exact h
      case enter f args =>
        refine ⟨h.1, CallsIn.mono h.2 fun e w'' he => ?_⟩
        cases e with
        | returned u => exact ⟨keep a hy u, by rw [← Act.put_comm a v u h2]; exact he⟩
        | panicked c => exact he.elim
        | outgrown => exact (noOut he).elim
      case row row args => exact ⟨h.1, RowsIn.mono h.2 fun u w'' he => ⟨keep a hy u, by rw [← Act.put_comm a v u h2]; exact he⟩⟩
      case round l f tmps assign body =>
        refine ⟨h.1, RoundIn.mono h.2 fun e w'' he => ?_⟩
        cases e with
        | returned u => exact ⟨keep a hy u, by rw [← Act.put_comm a v u h2]; exact he⟩
        | panicked c => exact he.elim
        | outgrown => exact (noOut he).elim
    | halt x w' =>
      cases x <;> simp only [Oper.uponIn] at h ⊢
  · rename_i hw
    simp only [hw] at h
    exact ⟨fun _ _ => trivial, keep a hy _, by rw [← Act.put_comm a v undef h2]; exact h.2⟩

/-- What stays told in the middle of a region that draws, until one of 'ks' is done. -/
structure Cls where
  ks : List Nat
  p : World → Prop
def stopped (ks : List Nat) (l : Array Bool) : Bool := ks.any fun k => l.getD k false
def Cls.at (C : Cls) (l : Array Bool) (w : World) : Prop := stopped C.ks l = true ∨ C.p w
/-- 'i' comes ahead of all stops. -/
def ahead (ops : Array Oper) (ks : List Nat) (i : Nat) : Bool := ks.all fun k => match ops[k]? with
  | some o => o.after.any fun e => Region.binds .any e && e.on == i
  | none => false
def AnyC (ρ : Option Nat) (P : Program) (ops : Array Oper) (C : Cls) (N : Act → World → Prop) : Nat → Array Bool → Act → World → Prop
  | 0, listed, a, w => Region.ready .any ops listed = [] ∧ N a w
  | fuel + 1, listed, a, w => (Region.ready .any ops listed = [] → N a w) ∧
    ∀ i ∈ Region.ready .any ops listed, Clean ρ P ops i (fun a' w' => C.at (listed.setIfInBounds i true) w' ∧ AnyC ρ P ops C N fuel (listed.setIfInBounds i true) a' w') a w

theorem AnyC.any {ops : Array Oper} {C : Cls} : ∀ {fuel : Nat} {listed : Array Bool} {a : Act} {w : World}, AnyC ρ P ops C (Q .normal) fuel listed a w → wpAnyIn (FW ρ) 0 P .any ops Q fuel listed a w
  | 0, _, _, _, h => h
  | _ + 1, _, _, _, h => ⟨h.1, fun i hi => wpOpIn_mono (fun _ _ h1 => AnyC.any h1.2) (h.2 i hi Q)⟩

theorem getD_set_ne' {l : Array Bool} {j k : Nat} (v d : Bool) (h : j ≠ k) : (l.setIfInBounds j v).getD k d = l.getD k d := by simp [Array.getD_eq_getD_getElem?, Array.getElem?_setIfInBounds_ne h]
theorem AnyC.first {ops : Array Oper} {C : Cls} {N : Act → World → Prop} {i : Nat} {oi : Oper} {v : Value} (hi : ops[i]? = some oi) (hsel : ∀ (j : Nat) (o : Oper), ops[j]? = some o → noSel o.op = true) (hah : ahead ops C.ks i = true) :
    ∀ (fuel : Nat) (listed : Array Bool) (a : Act) (w : World),
      (∀ j oj, ops[j]? = some oj → j ≠ i → listed.getD j true = false → (∀ e ∈ oj.after, Region.binds .any e = true → e.on ≠ i) → oi.apart ops oj = true) →
      i ∈ Region.ready .any ops listed → YC P ops C.p oi v a → stopped C.ks listed = false → C.p w →
      AnyC ρ P ops C N fuel (listed.setIfInBounds i true) (a.put oi.dst v) w → AnyC ρ P ops C N (fuel + 1) listed a w := by
  intro fuel
  induction fuel with
  | zero =>
    intro listed a w _ hr hy _ hC H
    refine ⟨fun h => (by rw [h] at hr; cases hr), fun j hj => ?_⟩
    by_cases hji : j = i
    · subst hji; exact hy.clean hi (hsel _ _ hi) hC ⟨.inr hC, H⟩
    · have := ready_mono hj hji
      rw [H.1] at this
      cases this
  | succ fuel ih =>
    intro listed a w hfree hr hy hst hC H
    refine ⟨fun h => (by rw [h] at hr; cases hr), fun j hj => ?_⟩
    by_cases hji : j = i
    · subst hji; exact hy.clean hi (hsel _ _ hi) hC ⟨.inr hC, H⟩
    · have h1 := H.2 j (ready_mono hj hji)
      obtain ⟨hjun, oj, hoj, hall⟩ := mem_ready.1 hj
      have hnot : ∀ e ∈ oj.after, Region.binds .any e = true → e.on ≠ i := fun e he hb heq => by
        have h1 := hall e he hb
        have h0 := (mem_ready.1 hr).1
        rw [heq] at h1
        rcases Nat.lt_or_ge i listed.size with h' | h'
        · simp [h'] at h0 h1; rw [h0] at h1; cases h1
        · simp [Array.getElem?_eq_none h'] at h1
      have hjk : j ∉ C.ks := fun hm => by
        have := List.all_eq_true.1 hah j hm
        rw [hoj] at this
        simp only at this
        obtain ⟨e, he, hb⟩ := Array.any_eq_true'.1 this
        simp only [Bool.and_eq_true, beq_iff_eq] at hb
        exact hnot e he hb.1 hb.2
      have hst' : stopped C.ks (listed.setIfInBounds j true) = false := by
        unfold stopped at *
        rw [List.any_eq_false] at *
        intro k hk
        have hne : j ≠ k := fun e => hjk (e ▸ hk)
        rw [getD_set_ne' true false hne]
        exact hst k hk
      have hsti : stopped C.ks ((listed.setIfInBounds i true).setIfInBounds j true) = false := by
        have hik : i ∉ C.ks := fun hm => by
          have := List.all_eq_true.1 hah i hm
          rw [hi] at this
          simp only at this
          obtain ⟨e, he, hb⟩ := Array.any_eq_true'.1 this
          simp only [Bool.and_eq_true, beq_iff_eq] at hb
          obtain ⟨h0, oi', hoi', hall'⟩ := mem_ready.1 hr
          rw [hi] at hoi'; cases hoi'
          have h1 := hall' e he hb.1
          rw [hb.2] at h1
          rcases Nat.lt_or_ge i listed.size with h' | h'
          · simp [h'] at h0 h1; rw [h0] at h1; cases h1
          · simp [Array.getElem?_eq_none h'] at h1
        unfold stopped at *
        rw [List.any_eq_false] at *
        intro k hk
        have n1 : j ≠ k := fun e => hjk (e ▸ hk)
        have n2 : i ≠ k := fun e => hik (e ▸ hk)
        rw [getD_set_ne' true false n1, getD_set_ne' true false n2]
        exact hst k hk
      have h2 := clean_put hoj (hfree j oj hoj hji hjun hnot) (hsel i oi hi) (hsel j oj hoj) hy h1
      have hfree' : ∀ k ok, ops[k]? = some ok → k ≠ i → (listed.setIfInBounds j true).getD k true = false →
          (∀ e ∈ ok.after, Region.binds .any e = true → e.on ≠ i) → oi.apart ops ok = true := fun k ok hk hki hun hno => by
        refine hfree k ok hk hki ?_ hno
        by_cases hjk : j = k
        · subst hjk; exact hjun
        · rw [getD_set_ne true hjk] at hun; exact hun
      have atp : ∀ w', C.at ((listed.setIfInBounds i true).setIfInBounds j true) w' → C.p w' := fun w' h => by
        rcases h with h | h
        · rw [hsti] at h; cases h
        · exact h
      refine Clean.mono (fun a' w' h3 => ⟨.inr (atp _ h3.2.1), ih (listed.setIfInBounds j true) a' w' hfree' (ready_mono hr (Ne.symm hji)) h3.1 hst' (atp _ h3.2.1) ?_⟩) h2
      rw [Array.setIfInBounds_comm _ _ hji]
      exact h3.2.2

def listedOf (n : Nat) (ls : List Nat) : Array Bool := ls.foldr (fun i l => l.setIfInBounds i true) (Array.replicate n false)
def noSels (ops : Array Oper) : Bool := ops.toList.all fun o => noSel o.op
theorem noSels_spec {ops : Array Oper} (h : noSels ops = true) (j : Nat) (o : Oper) (ho : ops[j]? = some o) : noSel o.op = true :=
  List.all_eq_true.1 h o (by simpa using Array.mem_of_getElem? ho)

/-- In the middle of a region that draws: what is done ('ls', the last one first); 'C' is what stays told throughout. -/
def WD (P : Program) (ρ : Option Nat) (c : Code) (Q : Post) (C : Cls) (fuel : Nat) (ls : List Nat) (s : St) : Prop :=
  ∀ a w, s.ok a w → C.at (listedOf (opsOf c).size ls) w → AnyC ρ P (opsOf c) C (Q .normal) fuel (listedOf (opsOf c).size ls) a w

def isDraw : Code → Bool
  | .region _ _ true => true
  | _ => false
theorem WP.draw (C : Cls) (hm : P.follows .mixedOrders = true) (hc : isDraw c = true) (n : Nat) (hn : Nat.beq (opsOf c).size n = true) (hC : ∀ w, Ok s.g s.h w → C.p w) (h : WD P ρ c Q C n [] s) : WP P ρ c Q s := by
  cases c <;> try (cases hc; done)
  rename_i id ops d
  cases d <;> try (cases hc; done)
  intro a w hs
  obtain rfl : ops.size = n := Nat.eq_of_beq_eq_true hn
  have hs' : s.ok a { w with drawn := w.drawn + 1 } := ⟨hs.env, hs.df, hs.ok.heap rfl⟩
  exact wpIn_region_any hm (h a _ hs' (.inr (hC _ hs'.ok))).any

theorem WD.done {C : Cls} {fuel : Nat} {ls : List Nat} (hr : Region.ready .any (opsOf c) (listedOf (opsOf c).size ls) = []) (h : PO Q .normal s) : WD P ρ c Q C fuel ls s := fun a w hs _ => by
  cases fuel with
  | zero => exact ⟨hr, h a w hs⟩
  | succ k => exact ⟨fun _ => h a w hs, by rw [hr]; intro i hi; cases hi⟩

/-- The only one that is ready. -/
theorem WD.force {α : Type} {C : Cls} {fuel : Nat} {ls : List Nat} {i : Nat} {p : α → Prop} {S : α → St} (hr : Region.ready .any (opsOf c) (listedOf (opsOf c).size ls) = [i]) (h : Stp P ρ (opsOf c) i s p S)
    (hC : ∀ x, p x → ∀ w, Ok (S x).g (S x).h w → C.at (listedOf (opsOf c).size (i :: ls)) w) (hn : ∀ x, p x → WD P ρ c Q C fuel (i :: ls) (S x)) : WD P ρ c Q C (fuel + 1) ls s := fun a w hs _ => by
  refine ⟨fun h0 => (by rw [hr] at h0; cases h0), ?_⟩
  rw [hr]
  intro j hj
  obtain rfl : j = i := by simpa using hj
  exact h a w hs _ fun x a' w' hp hok => ⟨hC x hp w' hok.ok, hn x hp a' w' hok (hC x hp w' hok.ok)⟩

theorem Stp.mono {α : Type} {ops : Array Oper} {i : Nat} {p p' : α → Prop} {S : α → St} (h : Stp P ρ ops i s p S) (hp : ∀ x, p x → p' x) : Stp P ρ ops i s p' S := fun a w hs K hK => h a w hs K fun x a' w' h1 h2 => hK x a' w' (hp x h1) h2

/-- Two that are ready, in either order. -/
theorem WD.force2 {α β : Type} {C : Cls} {fuel : Nat} {ls : List Nat} {i j : Nat} {p : α → Prop} {S : α → St} {q : β → Prop} {T : β → St} (hr : Region.ready .any (opsOf c) (listedOf (opsOf c).size ls) = [i, j])
    (h1 : Stp P ρ (opsOf c) i s p S) (h1C : ∀ x, p x → ∀ w, Ok (S x).g (S x).h w → C.at (listedOf (opsOf c).size (i :: ls)) w) (h2 : Stp P ρ (opsOf c) j s q T) (h2C : ∀ x, q x → ∀ w, Ok (T x).g (T x).h w → C.at (listedOf (opsOf c).size (j :: ls)) w)
    (hn1 : ∀ x, p x → WD P ρ c Q C fuel (i :: ls) (S x)) (hn2 : ∀ x, q x → WD P ρ c Q C fuel (j :: ls) (T x)) : WD P ρ c Q C (fuel + 1) ls s := fun a w hs _ => by
  refine ⟨fun h0 => (by rw [hr] at h0; cases h0), ?_⟩
  rw [hr]
  intro k hk
  rcases List.mem_cons.1 hk with rfl | hk
  · exact h1 a w hs _ fun x a' w' hp hok => ⟨h1C x hp w' hok.ok, hn1 x hp a' w' hok (h1C x hp w' hok.ok)⟩
  · obtain rfl : k = j := by simpa using hk
    exact h2 a w hs _ fun x a' w' hp hok => ⟨h2C x hp w' hok.ok, hn2 x hp a' w' hok (h2C x hp w' hok.ok)⟩

theorem WD.weak {C : Cls} {fuel : Nat} {ls : List Nat} {s' : St} (hs : ∀ a w, s.ok a w → s'.ok a w) (h : WD P ρ c Q C fuel ls s') : WD P ρ c Q C fuel ls s := fun a w h1 hC => h a w (hs a w h1) hC

theorem WO.as {i t : Nat} {v v' : Value} (hl : look s.e t = some v) (hv : v = v') (h : WO P ρ c Q i { s with e := (t, v') :: s.e }) : WO P ρ c Q i s := fun a w hs => h a w ⟨⟨hs.env.sz, fun t' u hu => by
  simp only [look] at hu
  cases hb : Nat.beq t t' with
  | true => rw [hb] at hu; cases hu; rw [← Nat.eq_of_beq_eq_true hb, ← hv]; exact hs.env.ev _ _ hl
  | false => rw [hb] at hu; exact hs.env.ev _ _ hu⟩, hs.df, hs.ok⟩
theorem WD.as {C : Cls} {fuel : Nat} {ls : List Nat} {t : Nat} {v v' : Value} (hl : look s.e t = some v) (hv : v = v') (h : WD P ρ c Q C fuel ls { s with e := (t, v') :: s.e }) : WD P ρ c Q C fuel ls s := fun a w hs => h a w ⟨⟨hs.env.sz, fun t' u hu => by
  simp only [look] at hu
  cases hb : Nat.beq t t' with
  | true => rw [hb] at hu; cases hu; rw [← Nat.eq_of_beq_eq_true hb, ← hv]; exact hs.env.ev _ _ hl
  | false => rw [hb] at hu; exact hs.env.ev _ _ hu⟩, hs.df, hs.ok⟩

theorem evLd_sound {g : GH} {e : Env} {h : Hs} {o : Oper} {t : Nat} {out : Out} (hev : evLd P e h o t = some out) (hc : ∀ c, out.c = some c → c) {w : World} (hw : Ok g h w) : (execOp (rho e) o).run P w = .ok (.value out.v) w := by
  simp only [evLd] at hev
  split at hev <;> try (cases hev; done)
  rename_i T x ho
  split at hev <;> try (cases hev; done)
  rename_i ad hx
  split at hev <;> try (cases hev; done)
  rename_i en hf hsp
  split at hev <;> try (cases hev; done)
  rename_i b cs hcs
  have hh := hw.en _ (findE_mem hf)
  split at hev <;> try (cases hev; done)
  · rename_i sz hag hsz
    cases hb : Nat.beq (seg cs ad.off sz).length sz with
    | false => rw [hb] at hev; cases hev
    | true =>
      rw [hb] at hev
      cases hev
      have hbl : ad.block = b := hc _ rfl
      have hl := Nat.eq_of_beq_eq_true hb
      have had : ad = ⟨b, ad.off, none⟩ := by cases ad; simp_all
      have hr := run_loadCells_list (P := P) (w := w) ad (seg cs ad.off sz) (fun j u e1 => by rw [had, add_flat]; exact Ent.cell hh hcs (seg_get e1))
      rw [hl] at hr
      simp only [execOp, ho, Instr.loadAt, hx, Instr.sureAddr, loadVar, Sem.run_bind, Sem.run_pure, Result.andThen_ok, pureRun_sound hag w, if_true, pureRun_sound hsz w, hr]
  · rename_i sz hag hsz
    split at hev <;> try (cases hev; done)
    rename_i v hv
    cases hev
    have hbl : ad.block = b := hc _ rfl
    have had : ad = ⟨b, ad.off, none⟩ := by cases ad; simp_all
    have hcell : w.cell? ad = some v := by rw [had]; exact Ent.cell hh hcs hv
    simp only [execOp, ho, Instr.loadAt, hx, Instr.sureAddr, loadVar, Sem.run_bind, Sem.run_pure, Result.andThen_ok, pureRun_sound hag w, Bool.false_eq_true, if_false, run_load, hcell]
theorem evLv_sound {g : GH} {e : Env} {h : Hs} {o : Oper} {t : Nat} {v : Value} {out : Out} (hev : evLv P e h o t v = some out) (hc : ∀ c, out.c = some c → c) {w : World} (hw : Ok g h w) : (execOp (rho e) o).run P w = .ok (.value out.v) w := by
  simp only [evLv] at hev
  split at hev <;> try (cases hev; done)
  rename_i T x ho
  split at hev <;> try (cases hev; done)
  rename_i ad hx
  split at hev <;> try (cases hev; done)
  rename_i en hf hsp
  split at hev <;> try (cases hev; done)
  rename_i b cs hcs
  have hh := hw.en _ (findE_mem hf)
  split at hev <;> try (cases hev; done)
  rename_i ag sz hag hsz
  cases hev
  obtain ⟨hbl, hor⟩ := hc _ rfl
  have had : ad = ⟨b, ad.off, none⟩ := by cases ad; simp_all
  cases ag with
  | true =>
    obtain ⟨hl, rfl⟩ : (seg cs ad.off sz).length = sz ∧ v = .agg (seg cs ad.off sz).toArray := hor
    have hr := run_loadCells_list (P := P) (w := w) ad (seg cs ad.off sz) (fun j u e1 => by rw [had, add_flat]; exact Ent.cell hh hcs (seg_get e1))
    rw [hl] at hr
    simp only [execOp, ho, Instr.loadAt, hx, Instr.sureAddr, loadVar, Sem.run_bind, Sem.run_pure, Result.andThen_ok, pureRun_sound hag w, if_true, pureRun_sound hsz w, hr]
  | false =>
    have hcell : w.cell? ad = some v := by rw [had]; exact Ent.cell hh hcs hor
    simp only [execOp, ho, Instr.loadAt, hx, Instr.sureAddr, loadVar, Sem.run_bind, Sem.run_pure, Result.andThen_ok, pureRun_sound hag w, Bool.false_eq_true, if_false, run_load, hcell]
theorem evLg_sound {g : GH} {e : Env} {h : Hs} {o : Oper} {v : Value} {out : Out} (hev : evLg P g e h o v = some out) (hc : ∀ c, out.c = some c → c) {w : World} (hw : Ok g h w) : (execOp (rho e) o).run P w = .ok (.value out.v) w := by
  simp only [evLg] at hev
  split at hev <;> try (cases hev; done)
  rename_i T x ho
  split at hev <;> try (cases hev; done)
  rename_i ad hx
  split at hev <;> try (cases hev; done)
  rename_i ag sz hag hsz
  cases hev
  have hg : GLoad g ad ag sz v := hc _ rfl
  cases ag with
  | true =>
    obtain ⟨cs, rfl, hl, hcs⟩ : ∃ cs : List Value, v = .agg cs.toArray ∧ cs.length = sz ∧ ∀ j u, cs[j]? = some u → gcell g (ad.add j) = some u := hg
    have hr := run_loadCells_list (P := P) (w := w) ad cs (fun j u e1 => gcell_cell hw (hcs j u e1))
    rw [hl] at hr
    simp only [execOp, ho, Instr.loadAt, hx, Instr.sureAddr, loadVar, Sem.run_bind, Sem.run_pure, Result.andThen_ok, pureRun_sound hag w, if_true, pureRun_sound hsz w, hr]
  | false =>
    have hcell : w.cell? ad = some v := gcell_cell hw hg
    simp only [execOp, ho, Instr.loadAt, hx, Instr.sureAddr, loadVar, Sem.run_bind, Sem.run_pure, Result.andThen_ok, pureRun_sound hag w, Bool.false_eq_true, if_false, run_load, hcell]

/-- What a quiet one yields, and what it asks. -/
def evQ (P : Program) (g : GH) (e : Env) (h : Hs) (x : Hint) (o : Oper) : Option (Value × Option Prop) :=
  match x with
  | .n => match pureRun P (execOp (rho e) o) with
    | some (.value v) => some (v, none)
    | _ => none
  | .ld t => match evLd P e h o t with
    | some r => some (r.v, r.c)
    | none => none
  | .lv t v => match evLv P e h o t v with
    | some r => some (r.v, r.c)
    | none => none
  | .lg v => match evLg P g e h o v with
    | some r => some (r.v, r.c)
    | none => none
  | .sp v => some (v, some (Sp P g h e o v))
  | .s => match evS P e o with
    | some (v, c) => some (v, some c)
    | none => none
  | .w v => match evW P e o v with
    | some c => some (v, some c)
    | none => none
  | .o t => match evO P e h o t with
    | some (v, c) => some (v, some c)
    | none => none
  | .mg t v => match evMg P e h o t v with
    | some r => some (r.v, r.c)
    | none => none
  | _ => none
theorem evQ_sound {g : GH} {e : Env} {h : Hs} {x : Hint} {o : Oper} {v : Value} {cc : Option Prop} (hev : evQ P g e h x o = some (v, cc)) (hc : ∀ c, cc = some c → c) {w : World} (hw : Ok g h w) : (execOp (rho e) o).run P w = .ok (.value v) w := by
  cases x <;> simp only [evQ] at hev <;> try (cases hev; done)
  · split at hev <;> try (cases hev; done)
    rename_i hp
    cases hev
    exact pureRun_sound hp w
  · split at hev <;> try (cases hev; done)
    rename_i hp
    cases hev
    exact evLd_sound hp hc hw
  · split at hev <;> try (cases hev; done)
    rename_i hp
    cases hev
    exact evLv_sound hp hc hw
  · split at hev <;> try (cases hev; done)
    rename_i hp
    cases hev
    exact evLg_sound hp hc hw
  · cases hev
    exact hc _ rfl w hw
  · split at hev <;> try (cases hev; done)
    rename_i hs
    cases hev
    exact evS_sound hs (hc _ rfl) w
  · split at hev <;> try (cases hev; done)
    rename_i hs
    cases hev
    exact evW_sound hs (hc _ rfl) w
  · split at hev <;> try (cases hev; done)
    rename_i hs
    cases hev
    exact evO_sound hs (hc _ rfl) hw
  · split at hev <;> try (cases hev; done)
    rename_i hs
    cases hev
    exact (evMg_sound hs hc hw).1

/-- Quiet ones, one by one, in an order of choice. -/
def segD (P : Program) (g : GH) (n : Nat) (ops : Array Oper) (ks : List Nat) (h : Hs) (hs : List (Nat × Hint)) : List Nat → List Nat → Env → (Env → Prop) → Prop
  | [], _, e, K => K e
  | i :: r, ls, e, K =>
    match ops[i]?, Region.free .any ops (listedOf ops.size ls) i && ((Region.ready .any ops (listedOf ops.size ls)).contains i && (ahead ops ks i && !stopped ks (listedOf ops.size ls))) with
    | some o, true =>
      match guardOf ops e o, dstOk n o.dst with
      | some false, true => segD P g n ops ks h hs r (i :: ls) (putE e o.dst undef) K
      | some true, true =>
        match evQ P g e h (hintOf hs i) o, known e o.op.operands.toList with
        | some (v, none), true => segD P g n ops ks h hs r (i :: ls) (putE e o.dst v) K
        | some (v, some c), true => c ∧ segD P g n ops ks h hs r (i :: ls) (putE e o.dst v) K
        | _, _ => False
      | _, _ => False
    | _, _ => False

theorem segD_sound {g0 : GH} {ks : List Nat} {h0 : Hs} {hs : List (Nat × Hint)} {K : Env → Prop} (hns : noSels (opsOf c) = true) : ∀ (is ls : List Nat) (fuel : Nat) (s : St), segD P g0 s.n (opsOf c) ks h0 hs is ls s.e K →
    (∀ e, K e → WD P ρ c Q ⟨ks, Ok g0 h0⟩ fuel (is.reverse ++ ls) { s with e := e }) → WD P ρ c Q ⟨ks, Ok g0 h0⟩ (fuel + is.length) ls s
  | [], ls, fuel, s, h, hk => hk _ h
  | i :: r, ls, fuel, s, h, hk => by
    unfold segD at h
    split at h <;> try (exact h.elim)
    rename_i o ho hfl
    simp only [Bool.and_eq_true, Bool.not_eq_true'] at hfl
    have hnx : ∀ v, segD P g0 s.n (opsOf c) ks h0 hs r (i :: ls) (putE s.e o.dst v) K → WD P ρ c Q ⟨ks, Ok g0 h0⟩ (fuel + r.length) (i :: ls) { s with e := putE s.e o.dst v } := fun v hv =>
      segD_sound hns r (i :: ls) fuel { s with e := putE s.e o.dst v } hv (fun e he => by
        have := hk e he
        rw [List.reverse_cons, List.append_assoc] at this
        exact this)
    have take : ∀ v, (∀ a w, s.ok a w → Ok g0 h0 w → YC P (opsOf c) (Ok g0 h0) o v a) → dstOk s.n o.dst = true → segD P g0 s.n (opsOf c) ks h0 hs r (i :: ls) (putE s.e o.dst v) K → WD P ρ c Q ⟨ks, Ok g0 h0⟩ (fuel + (i :: r).length) ls s := by
      intro v hy hd hv a w hok hC
      have hC : Ok g0 h0 w := by
        rcases hC with h | h
        · rw [hfl.2.2.2] at h; cases h
        · exact h
      refine AnyC.first ho (noSels_spec hns) hfl.2.2.1 (fuel + r.length) _ a w (Region.free_spec ho hfl.1) (by simpa using hfl.2.1) (hy a w hok hC) hfl.2.2.2 hC ?_
      exact hnx v hv (a.put o.dst v) w (hok.put hd hok.ok) (.inr hC)
    split at h <;> try (exact h.elim)
    · rename_i hg hd
      exact take undef (fun a w hok _ => .inr ⟨guardOf_sound hg hok.env, rfl⟩) hd h
    · rename_i hg hd
      split at h <;> try (exact h.elim)
      · rename_i v hev hkn
        exact take v (fun a w hok _ => .inl ⟨guardOf_sound hg hok.env, fun w hw => by
          have hcong := execOp_congr (ρ := rho s.e) (ρ' := a.eval) o (noSel_select (noSels_spec hns i o ho)) (fun y hy => hok.env.rho hkn y (by simpa using hy))
          rw [← hcong]; exact evQ_sound hev (fun c e => by cases e) hw⟩) hd h
      · rename_i v cc hev hkn
        exact take v (fun a w hok _ => .inl ⟨guardOf_sound hg hok.env, fun w hw => by
          have hcong := execOp_congr (ρ := rho s.e) (ρ' := a.eval) o (noSel_select (noSels_spec hns i o ho)) (fun y hy => hok.env.rho hkn y (by simpa using hy))
          rw [← hcong]; exact evQ_sound hev (fun c e => by cases e; exact h.1) hw⟩) hd h.2

/-- Quiet ones: 'X' is what they come to. -/
theorem WD.take {g0 : GH} {ks : List Nat} {h0 : Hs} {ls : List Nat} {n fuel : Nat} (is ts : List Nat) (hs : List (Nat × Hint)) (X : (Env → Prop) → Prop) (hX : ∀ K, X K = segD P g0 s.n (opsOf c) ks h0 hs is ls s.e (fun e => K (selE e ts))) (hns : noSels (opsOf c) = true)
    (hf : Nat.beq (fuel + is.length) n = true) (x : X (fun e => WD P ρ c Q ⟨ks, Ok g0 h0⟩ fuel (is.reverse ++ ls) { s with e := e })) : WD P ρ c Q ⟨ks, Ok g0 h0⟩ n ls s := by
  rw [hX] at x
  obtain rfl := Nat.eq_of_beq_eq_true hf
  exact segD_sound hns is ls fuel s x fun e he a w hok hC => he a w (hok.sel ts) hC

/-- One operation, with what may follow: as in a stretch. -/
theorem Stp.ev {i : Nat} {α : Type} {p : α → Prop} {S : α → St} (x : Hint) (o : Oper) (ho : (opsOf c)[i]? = some o) (hg : guardOf (opsOf c) s.e o = some true)
    (h : ∀ nb, stepP s.n s.e o (evOp P s.g s.e s.h nb x o) fun e h => ∃ y, p y ∧ S y = { s with e := e, h := h }) : Stp P ρ (opsOf c) i s p S := by
  intro a w hs K hK Q
  unfold wpOpIn
  simp only [ho, guardOf_sound hg hs.env, if_true]
  exact stepP_sound rfl (h w.heap.size) hs (fun _ => rfl) fun e h' a' w' hh hok => by
    obtain ⟨y, hp, hS⟩ := hh
    exact hK y a' w' hp (by rw [hS]; exact hok)

theorem Stp.call {i K : Nat} {args : List Value} {dst : Option Tmp} {α : Type} {p : α → Prop} {v : α → Value} {g' : α → GH} {h' : α → Hs} (hc : callAt (opsOf c) i s.n s.e = some (K, args, dst)) (he : ∀ args w, (callFunc K args).run P w = .ok (.enter K args) w)
    (hcon : ∀ w, Ok s.g s.h w → Calls P K args.toArray w (Ret p v g' h')) : Stp P ρ (opsOf c) i s p (fun x => { s with e := putE s.e dst (v x), g := g' x, h := h' x }) := by
  intro a w hs R hR Q
  unfold callAt at hc
  cases ho : (opsOf c)[i]? with
  | none => rw [ho] at hc; cases hc
  | some o =>
    rw [ho] at hc
    simp only at hc
    split at hc <;> try (cases hc; done)
    rename_i f xs ats hop hgd
    split at hc <;> try (cases hc; done)
    rename_i K' first cap hfv hkn
    cases hc
    simp only [Bool.and_eq_true] at hkn
    unfold wpOpIn
    simp only [ho]
    rw [guardOf_sound hgd hs.env, if_pos rfl]
    refine ⟨fun _ _ => trivial, ?_⟩
    rw [Oper.semAt_eq _ _ _ (by rw [hop]; intro c e; cases e)]
    have hrf : a.eval f = .func (.func K) first cap := by rw [← hs.env.rho hkn.1 f (by simp)]; exact hfv
    have hra : xs.map a.eval = (xs.toList.map (rho s.e)).toArray := by
      apply Array.ext'
      simp only [Array.toList_map]
      exact List.map_congr_left fun x hx => (hs.env.rho hkn.1 x (by simp [hx])).symm
    have hrun : (execOp a.eval o).run P w = .ok (.enter K (first.toList ++ xs.toList.map (rho s.e) ++ cap.toList).toArray) w := by
      simp only [execOp, hop, resolve, hrf, Deferred.ofValue, Sem.run_bind, Sem.run_pure, Result.andThen_ok, invoke, hra]
      have : first ++ (xs.toList.map (rho s.e)).toArray ++ cap = (first.toList ++ xs.toList.map (rho s.e) ++ cap.toList).toArray := by apply Array.ext'; simp
      rw [this]; exact he _ w
    rw [hrun]
    refine ⟨fun h => (by cases h), ?_⟩
    refine (callsIn_FW (hcon w hs.ok)).mono ?_
    rintro e w' ⟨x, hp, rfl, hw'⟩
    exact hR x _ _ hp (hs.put hkn.2 hw')
end
end Go.Eng
