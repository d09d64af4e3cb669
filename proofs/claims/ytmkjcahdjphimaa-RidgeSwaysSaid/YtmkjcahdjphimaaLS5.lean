/- RidgeSways: the law. -/
import Derived.Test.YtmkjcahdjphimaaLS4
namespace Go.Proofs.Ytmkjcahdjphimaa
open Go Go.Eng

theorem rep_all : ((List.range 8).all fun i => (List.range 10).all fun c => match m_f39 2000 [(i : Int)] (c : Int) with | some r => r.length == c | none => false) = true := by kernel_rfl
theorem t39 (i c : Int) (h0 : 0 ≤ i) (h1 : i < 8) (c0 : 0 ≤ c) (c1 : c < 10) : Tot (m_f39 2000 [i] c) (fun r => (r.length : Int) = c) := by
  have h := List.all_eq_true.1 (List.all_eq_true.1 rep_all i.toNat (List.mem_range.2 (by omega))) c.toNat (List.mem_range.2 (by omega))
  have e1 : ((i.toNat : Nat) : Int) = i := by omega
  have e2 : ((c.toNat : Nat) : Int) = c := by omega
  rw [e1, e2] at h
  cases hm : m_f39 2000 [i] c with
  | none => rw [hm] at h; cases h
  | some r =>
    rw [hm] at h
    have : r.length = c.toNat := by simpa using h
    exact ⟨r, rfl, by omega⟩
theorem lives2000 : m_f7 2000 = some true := by kernel_rfl

section
variable {S k L n h : Int}
theorem t9 (R : Rod S k L n h) : Tot (m_f9 2000 S k [(L, n)]) (fun r => r.2 = 0 ∧ (r.1.length : Int) = Rd h n) := by
  have r6 := R.n0; have r7 := R.n1; have r8 := R.h1
  unfold m_f9
  refine Tot.bnd (t32 2000 (by omega) R) fun e he => ?_
  subst he
  refine Tot.cond (by simp) fun _ => ?_
  rw [t38 2000 (by omega)]
  refine Tot.bnd (Q := fun x => x = A n) ⟨_, rfl, rfl⟩ fun x hx => ?_
  subst hx
  refine Tot.bnd (Q := fun plan => (plan.length : Int) = Rd h n) (Tot.iter (fun s => ∃ m, 0 ≤ m ∧ m ≤ 9 ∧ s.1 = A m ∧ (s.2.1.length : Int) + Rd h m = Rd h n ∧ Mo h s.2.2) (fun s => (s.1.getD 0 0).toNat) ?_ 2000 _ ⟨n, r6, r7, rfl, by simp, fun p hp => by cases hp⟩ (by show n.toNat < 2000; omega)) ?_
  · rintro ⟨arr, plan, memo⟩ ⟨m, h0, h9, ha, hp, hmo⟩
    simp only at ha hp hmo
    subst ha
    show Tot (f9_l5 2000 (A m) plan memo S k [(L, n)]) _
    unfold f9_l5
    have heq : eqA (A m) (List.replicate 8 0) (List.range 8) = (m == 0) := eqA_A m 0
    rw [heq]
    have hR9 := Rd_le (h := h) (m := n) r8 r6
    have hRm := Rd_nonneg (h := h) (m := m) r8 h0
    refine Tot.cond (fun hc => ?_) (fun hc => Tot.ret ?_)
    · have hm0 : m ≠ 0 := by simpa using hc
      refine Tot.bnd (tget R m.toNat m 2000 (by omega) h9 (by omega) memo hmo) ?_
      rintro ⟨first, rods, memo2⟩ ⟨hg, hmo2⟩
      simp only at hg hmo2
      rcases hg.2 with ⟨hz, _⟩ | ⟨t, t1, t2, hf, ht⟩
      · exact absurd hz hm0
      subst hf
      refine Tot.bnd (Q := fun z => z.1 = plan ∧ z.2.1.length ≤ 200 ∧ z.2.2.1 = A (m - t) ∧ z.2.2.2 = (A t, rods, memo2)) (Tot.iter (fun s => 0 ≤ s.1 ∧ s.1 ≤ 8 ∧ (s.2.2.length : Int) ≤ 9 * s.1 ∧ ((s.1 = 0 ∧ s.2.1 = A m) ∨ (1 ≤ s.1 ∧ s.2.1 = A (m - t)))) (fun s => (8 - s.1).toNat) ?_ 2000 _ ⟨by show (0 : Int) ≤ 0; omega, by show (0 : Int) ≤ 8; omega, by simp, .inl ⟨rfl, rfl⟩⟩ (by show (8 - 0 : Int).toNat < 2000; omega)) ?_
      · rintro ⟨i, arr, l⟩ ⟨g0, g1, g2, g3⟩
        simp only at g0 g1 g2 g3
        show Tot (f9_l6 2000 i arr l (A t, rods, memo2) plan) _
        unfold f9_l6
        refine Tot.cond (fun hi => ?_) (fun hi => Tot.ret ?_)
        · have hi' : i < 8 := of_decide_eq_true hi
          refine Tot.grd ⟨g0, hi'⟩ ?_
          have hc9 : 0 ≤ List.getD (A t) i.toNat 0 ∧ List.getD (A t) i.toNat 0 < 10 := by
            by_cases hi0 : i = 0
            · subst hi0; show 0 ≤ t ∧ t < 10; omega
            · rw [(A_i (x := t) (by omega) hi').2]; omega
          refine Tot.bnd (t39 i (List.getD (A t) i.toNat 0) g0 hi' hc9.1 hc9.2) fun r hr => ?_
          have hl : (l ++ r).length ≤ 200 := by rw [List.length_append]; omega
          refine Tot.grd (by omega) (Tot.ret ?_)
          have e1 : w64 (i + 1) = i + 1 := w64_id (by omega) (by omega)
          rw [e1]
          refine ⟨⟨by show 0 ≤ i + 1; omega, by show i + 1 ≤ 8; omega, ?_, .inr ⟨by show 1 ≤ i + 1; omega, ?_⟩⟩, by show (8 - (i + 1)).toNat < (8 - i).toNat; omega⟩
          · show ((l ++ r).length : Int) ≤ 9 * (i + 1)
            rw [List.length_append]; omega
          · show setA 8 arr i (w64 (List.getD arr i.toNat 0 - List.getD (A t) i.toNat 0)) = A (m - t)
            rcases g3 with ⟨rfl, rfl⟩ | ⟨hi1, rfl⟩
            · show setA 8 (A m) 0 (w64 (m - t)) = _
              rw [w64_id (by omega) (by omega)]; rfl
            · rw [(A_i hi1 hi').2, (A_i hi1 hi').2]
              have : w64 ((0 : Int) - 0) = 0 := by decide
              rw [this]; exact (A_i hi1 hi').1
        · have hi' : ¬ i < 8 := of_decide_eq_false hi
          rcases g3 with ⟨g3, _⟩ | ⟨_, rfl⟩
          · omega
          · exact ⟨rfl, by show l.length ≤ 200; omega, rfl, rfl⟩
      · rintro ⟨pl, l, arr, r3⟩ ⟨q1, q2, q3, q4⟩
        simp only at q1 q2 q3 q4
        subst q1 q3 q4
        show Tot (f9_j7 2000 pl l (A (m - t)) (A t, rods, memo2)) _
        unfold f9_j7
        refine Tot.grd (by rw [List.length_append]; simp; omega) (Tot.ret ?_)
        refine ⟨⟨m - t, by omega, by omega, rfl, ?_, hmo2⟩, ?_⟩
        · show ((pl ++ [l]).length : Int) + Rd h (m - t) = Rd h n
          rw [List.length_append]; simp; omega
        · show (m - t).toNat < m.toNat; omega
    · have hm0 : m = 0 := by simpa using hc
      subst hm0
      rw [Rd_zero r8] at hp
      show (plan.length : Int) = Rd h n
      omega
  · intro plan hp
    unfold f9_j8
    exact Tot.ret ⟨rfl, hp⟩
theorem t40 : m_f40 2000 [1] = some false := by kernel_rfl
theorem t10 (R : Rod S k L n h) : Tot (m_f10 2000 S k [(L, n)] [1]) (fun r => r = (Rd h n, 0)) := by
  unfold m_f10
  refine Tot.bnd (t32 2000 (by omega) R) fun e he => ?_
  subst he
  refine Tot.cond (by simp) fun _ => ?_
  refine Tot.cond (by simp) fun _ => ?_
  rw [t40]
  refine Tot.bnd (Q := fun x => x = false) ⟨_, rfl, rfl⟩ fun x hx => ?_
  subst hx
  unfold f10_j1
  refine Tot.cond (by simp) fun _ => ?_
  refine Tot.bnd (t43 2000 (by omega) R) fun r hr => ?_
  subst hr
  exact Tot.ret rfl
end

/-- Whatever the input: true. -/
theorem ridgeSways (x1 : List (Int × Int)) (x5 : HB) (x9 x10 x11 x12 x13 x14 x15 x16 x17 x18 x19 x20 x21 x22 : Int) (h21 : 0 ≤ x21 ∧ x21 ≤ 65535) (h22 : 0 ≤ x22 ∧ x22 ≤ 255) :
    m_f3 2000 x1 x5 x9 x10 x11 x12 x13 x14 x15 x16 x17 x18 x19 x20 x21 x22 = some true := by
  have lv : ∀ {f : Bool → Option Bool}, Tot (f true) (fun b => b = true) → Tot (bnd (m_f7 2000) f) (fun b => b = true) := fun hf => by
    rw [lives2000]; exact hf
  suffices hs : Tot (m_f3 2000 x1 x5 x9 x10 x11 x12 x13 x14 x15 x16 x17 x18 x19 x20 x21 x22) (fun b => b = true) by
    obtain ⟨b, h1, rfl⟩ := hs; exact h1
  unfold m_f3 m_f6 f6_j1
  refine Tot.bnd (Q := fun _ => True) ?_ fun b _ => ?_
  · exact Tot.cond (fun _ => Tot.ret trivial) (fun _ => Tot.ret trivial)
  refine Tot.cond (fun _ => lv (Tot.ret rfl)) (fun _ => ?_)
  refine Tot.bnd (t8 2000 rfl ..) ?_
  rintro ⟨cs, e⟩ hfine
  simp only at hfine
  have way : ∀ b, (b = false → e = 0 ∧ cs.length ≤ 9) → Tot (f3_j1 2000 b x1 x22 x21 (cs, e)) (fun b => b = true) := by
    intro b hb
    unfold f3_j1
    refine Tot.cond (fun _ => lv (Tot.ret rfl)) (fun hbf => ?_)
    obtain ⟨he, hn⟩ := hb hbf
    obtain ⟨hf, hl⟩ := hfine he
    refine Tot.bnd (Q := fun z => (0 ≤ z.1 ∧ z.1 ≤ 400) ∧ z.2 = (x22, x21, (cs, e))) (Tot.iter (fun s => (0 ≤ s.1 ∧ s.1 ≤ 400) ∧ 0 ≤ s.2 ∧ s.2 ≤ (x1.length : Int)) (fun s => ((x1.length : Int) - s.2).toNat) ?_ 2000 _ ⟨⟨by show (0 : Int) ≤ 0; omega, by show (0 : Int) ≤ 400; omega⟩, by show (0 : Int) ≤ 0; omega, by show (0 : Int) ≤ _; omega⟩ (by show ((x1.length : Int) - 0).toNat < 2000; omega)) ?_
    · rintro ⟨w, i⟩ ⟨⟨w0, w1⟩, g0, g1⟩
      simp only at w0 w1 g0 g1
      show Tot (f3_l2 2000 w i x1 x22 x21 (cs, e)) _
      unfold f3_l2
      refine Tot.cond (fun hc => ?_) (fun hc => Tot.ret ⟨⟨w0, w1⟩, rfl⟩)
      have hc' := of_decide_eq_true hc
      refine Tot.bnd (Tot.idx g0 hc') fun p hp => Tot.ret ?_
      have e1 : w64 (i + 1) = i + 1 := w64_id (by omega) (by omega)
      have hpf := (hf p hp.2).1
      rw [e1]
      refine ⟨⟨?_, by show 0 ≤ i + 1; omega, by show i + 1 ≤ _; omega⟩, by show ((x1.length : Int) - (i + 1)).toNat < ((x1.length : Int) - i).toNat; omega⟩
      show 0 ≤ imax w p.1 ∧ imax w p.1 ≤ 400
      unfold imax; split <;> omega
    · rintro ⟨w, _, _, _⟩ ⟨⟨w0, w1⟩, hz⟩
      cases hz
      simp only at w0 w1
      show Tot (f3_j3 2000 w x22 x21 (cs, e)) _
      unfold f3_j3
      refine Tot.cond (fun _ => lv (Tot.ret rfl)) (fun hw => ?_)
      have hw' : 1 ≤ w := by have := of_decide_eq_false hw; omega
      have e1 : w64 x22 = x22 := w64_id (by omega) (by omega)
      have e2 : w64 x21 = x21 := w64_id (by omega) (by omega)
      have e3 : w64 (w + x22) = w + x22 := w64_id (by omega) (by omega)
      have e4 : w64 (w + x21) = w + x21 := w64_id (by omega) (by omega)
      have e5 : w64 (w + x21 + x22) = w + x21 + x22 := w64_id (by omega) (by omega)
      rw [e1, e2, e3, e4, e5]
      obtain ⟨h, hh⟩ : ∃ h, h = (w + x21 + x22) / (w + x22) := ⟨_, rfl⟩
      have hd : Int.tdiv (w + x21 + x22) (w + x22) = h := by rw [hh]; exact Int.tdiv_eq_ediv_of_nonneg (by omega)
      have hm1 : h * (w + x22) ≤ w + x21 + x22 := by rw [hh]; exact Int.ediv_mul_le _ (by omega)
      have hm2 : w + x21 + x22 < (h + 1) * (w + x22) := by rw [hh]; exact Int.lt_ediv_add_one_mul_self _ (by omega)
      have h1 : 1 ≤ h := by
        rw [hh]; exact Int.le_ediv_of_mul_le (by omega) (by omega)
      have h2 : h ≤ 100000 := by
        rw [hh]
        have := Int.ediv_le_self (b := w + x22) (show (0 : Int) ≤ w + x21 + x22 by omega)
        omega
      rw [hd]
      have e6 : w64 h = h := w64_id (by omega) (by omega)
      rw [e6]
      obtain ⟨m, hm⟩ : ∃ m : Int, m = (cs.length : Int) := ⟨_, rfl⟩
      have hm9 : m ≤ 9 := by omega
      have e7 : w64 (m + h) = m + h := w64_id (by omega) (by omega)
      have e8 : w64 (m + h - 1) = m + h - 1 := w64_id (by omega) (by omega)
      simp only [← hm]
      rw [e7, e8, Rd_tdiv h1 (by omega)]
      have b1 := Rd_le (h := h) (m := m) h1 (by omega)
      have b2 := Rd_nonneg (h := h) (m := m) h1 (by omega)
      have e9 : w64 (Rd h m) = Rd h m := w64_id (by omega) (by omega)
      rw [e9]
      refine Tot.grd (by omega) ?_
      refine Tot.grd (by omega) ?_
      have R : Rod (w + x21) x22 w m h := ⟨hw', by omega, by omega, by omega, by omega, by omega, hm9, h1, by omega, by omega⟩
      refine Tot.bnd (t9 R) ?_
      rintro ⟨plan, pe⟩ ⟨hpe, hpl⟩
      simp only at hpe hpl
      subst hpe
      refine Tot.bnd (t10 R) ?_
      rintro _ rfl
      refine Tot.cond (fun _ => ?_) (by simp)
      refine Tot.cond (fun _ => ?_) (by simp)
      refine Tot.cond (fun _ => ?_) (fun hc => by rw [hpl] at hc; simp at hc)
      refine Tot.cond (fun _ => ?_) (by simp)
      exact lv (Tot.ret rfl)
  refine Tot.cond (fun _ => way true (by simp)) (fun hc => way _ fun hb => ?_)
  refine ⟨by simpa using hc, ?_⟩
  have : ¬ ((cs.length : Int) > 9) := of_decide_eq_false hb
  omega
end Go.Proofs.Ytmkjcahdjphimaa
