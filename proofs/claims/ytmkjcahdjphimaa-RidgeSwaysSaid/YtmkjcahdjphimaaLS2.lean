/- RidgeSways: laying answers. -/
import Derived.Test.YtmkjcahdjphimaaLS1
namespace Go.Proofs.Ytmkjcahdjphimaa
open Go Go.Eng

theorem in71 (kk : Nat) (a b lo hi : Int) : Tot (m_f71 kk a b lo hi) (fun r => r = true → lo ≤ a ∧ a ≤ b ∧ b ≤ hi) := by
  unfold m_f71 f71_j1
  refine Tot.cond (fun h => ?_) (fun _ => Tot.ret (by simp))
  refine Tot.cond (fun h2 => Tot.ret ?_) (fun _ => Tot.ret (by simp))
  simp at h h2 ⊢
  exact fun h3 => ⟨h, h2, h3⟩
theorem t30 (kk : Nat) (x1 x2 x3 x4 x5 x6 x7 x8 : Int) : Tot (m_f30 kk x1 x2 x3 x4 x5 x6 x7 x8) (fun e => e = 0 → 1 ≤ x1 ∧ x1 ≤ 96) := by
  have fin : ∀ b, (b = false → 1 ≤ x1 ∧ x1 ≤ 96) → Tot (f30_j1 kk b) (fun e => e = 0 → 1 ≤ x1 ∧ x1 ≤ 96) := fun b hb => by
    unfold f30_j1
    refine Tot.cond (fun _ => Tot.ret (by simp)) (fun h => Tot.ret fun _ => hb h)
  unfold m_f30
  refine Tot.bnd (in67 ..) fun a ha => Tot.cond (fun _ => fin _ (by simp)) fun h1 => ?_
  have h1' := ha.1 (by simpa using h1)
  refine Tot.bnd (in71 ..) fun _ _ => Tot.cond (fun _ => fin _ (by simp)) fun _ => ?_
  refine Tot.bnd (in71 ..) fun _ _ => Tot.cond (fun _ => fin _ (by simp)) fun _ => ?_
  refine Tot.bnd (in67 ..) fun _ _ => Tot.cond (fun _ => fin _ (by simp)) fun _ => ?_
  refine Tot.bnd (in67 ..) fun _ _ => Tot.cond (fun _ => fin _ (by simp)) fun _ => ?_
  exact Tot.bnd (in67 ..) fun _ _ => fin _ (fun _ => h1')
theorem t31 (kk : Nat) (x1 x2 x3 x4 x5 x6 : Int) : Tot (m_f31 kk x1 x2 x3 x4 x5 x6) (fun _ => True) := by
  have fin : ∀ b, Tot (f31_j1 kk b) (fun _ => True) := fun b => Tot.ret trivial
  unfold m_f31
  refine Tot.bnd (in67 ..) fun _ _ => Tot.cond (fun _ => ?_) fun _ => fin _
  refine Tot.bnd (in67 ..) fun _ _ => Tot.cond (fun _ => ?_) fun _ => fin _
  refine Tot.bnd (in67 ..) fun _ _ => Tot.cond (fun _ => ?_) fun _ => fin _
  refine Tot.bnd (in67 ..) fun _ _ => Tot.cond (fun _ => ?_) fun _ => fin _
  refine Tot.bnd (in67 ..) fun _ _ => Tot.cond (fun _ => ?_) fun _ => fin _
  refine Tot.cond (fun _ => ?_) fun _ => fin _
  exact Tot.bnd (in67 ..) fun _ _ => fin _

abbrev CB := List (Int × Int × Int × Int × Int × Int)
abbrev CC := List (Int × CB)
/-- The courses, however they come out. -/
theorem t13 (kk : Nat) (hk : kk = 2000) (x116 x17 x18 x19 x20 x115 x13 x9 x14 v0 : Int) :
    Tot (iter (fun y : (Int × Int × Int × CC) => f8_l13 kk y.1 y.2.1 y.2.2.1 y.2.2.2 x116 x17 x18 x19 x20 x115 x13 x9 x14) kk (0, v0, 0, [])) (fun _ => True) := by
  refine Tot.iter (fun s => 0 ≤ s.1 ∧ s.1 ≤ 96 ∧ s.2.2.2.length ≤ 24) (fun s => 25 - s.2.2.2.length) ?_ kk _ ⟨by show (0 : Int) ≤ 0; omega, by show (0 : Int) ≤ 96; omega, by simp⟩ (by simp; omega)
  rintro ⟨many, v, u, cs⟩ ⟨h0, h1, h2⟩
  show Tot (f8_l13 kk many v u cs x116 x17 x18 x19 x20 x115 x13 x9 x14) _
  simp only at h0 h1 h2
  unfold f8_l13
  refine Tot.cond (fun _ => ?_) (fun _ => Tot.ret trivial)
  have fin : ∀ u0, Tot (f8_j14 kk x17 x18 x19 x20 x115 cs v x13 x9 x14 many u0) (OnIter (fun _ => True) (fun s : (Int × Int × Int × CC) => 0 ≤ s.1 ∧ s.1 ≤ 96 ∧ s.2.2.2.length ≤ 24) (fun s => 25 - s.2.2.2.length) (25 - cs.length)) := fun u0 => by
    unfold f8_j14
    refine Tot.bnd (Q := OnSum (fun _ => True) (fun r => r.1 = cs ∧ 0 ≤ r.2.2.2.1 ∧ r.2.2.2.1 ≤ 96)) (Tot.iter (fun s => 0 ≤ s.1 ∧ s.1 ≤ 96 ∧ s.2.2.length ≤ s.1.toNat) (fun s => 97 - s.1.toNat) ?_ kk _ ⟨h0, h1, by simp⟩ (by show 97 - many.toNat < kk; omega)) ?_
    · rintro ⟨m, u, bs⟩ ⟨g0, g1, g2⟩
      show Tot (f8_l15 kk m u bs x17 x18 x19 x20 x115 cs v x13 x9 x14) _
      simp only at g0 g1 g2
      unfold f8_l15
      have e1 : w64 (m + 1) = m + 1 := w64_id (by omega) (by omega)
      rw [e1]
      refine Tot.grd (by simp only [List.length_append, List.length_singleton]; omega) ?_
      refine Tot.cond (fun _ => Tot.ret trivial) (fun h => ?_)
      simp only [decide_eq_false_iff_not, Int.not_lt] at h
      refine Tot.cond (fun _ => Tot.ret ⟨rfl, by show 0 ≤ m + 1; omega, by show m + 1 ≤ 96; omega⟩) (fun _ => Tot.ret ?_)
      refine ⟨⟨by show 0 ≤ m + 1; omega, by show m + 1 ≤ 96; omega, ?_⟩, by show 97 - (m + 1).toNat < 97 - m.toNat; omega⟩
      simp only [List.length_append, List.length_singleton]; omega
    · intro o ho
      refine Tot.elim ho (fun _ _ => Tot.ret trivial) ?_
      rintro ⟨cs2, v2, bs, m, y1, y2, y3, y4⟩ ⟨he, g0, g1⟩
      simp only at he g0 g1
      subst he
      show Tot (f8_j16 kk cs2 v2 bs m y1 y2 y3 y4) _
      unfold f8_j16
      refine Tot.grd (by simp only [List.length_append, List.length_singleton]; omega) ?_
      refine Tot.cond (fun _ => Tot.ret trivial) (fun h => Tot.ret ?_)
      simp only [decide_eq_false_iff_not, Int.not_lt, List.length_append, List.length_singleton] at h
      refine ⟨⟨g0, g1, ?_⟩, ?_⟩
      · show (cs2 ++ [(v2, bs)]).length ≤ 24
        simp only [List.length_append, List.length_singleton]; omega
      · show 25 - (cs2 ++ [(v2, bs)]).length < 25 - cs2.length
        simp only [List.length_append, List.length_singleton]; omega
  exact Tot.cond (fun _ => fin _) (fun _ => fin _)
theorem t8 (kk : Nat) (hk : kk = 2000) (xs : List (Int × Int)) (hs : HB) (x9 x10 x11 x12 x13 x14 x15 x16 x17 x18 x19 x20 : Int) :
    Tot (m_f8 kk xs hs x9 x10 x11 x12 x13 x14 x15 x16 x17 x18 x19 x20) (fun r => r.2 = 0 → Fine xs ∧ xs.length ≤ 12) := by
  unfold m_f8
  have key : Tot (m_f29 kk xs hs) (fun e => e = 0 → Fine xs ∧ xs.length ≤ 12) := by
    obtain ⟨e, h1, h2⟩ := t29 kk xs hs hk
    refine ⟨e, h1, fun he => ⟨h2 he, ?_⟩⟩
    unfold m_f29 at h1
    by_cases hl : (xs.length : Int) > 12
    · rw [decide_eq_true hl, cond_true] at h1
      cases h1; cases he
    · omega
  have lay : ∀ e : Int, (e = 0 → (1 ≤ x9 ∧ x9 ≤ 96) ∧ Fine xs ∧ xs.length ≤ 12) → Tot (f8_j1 kk e x17 x18 x19 x20 x9 x13 x12 x11 x10 xs x14 x15) (fun r => r.2 = 0 → Fine xs ∧ xs.length ≤ 12) := by
    intro e he
    have lay3 : ∀ e : Int, (e = 0 → (1 ≤ x9 ∧ x9 ≤ 96) ∧ Fine xs ∧ xs.length ≤ 12) → Tot (f8_j3 kk e x9 x13 x18 x12 x11 x10 xs x17 x19 x20 x14 x15) (fun r => r.2 = 0 → Fine xs ∧ xs.length ≤ 12) := by
      intro e he
      unfold f8_j3
      refine Tot.cond (fun h => Tot.ret fun h0 => absurd h0 (by simpa using h)) (fun h => ?_)
      have h0 := he (by simpa using h)
      refine Tot.grd (by omega) ?_
      have lay4 : ∀ b, Tot (f8_j4 kk b x11 x9 x13 x18 x10 xs x17 x19 x20 x14) (fun r => r.2 = 0 → Fine xs ∧ xs.length ≤ 12) := fun b => by
        unfold f8_j4
        refine Tot.cond (fun _ => Tot.ret (by simp)) (fun _ => ?_)
        refine Tot.cond (fun _ => Tot.ret (by simp)) (fun _ => ?_)
        refine Tot.bnd (Q := fun _ => True) (Tot.iter (fun s => 0 ≤ s.1 ∧ s.1 ≤ (xs.length : Int)) (fun s => ((xs.length : Int) - s.1).toNat) ?_ kk _ ⟨by show (0 : Int) ≤ 0; omega, by show (0 : Int) ≤ _; omega⟩ (by show ((xs.length : Int) - 0).toNat < kk; omega)) ?_
        · rintro ⟨i, u, v⟩ ⟨g0, g1⟩
          show Tot (f8_l5 kk i u v xs x17 x18 x19 x20 x13 x9 x14 x11) _
          simp only at g0 g1
          unfold f8_l5
          refine Tot.cond (fun h => ?_) (fun _ => Tot.ret trivial)
          simp only [decide_eq_true_eq] at h
          refine Tot.bnd (Tot.idx g0 h) fun p _ => Tot.ret ?_
          have e1 : w64 (i + 1) = i + 1 := w64_id (by omega) (by omega)
          rw [e1]
          exact ⟨⟨by show 0 ≤ i + 1; omega, by show i + 1 ≤ _; omega⟩, by show ((xs.length : Int) - (i + 1)).toNat < ((xs.length : Int) - i).toNat; omega⟩
        · rintro ⟨y1, y2, y3, y4, y5, y6, y7, y8, y9, y10⟩ _
          show Tot (f8_j6 kk y1 y2 y3 y4 y5 y6 y7 y8 y9 y10) _
          unfold f8_j6
          refine Tot.bnd (t13 kk hk ..) fun o _ => ?_
          cases o with
          | inl r => exact Tot.ret fun _ => h0.2
          | inr r => unfold f8_j17; exact Tot.ret fun _ => h0.2
      refine Tot.cond (fun _ => lay4 _) (fun _ => ?_)
      exact Tot.cond (fun _ => lay4 _) (fun _ => lay4 _)
    have lay2 : ∀ b, Tot (f8_j2 kk b x9 x13 x18 x12 x11 x10 xs x17 x19 x20 x14 x15 e) (fun r => r.2 = 0 → Fine xs ∧ xs.length ≤ 12) := fun b => by
      unfold f8_j2
      exact Tot.cond (fun _ => lay3 1 (by simp)) (fun _ => lay3 e he)
    unfold f8_j1
    refine Tot.cond (fun _ => ?_) (fun _ => lay2 _)
    exact Tot.bnd (t31 ..) fun _ _ => lay2 _
  refine Tot.bnd key fun e he => ?_
  refine Tot.cond (fun h => ?_) (fun h => lay e fun h0 => absurd h0 (by simpa using h))
  have h0 := he (by simpa using h)
  exact Tot.bnd (t30 ..) fun e2 he2 => lay e2 fun h2 => ⟨he2 h2, h0⟩
end Go.Proofs.Ytmkjcahdjphimaa
