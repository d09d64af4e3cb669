/- RidgeSways: whatever the area, the laying answers. -/
import Derived.Test.YtmkjcahdjphimaaL0
import Derived.Test.YtmkjcahdjphimaaRSM
namespace Go.Proofs.Ytmkjcahdjphimaa
open Go Go.Eng

theorem in67 (kk : Nat) (a lo hi : Int) : Tot (m_f67 kk a lo hi) (fun b => b = true ↔ lo ≤ a ∧ a ≤ hi) := by
  unfold m_f67 f67_j1
  refine Tot.cond (fun h => Tot.ret ?_) (fun h => Tot.ret ?_)
  · simp at h ⊢; exact fun _ => h
  · simp at h ⊢; omega
theorem in42 (kk : Nat) (a lo hi : Int) : Tot (m_f42 kk a lo hi) (fun b => b = true ↔ lo ≤ a ∧ a ≤ hi) := by
  unfold m_f42 f42_j1
  refine Tot.cond (fun h => Tot.ret ?_) (fun h => Tot.ret ?_)
  · simp at h ⊢; exact fun _ => h
  · simp at h ⊢; omega
theorem t70 (kk : Nat) (a b c d e f : Int) : Tot (m_f70 kk a b c d e f) (fun _ => True) := ⟨_, rfl, trivial⟩
theorem t69r0 (kk : Nat) (a b c d e f l : Int) (x : Bool) : Tot (m_f69r0 kk a b c d e f l x) (fun r => (r.1 = true → r.2.1 = 0) ∧ (r.1 = false → r.2.1 = 1)) := by
  unfold m_f69r0
  refine Tot.bnd (t70 ..) fun v _ => ?_
  refine Tot.cond (fun _ => Tot.ret ?_) (fun _ => Tot.ret ?_) <;> simp
theorem t156 (kk : Nat) (xs : List (Int × Int)) (a b l : Int) (x : Bool) (hl : xs.length < kk) (hk : kk ≤ 1000000) : Tot (m_f156 kk 0 xs a b l x) (fun r => r.1 = 0 ∨ r.1 = 1) := by
  unfold m_f156
  refine Tot.bnd (Q := OnSum (fun r => r.1 = 0 ∨ r.1 = 1) (fun r => r.1 = 0 ∨ r.1 = 1)) (Tot.iter (fun s => 0 ≤ s.1 ∧ s.1 ≤ (xs.length : Int) ∧ s.2.1 = 0) (fun s => ((xs.length : Int) - s.1).toNat) ?_ kk _ ?_ ?_) ?_
  · rintro ⟨i, j, y⟩ ⟨h0, h1, rfl⟩
    show Tot (f156_l1 kk i 0 y xs a b l) _
    unfold f156_l1
    refine Tot.cond (fun h => ?_) (fun h => Tot.ret (.inl rfl))
    simp only [decide_eq_true_eq] at h
    refine Tot.bnd (Tot.idx h0 h) fun p _ => ?_
    refine Tot.grd (by omega) ?_
    have e1 : w64 (i + 1) = i + 1 := w64_id (by omega) (by omega)
    rw [e1]
    refine Tot.bnd (Tot.idx (Int.tmod_nonneg _ (by omega)) (Int.tmod_lt_of_pos _ (by omega))) fun q _ => ?_
    refine Tot.grd rfl ?_
    refine Tot.bnd (t69r0 ..) fun r hr => ?_
    refine Tot.cond (fun h2 => Tot.ret ?_) (fun h2 => Tot.ret ?_)
    · exact .inr (hr.2 (by simpa using h2))
    · exact ⟨⟨by show 0 ≤ i + 1; omega, by show i + 1 ≤ _; omega, hr.1 (by simpa using h2)⟩, by show (xs.length - (i + 1) : Int).toNat < (xs.length - i : Int).toNat; omega⟩
  · exact ⟨Int.le_refl _, by show (0 : Int) ≤ _; omega, rfl⟩
  · show ((xs.length : Int) - 0).toNat < kk; omega
  · intro o ho
    cases o with
    | inl r => exact Tot.ret ho
    | inr r => unfold f156_j2; exact Tot.ret ho
theorem t69 (kk : Nat) (xs : List (Int × Int)) (a b l : Int) (hl : xs.length < kk) (hk : kk ≤ 1000000) : Tot (m_f69 kk xs a b l) (fun _ => True) := by
  unfold m_f69 m_f114
  refine Tot.bnd (Q := fun y => y = xs) (Tot.ret rfl) fun y hy => ?_
  subst hy
  refine Tot.bnd (t156 kk y a b l false hl hk) fun r hr => ?_
  refine Tot.cond (fun _ => Tot.ret trivial) (fun h => ?_)
  refine Tot.cond (fun _ => Tot.ret trivial) (fun h2 => ?_)
  simp at h h2; omega
theorem t113 (kk : Nat) (xs : List (Int × Int)) (a b : Int) (hl : xs.length < kk) (hk : kk ≤ 1000000) : Tot (m_f113 kk xs a b) (fun _ => True) := by
  unfold m_f113
  refine Tot.bnd (Q := fun _ => True) (Tot.iter (fun s => 0 ≤ s ∧ s ≤ (xs.length : Int)) (fun s => ((xs.length : Int) - s).toNat) ?_ kk _ ?_ ?_) ?_
  · rintro i ⟨h0, h1⟩
    show Tot (f113_l1 kk i xs a b) _
    unfold f113_l1
    refine Tot.cond (fun h => ?_) (fun h => Tot.ret trivial)
    simp only [decide_eq_true_eq] at h
    refine Tot.bnd (Tot.idx h0 h) fun p _ => ?_
    refine Tot.cond (fun _ => Tot.ret trivial) (fun _ => Tot.ret ?_)
    have e1 : w64 (i + 1) = i + 1 := w64_id (by omega) (by omega)
    rw [e1]
    exact ⟨⟨by omega, by omega⟩, by first | omega | (dsimp only; omega)⟩
  · exact ⟨Int.le_refl _, by omega⟩
  · show ((xs.length : Int) - 0).toNat < kk; omega
  · intro o _
    cases o with
    | inl r => exact Tot.ret trivial
    | inr r => unfold f113_j2; exact Tot.ret trivial
theorem t68 (kk : Nat) (xs : List (Int × Int)) (a b : Int) (hl : xs.length < kk) (hk : kk ≤ 1000000) : Tot (m_f68 kk xs a b) (fun _ => True) := by
  unfold m_f68
  exact Tot.bnd (t113 kk xs a b hl hk) fun _ _ => Tot.ret trivial

/-- An outline whose corners lie where they may. -/
def Fine (xs : List (Int × Int)) : Prop := ∀ p ∈ xs, (0 ≤ p.1 ∧ p.1 ≤ 400) ∧ 0 ≤ p.2 ∧ p.2 ≤ 400

abbrev HB := List ((Int × Int) × (Int × Int))
theorem t46 (kk : Nat) (xs : HB) (n : Int) (y : (Int × Int) × (Int × Int)) (s0 : Int) (hn : 0 ≤ n) (hl : xs.length < kk) (hk : kk ≤ 1000000) (h0 : s0 = 0) :
    Tot (iter (fun y' : Int => f29_l46 kk y' n xs y) kk s0) (OnSum (fun _ => True) (fun m => m = n)) := by
  have hlen : ((List.take n.toNat xs).length : Int) ≤ xs.length := by simp only [List.length_take]; omega
  subst h0
  refine Tot.iter (fun s => 0 ≤ s ∧ s ≤ ((List.take n.toNat xs).length : Int)) (fun s => (((List.take n.toNat xs).length : Int) - s).toNat) ?_ kk _ ⟨Int.le_refl _, by omega⟩ (by omega)
  rintro i ⟨h0, h1⟩
  show Tot (f29_l46 kk i n xs y) _
  unfold f29_l46
  refine Tot.cond (fun h => ?_) (fun h => Tot.ret rfl)
  simp only [decide_eq_true_eq] at h
  refine Tot.bnd (Tot.idx h0 h) fun p _ => ?_
  have e1 : w64 (i + 1) = i + 1 := w64_id (by omega) (by omega)
  have fin : ∀ b, Tot (f29_j47 kk b i) (OnIter (OnSum (fun _ => True) (fun m => m = n)) (fun s => 0 ≤ s ∧ s ≤ ((List.take n.toNat xs).length : Int)) (fun s => (((List.take n.toNat xs).length : Int) - s).toNat) (((List.take n.toNat xs).length : Int) - i).toNat) := fun b => by
    unfold f29_j47
    refine Tot.cond (fun _ => Tot.ret trivial) (fun _ => Tot.ret ?_)
    rw [e1]
    exact ⟨⟨by omega, by omega⟩, by first | omega | (dsimp only; omega)⟩
  exact Tot.cond (fun _ => fin _) (fun _ => fin _)
theorem t41 (kk : Nat) (xs : List (Int × Int)) (hs : HB) (n : Int) (y : (Int × Int) × (Int × Int)) (s0 : Int) (hl : xs.length < kk) (h4 : 4 < kk) (hk : kk ≤ 1000000) (h0 : s0 = 0) :
    Tot (iter (fun y' : Int => f29_l41 kk y' y xs n hs) kk s0) (OnSum (fun _ => True) (fun r => r = (n, hs, y))) := by
  subst h0
  refine Tot.iter (fun s => 0 ≤ s ∧ s ≤ 4) (fun s => (4 - s).toNat) ?_ kk _ ⟨by omega, by omega⟩ (by omega)
  rintro i ⟨h0, h1⟩
  show Tot (f29_l41 kk i y xs n hs) _
  unfold f29_l41
  refine Tot.cond (fun h => ?_) (fun h => Tot.ret rfl)
  simp only [decide_eq_true_eq] at h
  refine Tot.bnd (Tot.idx h0 (by simpa using h)) fun p _ => ?_
  have e1 : w64 (i + 1) = i + 1 := w64_id (by omega) (by omega)
  have fin : ∀ b, Tot (f29_j42 kk b i) (OnIter (OnSum (fun _ => True) (fun r => r = (n, hs, y))) (fun s => 0 ≤ s ∧ s ≤ 4) (fun s => (4 - s).toNat) (4 - i).toNat) := fun b => by
    unfold f29_j42
    refine Tot.cond (fun _ => Tot.ret trivial) (fun _ => Tot.ret ?_)
    rw [e1]
    exact ⟨⟨by omega, by omega⟩, by first | omega | (dsimp only; omega)⟩
  refine Tot.bnd (in67 ..) fun b _ => Tot.cond (fun _ => fin _) fun _ => ?_
  refine Tot.bnd (in67 ..) fun b _ => Tot.cond (fun _ => fin _) fun _ => ?_
  exact Tot.bnd (t69 kk xs _ _ _ hl hk) fun b _ => fin _
theorem t37 (kk : Nat) (xs : List (Int × Int)) (hs : HB) (hl : xs.length < kk) (h2 : hs.length < kk) (h4 : 4 < kk) (hk : kk ≤ 1000000) :
    Tot (iter (fun y : Int => f29_l37 kk y hs xs) kk 0) (fun _ => True) := by
  refine Tot.iter (fun s => 0 ≤ s ∧ s ≤ (hs.length : Int)) (fun s => ((hs.length : Int) - s).toNat) ?_ kk _ ⟨by omega, by omega⟩ (by omega)
  rintro i ⟨h0, h1⟩
  show Tot (f29_l37 kk i hs xs) _
  unfold f29_l37
  refine Tot.cond (fun h => ?_) (fun h => Tot.ret trivial)
  simp only [decide_eq_true_eq] at h
  refine Tot.bnd (Tot.idx h0 h) fun p _ => ?_
  have e1 : w64 (i + 1) = i + 1 := w64_id (by omega) (by omega)
  have fin : ∀ b, Tot (f29_j38 kk b p xs i hs) (OnIter (fun _ => True) (fun s => 0 ≤ s ∧ s ≤ (hs.length : Int)) (fun s => ((hs.length : Int) - s).toNat) ((hs.length : Int) - i).toNat) := fun b => by
    unfold f29_j38
    refine Tot.cond (fun _ => Tot.ret trivial) (fun _ => ?_)
    refine Tot.bnd (t41 kk xs hs i p 0 hl h4 hk rfl) fun o ho => ?_
    refine Tot.elim ho (fun _ _ => Tot.ret trivial) (fun r hr => ?_)
    subst hr
    unfold f29_j43
    refine Tot.grd ⟨by show (0 : Int) ≤ i; omega, by show i ≤ _; omega⟩ ?_
    refine Tot.bnd (t46 kk hs i p 0 h0 h2 hk rfl) fun o ho => ?_
    refine Tot.elim ho (fun _ _ => Tot.ret trivial) (fun r hr => ?_)
    subst hr
    unfold f29_j48
    refine Tot.ret ?_
    rw [e1]
    exact ⟨⟨by omega, by omega⟩, by first | omega | (dsimp only; omega)⟩
  exact Tot.cond (fun _ => fin _) (fun _ => fin _)
theorem t29 (kk : Nat) (xs : List (Int × Int)) (hs : HB) (hk : kk = 2000) : Tot (m_f29 kk xs hs) (fun e => e = 0 → Fine xs) := by
  unfold m_f29
  refine Tot.cond (fun _ => Tot.ret (by simp)) (fun h12 => ?_)
  refine Tot.cond (fun _ => Tot.ret (by simp)) (fun h3 => ?_)
  simp only [decide_eq_false_iff_not, Int.not_lt] at h12 h3
  have hl : xs.length < kk := by omega
  refine Tot.bnd (Q := OnSum (fun e => e ≠ 0) (fun r => r = (xs, hs) ∧ Fine xs)) (Tot.iter (fun s => (0 ≤ s ∧ s ≤ (xs.length : Int)) ∧ Fine (xs.take s.toNat)) (fun s => ((xs.length : Int) - s).toNat) ?_ kk _ ⟨⟨by omega, by omega⟩, fun p hp => by simp at hp⟩ (by omega)) ?_
  · rintro i ⟨⟨h0, h1⟩, hf⟩
    show Tot (f29_l3 kk i xs hs) _
    unfold f29_l3
    refine Tot.cond (fun h => ?_) (fun h => Tot.ret ?_)
    · simp only [decide_eq_true_eq] at h
      refine Tot.bnd (Tot.idx h0 h) fun p hp => ?_
      have e1 : w64 (i + 1) = i + 1 := w64_id (by omega) (by omega)
      have bad : ∀ b, b = true → Tot (f29_j4 kk b i) (OnIter (OnSum (fun e => e ≠ 0) (fun r => r = (xs, hs) ∧ Fine xs)) (fun s => (0 ≤ s ∧ s ≤ (xs.length : Int)) ∧ Fine (xs.take s.toNat)) (fun s => ((xs.length : Int) - s).toNat) ((xs.length : Int) - i).toNat) := fun b hb => by
        subst hb; unfold f29_j4; exact Tot.ret (show (1 : Int) ≠ 0 by decide)
      refine Tot.bnd (in67 ..) fun b hb => Tot.cond (fun _ => bad _ rfl) fun hn => ?_
      refine Tot.bnd (in67 ..) fun b2 hb2 => ?_
      unfold f29_j4
      refine Tot.cond (fun _ => Tot.ret (show (1 : Int) ≠ 0 by decide)) (fun hn2 => Tot.ret ?_)
      rw [e1]
      refine ⟨⟨⟨by omega, by omega⟩, ?_⟩, by dsimp only; omega⟩
      have e2 : (i + 1).toNat = i.toNat + 1 := by omega
      rw [e2, List.take_add_one, hp.1]
      intro q hq
      rcases List.mem_append.1 hq with hq | hq
      · exact hf q hq
      · simp at hq; subst hq
        exact ⟨hb.1 (by simpa using hn), hb2.1 (by simpa using hn2)⟩
    · simp only [decide_eq_false_iff_not, Int.not_lt] at h
      refine ⟨rfl, ?_⟩
      rw [List.take_of_length_le (by omega)] at hf
      exact hf
  · intro o ho
    refine Tot.elim ho (fun e he => Tot.ret (fun h0 => absurd h0 he)) ?_
    rintro _ ⟨rfl, hfine⟩
    show Tot (f29_j5 kk xs hs) _
    unfold f29_j5
    refine Tot.bnd (Q := OnSum (fun e => e ≠ 0) (fun r => r = (xs, hs))) (Tot.iter (fun s => 0 ≤ s ∧ s ≤ (xs.length : Int)) (fun s => ((xs.length : Int) - s).toNat) ?_ kk _ ⟨by omega, by omega⟩ (by omega)) ?_
    · rintro i ⟨h0, h1⟩
      show Tot (f29_l6 kk i xs hs) _
      unfold f29_l6
      refine Tot.cond (fun h => ?_) (fun h => Tot.ret rfl)
      simp only [decide_eq_true_eq] at h
      refine Tot.bnd (Tot.idx h0 h) fun p hp => ?_
      have e1 : w64 (i + 1) = i + 1 := w64_id (by omega) (by omega)
      refine Tot.grd ⟨h0, by omega⟩ ?_
      refine Tot.bnd (t68 kk _ _ _ (by simp only [List.length_take]; omega) (by omega)) fun b _ => ?_
      refine Tot.cond (fun _ => Tot.ret (show (6 : Int) ≠ 0 by decide)) (fun _ => Tot.ret ?_)
      rw [e1]
      exact ⟨⟨by omega, by omega⟩, by first | omega | (dsimp only; omega)⟩
    · intro o ho
      refine Tot.elim ho (fun e he => Tot.ret (fun h0 => absurd h0 he)) ?_
      rintro _ rfl
      show Tot (f29_j7 kk xs hs) _
      unfold f29_j7
      refine Tot.bnd (Q := OnSum (fun e => e ≠ 0) (fun r => r.2 = (hs, xs))) (Tot.iter (fun s => 0 ≤ s.2 ∧ s.2 ≤ (xs.length : Int)) (fun s => ((xs.length : Int) - s.2).toNat) ?_ kk _ ⟨by show (0 : Int) ≤ 0; omega, by show (0 : Int) ≤ _; omega⟩ (by show ((xs.length : Int) - 0).toNat < kk; omega)) ?_
      · rintro ⟨b, i⟩ ⟨h0, h1⟩
        show Tot (f29_l11 kk b i xs hs) _
        simp only at h0 h1
        unfold f29_l11
        refine Tot.cond (fun h => ?_) (fun h => Tot.ret rfl)
        simp only [decide_eq_true_eq] at h
        refine Tot.bnd (Tot.idx h0 h) fun p hp => ?_
        have e1 : w64 (i + 1) = i + 1 := w64_id (by omega) (by omega)
        have e2 : w64 (i + 2) = i + 2 := w64_id (by omega) (by omega)
        refine Tot.grd (by omega) ?_
        rw [e1, e2]
        refine Tot.bnd (Tot.idx (Int.tmod_nonneg _ (by omega)) (Int.tmod_lt_of_pos _ (by omega))) fun q hq => ?_
        refine Tot.grd (by omega) ?_
        refine Tot.bnd (Tot.idx (Int.tmod_nonneg _ (by omega)) (Int.tmod_lt_of_pos _ (by omega))) fun r hr => ?_
        have fin : ∀ x, Tot (f29_j12 kk x b p q r i) (OnIter (OnSum (fun e => e ≠ 0) (fun r => r.2 = (hs, xs))) (fun s => 0 ≤ s.2 ∧ s.2 ≤ (xs.length : Int)) (fun s => ((xs.length : Int) - s.2).toNat) ((xs.length : Int) - i).toNat) := fun x => by
          have fin2 : ∀ x, Tot (f29_j13 kk x i) (OnIter (OnSum (fun e => e ≠ 0) (fun r => r.2 = (hs, xs))) (fun s => 0 ≤ s.2 ∧ s.2 ≤ (xs.length : Int)) (fun s => ((xs.length : Int) - s.2).toNat) ((xs.length : Int) - i).toNat) := fun x => by
            unfold f29_j13
            refine Tot.ret ?_
            rw [e1]
            exact ⟨⟨by show 0 ≤ i + 1; omega, by show i + 1 ≤ _; omega⟩, by show ((xs.length : Int) - (i + 1)).toNat < _; omega⟩
          unfold f29_j12
          refine Tot.cond (fun _ => Tot.ret (show (9 : Int) ≠ 0 by decide)) (fun _ => ?_)
          refine Tot.cond (fun _ => ?_) (fun _ => fin2 _)
          exact Tot.bnd (t70 ..) fun _ _ => fin2 _
        refine Tot.bnd (t69 kk xs _ _ _ hl (by omega)) fun y _ => ?_
        refine Tot.cond (fun _ => fin _) (fun _ => ?_)
        refine Tot.bnd (t70 ..) fun _ _ => ?_
        exact Tot.cond (fun _ => fin _) (fun _ => fin _)
      · intro o ho
        refine Tot.elim ho (fun e he => Tot.ret (fun h0 => absurd h0 he)) ?_
        rintro ⟨b, _, _⟩ hr
        cases hr
        show Tot (f29_j14 kk b hs xs) _
        unfold f29_j14
        refine Tot.cond (fun _ => Tot.ret (by simp)) (fun _ => ?_)
        refine Tot.cond (fun _ => Tot.ret (by simp)) (fun h6 => ?_)
        simp only [decide_eq_false_iff_not, Int.not_lt] at h6
        refine Tot.bnd (t37 kk xs hs hl (by omega) (by omega) (by omega)) fun o _ => ?_
        cases o with
        | inl e => exact Tot.ret (fun _ => hfine)
        | inr _ => unfold f29_j49; exact Tot.ret (fun _ => hfine)
end Go.Proofs.Ytmkjcahdjphimaa
