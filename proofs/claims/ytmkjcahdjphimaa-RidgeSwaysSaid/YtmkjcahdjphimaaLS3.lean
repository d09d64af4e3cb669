/- RidgeSways: rods of one kind: what is checked, how many fit, the bound. -/
import Derived.Test.YtmkjcahdjphimaaLS2
namespace Go.Proofs.Ytmkjcahdjphimaa
open Go Go.Eng

theorem iter_r {α σ : Type} {step : σ → Option (α ⊕ σ)} {n : Nat} {s s' : σ} (h : step s = some (.inr s')) : iter step (n + 1) s = iter step n s' := by
  show (match step s with | some (.inl a) => some a | some (.inr s') => iter step n s' | none => none) = _
  rw [h]
theorem iter_l {α σ : Type} {step : σ → Option (α ⊕ σ)} {n : Nat} {s : σ} {a : α} (h : step s = some (.inl a)) : iter step (n + 1) s = some a := by
  show (match step s with | some (.inl a) => some a | some (.inr s') => iter step n s' | none => none) = _
  rw [h]

/-- Counts of one kind of cut. -/
def A (m : Int) : List Int := [m, 0, 0, 0, 0, 0, 0, 0]
theorem A_set (m v : Int) : setA 8 (A m) 0 v = A v := rfl
theorem A_zero : List.replicate 8 (0 : Int) = A 0 := rfl
theorem A_get (m : Int) : List.getD (A m) (Int.toNat 0) 0 = m := rfl
theorem A_len (m : Int) : (A m).length = 8 := rfl

structure Rod (S k L n h : Int) : Prop where
  l1 : 1 ≤ L
  l2 : L ≤ S
  s : S ≤ 100000
  k0 : 0 ≤ k
  k1 : k ≤ 100000
  n0 : 0 ≤ n
  n1 : n ≤ 9
  h1 : 1 ≤ h
  hl : h * (L + k) ≤ S + k
  hh : S + k < (h + 1) * (L + k)

section
variable {S k L n h : Int} (R : Rod S k L n h)

theorem t72 (kk : Nat) (hk : 2 ≤ kk) (R : Rod S k L n h) : Tot (m_f72 kk [(L, n)] S k [(L, n)]) (fun b => b = false) := by
  obtain ⟨j, rfl⟩ : ∃ j, kk = j + 2 := ⟨kk - 2, by omega⟩
  have := R.l2
  unfold m_f72 m_f115
  have s1 : f115_l1 (j + 2) 0 [(L, n)] S k [(L, n)] = some (.inr (w64 (0 + 1))) := by
    unfold f115_l1 m_f73
    have : decide (L > S) = false := by simp; omega
    simp [idx, this]
  have s2 : f115_l1 (j + 2) (w64 (0 + 1)) [(L, n)] S k [(L, n)] = some (.inl (.inr ())) := by
    unfold f115_l1
    have : w64 1 = 1 := by decide
    simp [this]
  have e : iter (fun y : Int => f115_l1 (j + 2) y [(L, n)] S k [(L, n)]) (j + 2) 0 = some (.inr ()) := (iter_r s1).trans (iter_l s2)
  rw [e]
  exact ⟨false, rfl, rfl⟩
theorem t32 (kk : Nat) (hk : 2 ≤ kk) (R : Rod S k L n h) : Tot (m_f32 kk S k [(L, n)]) (fun e => e = 0) := by
  obtain ⟨j, hj⟩ : ∃ j, kk = j + 2 := ⟨kk - 2, by omega⟩
  have h1 := R.l1; have h2 := R.l2; have h3 := R.s; have h4 := R.k0; have h5 := R.k1; have h6 := R.n0; have h7 := R.n1
  unfold m_f32
  refine Tot.bnd (in42 ..) fun b hb => ?_
  have : b = true := hb.2 ⟨by omega, by omega⟩
  subst this
  refine Tot.cond (by simp) fun _ => ?_
  refine Tot.bnd (in42 ..) fun b hb => ?_
  have : b = true := hb.2 ⟨by omega, by omega⟩
  subst this
  unfold f32_j1
  refine Tot.cond (by simp) fun _ => ?_
  refine Tot.cond (by simp) fun _ => ?_
  refine Tot.bnd (Q := OnSum (fun _ => False) (fun r => r = (n, [(L, n)], S, k))) (Tot.iter (fun s => (s = (0, 0) ∨ s = (n, 1))) (fun s => (1 - s.2).toNat) ?_ kk _ (.inl rfl) (by show (1 - 0 : Int).toNat < kk; omega)) ?_
  · rintro s (rfl | rfl)
    · show Tot (f32_l4 kk 0 0 [(L, n)] S k) _
      unfold f32_l4
      refine Tot.cond (fun _ => ?_) (by simp)
      refine Tot.bnd (Q := fun p => p = (L, n)) ⟨_, rfl, rfl⟩ fun p hp => ?_
      subst hp
      refine Tot.bnd (in42 ..) fun b hb => ?_
      have : b = true := hb.2 ⟨by show 1 ≤ L; omega, by show L ≤ 100000; omega⟩
      subst this
      refine Tot.cond (by simp) fun _ => ?_
      refine Tot.bnd (in42 ..) fun b hb => ?_
      have : b = true := hb.2 ⟨by show 0 ≤ n; omega, by show n ≤ 12; omega⟩
      subst this
      unfold f32_j5
      refine Tot.cond (by simp) fun _ => Tot.ret ?_
      have e1 : w64 (0 + n) = n := by rw [Int.zero_add]; exact w64_id (by omega) (by omega)
      have e2 : w64 (0 + 1) = 1 := by decide
      show (_ = (0, 0) ∨ _ = (n, (1 : Int))) ∧ _
      refine ⟨.inr (by rw [e1, e2]), ?_⟩
      show (1 - w64 (0 + 1)).toNat < (1 - 0 : Int).toNat
      rw [e2]; decide
    · show Tot (f32_l4 kk n 1 [(L, n)] S k) _
      unfold f32_l4
      refine Tot.cond (by simp) fun _ => Tot.ret ?_
      rfl
  · intro o ho
    refine Tot.elim ho (fun _ hf => hf.elim) ?_
    rintro _ rfl
    show Tot (f32_j6 kk n [(L, n)] S k) _
    unfold f32_j6
    refine Tot.cond (fun h => by simp at h; omega) fun _ => ?_
    refine Tot.bnd (t72 kk hk R) fun b hb => ?_
    subst hb
    exact ⟨0, rfl, rfl⟩
theorem t38 (kk : Nat) (hk : 2 ≤ kk) (S k L n : Int) : m_f38 kk S k [(L, n)] = some (A n) := by
  obtain ⟨j, rfl⟩ : ∃ j, kk = j + 2 := ⟨kk - 2, by omega⟩
  unfold m_f38
  have s1 : f38_l1 (j + 2) 0 (List.replicate 8 0) [(L, n)] = some (.inr (w64 (0 + 1), A n)) := rfl
  have s2 : f38_l1 (j + 2) (w64 (0 + 1)) (A n) [(L, n)] = some (.inl (A n)) := by
    have : w64 1 = 1 := by decide
    unfold f38_l1
    simp [this]
  have e : iter (fun y : (Int × (List Int)) => f38_l1 (j + 2) y.1 y.2 [(L, n)]) (j + 2) (0, (List.replicate 8 (0 : Int))) = some (A n) := (iter_r s1).trans (iter_l s2)
  rw [e]; rfl
theorem t77 (kk : Nat) (hk : 2 ≤ kk) (m : Int) (h0 : 0 ≤ m) (h1 : m ≤ 1000) : m_f77 kk (A m) [1] = some m := by
  obtain ⟨j, rfl⟩ : ∃ j, kk = j + 2 := ⟨kk - 2, by omega⟩
  unfold m_f77
  have e1 : w64 (1 * m) = m := by rw [Int.one_mul]; exact w64_id (by omega) (by omega)
  have e2 : w64 (0 + m) = m := by rw [Int.zero_add]; exact w64_id (by omega) (by omega)
  have s1 : f77_l1 (j + 2) 0 0 [1] (A m) = some (.inr (w64 (0 + w64 (1 * m)), w64 (0 + 1))) := rfl
  rw [e1, e2] at s1
  have s2 : f77_l1 (j + 2) m (w64 (0 + 1)) [1] (A m) = some (.inl m) := by
    have : w64 1 = 1 := by decide
    unfold f77_l1
    simp [this]
  have e : iter (fun y : (Int × Int) => f77_l1 (j + 2) y.1 y.2 [1] (A m)) (j + 2) (0, 0) = some m := (iter_r s1).trans (iter_l s2)
  rw [e]; rfl

/-- How far the rounds of a pattern's first count come: as many as are wanted, and as fit. -/
structure Last (S k L h m t : Int) : Prop where
  t0 : 0 ≤ t
  tm : t ≤ m
  th : t ≤ h
  mx : t = m ∨ t = h
theorem fit_iff (R : Rod S k L n h) (q : Int) (hq : 0 ≤ q) (hq2 : q ≤ 100) : 0 ≤ S + k - q * (L + k) ↔ q ≤ h := by
  have h1 := R.hl; have h2 := R.hh; have h3 := R.l1; have h4 := R.k0
  constructor
  · intro h0
    refine Int.not_lt.1 fun hlt => ?_
    have : (h + 1) * (L + k) ≤ q * (L + k) := Int.mul_le_mul_of_nonneg_right (by omega) (by omega)
    omega
  · intro hle
    have : q * (L + k) ≤ h * (L + k) := Int.mul_le_mul_of_nonneg_right hle (by omega)
    omega
theorem mul_small {q c : Int} (hq : 0 ≤ q) (hq2 : q ≤ 100) (hc : 0 ≤ c) (hc2 : c ≤ 1000000) : 0 ≤ q * c ∧ q * c ≤ 100000000 := by
  refine ⟨Int.mul_nonneg hq hc, ?_⟩
  calc q * c ≤ 100 * c := Int.mul_le_mul_of_nonneg_right hq2 hc
    _ ≤ 100 * 1000000 := Int.mul_le_mul_of_nonneg_left hc2 (by decide)
    _ = 100000000 := by decide

theorem t75 (kk : Nat) (hk : 100 ≤ kk) (R : Rod S k L n h) (m : Int) (hm0 : 0 ≤ m) (hm : m ≤ 9) :
    Tot (m_f75 kk 0 (S + k) S k [(L, n)] (A 0) (A m) 0 [1]) (fun r => Last S k L h m r.2.2) := by
  obtain ⟨j, rfl⟩ : ∃ j, kk = j + 2 := ⟨kk - 2, by omega⟩
  have r1 := R.l1; have r2 := R.l2; have r3 := R.s; have r4 := R.k0; have r5 := R.k1
  show Tot (m_f75_s (j + 1) (m_f75 (j + 1)) 0 (S + k) S k [(L, n)] (A 0) (A m) 0 [1]) _
  unfold m_f75_s
  refine Tot.cond (by simp) fun _ => ?_
  refine Tot.bnd (Q := fun p => p = (L, n)) ⟨_, rfl, rfl⟩ fun p hp => ?_
  subst hp
  refine Tot.grd (by decide) ?_
  have inner : ∀ left q acc, 0 ≤ q → q ≤ 100 → m_f75 (j + 1) 1 left S k [(L, n)] (A q) (A m) acc [1] = some (true, A q, imax acc q) := fun left q acc h0 h1 => by
    show m_f75_s j (m_f75 j) 1 left S k [(L, n)] (A q) (A m) acc [1] = _
    unfold m_f75_s m_f43r0
    rw [t77 j (by omega) q h0 (by omega)]
    rfl
  refine Tot.bnd (Q := OnSum (fun _ => False) (fun r => Last S k L h m r.2.2)) (Tot.iter (fun s => ∃ q, 0 ≤ q ∧ q ≤ m + 1 ∧ s.1 = S + k - q * (L + k) ∧ s.2.1 = A q ∧ s.2.2 = max (q - 1) 0 ∧ (q ≠ 0 → q - 1 ≤ h)) (fun s => (m + 1 - s.2.1.getD 0 0).toNat) ?_ (j + 1) _ ?_ ?_) ?_
  · rintro ⟨left, p, acc⟩ ⟨q, h0, h1, hl, hp, ha, hq⟩
    simp only at hl hp ha
    subst hl hp ha
    show Tot (f75_l3 (j + 1) (m_f75 (j + 1)) (S + k - q * (L + k)) (A q) (max (q - 1) 0) 0 (A m) S k [(L, n)] [1] (L, n)) _
    obtain ⟨g0, g1⟩ := mul_small h0 (by omega) (show 0 ≤ L + k by omega) (by omega)
    have fin : ∀ b : Bool, (b = true ↔ q ≤ m ∧ q ≤ h) → Tot (f75_j4 (j + 1) (m_f75 (j + 1)) b 0 (S + k - q * (L + k)) S k [(L, n)] (A q) (A m) (max (q - 1) 0) [1] (L, n)) (OnIter (OnSum (fun _ => False) (fun r => Last S k L h m r.2.2)) (fun s => ∃ q, 0 ≤ q ∧ q ≤ m + 1 ∧ s.1 = S + k - q * (L + k) ∧ s.2.1 = A q ∧ s.2.2 = max (q - 1) 0 ∧ (q ≠ 0 → q - 1 ≤ h)) (fun s => (m + 1 - s.2.1.getD 0 0).toNat) (m + 1 - q).toNat) := fun b hb => by
      unfold f75_j4
      refine Tot.cond (fun hbt => ?_) (fun hbf => Tot.ret ?_)
      · obtain ⟨b1, b2⟩ := hb.1 hbt
        have e1 : w64 (0 + 1) = 1 := by decide
        rw [e1, inner _ q _ h0 (by omega)]
        refine Tot.bnd (Q := fun r => r = (true, A q, imax (max (q - 1) 0) q)) ⟨_, rfl, rfl⟩ fun r hr => ?_
        subst hr
        refine Tot.cond (by simp) fun _ => Tot.ret ?_
        have e2 : w64 (L + k) = L + k := w64_id (by omega) (by omega)
        have e3 : w64 (S + k - q * (L + k) - (L + k)) = S + k - q * (L + k) - (L + k) := w64_id (by omega) (by omega)
        have e4 : w64 (q + 1) = q + 1 := w64_id (by omega) (by omega)
        refine ⟨⟨q + 1, by omega, by omega, ?_, ?_, ?_, fun _ => by omega⟩, ?_⟩
        · show w64 (S + k - q * (L + k) - w64 (L + k)) = _
          rw [e2, e3, Int.add_mul]; omega
        · show setA 8 (A q) 0 (w64 (q + 1)) = _
          rw [e4]; rfl
        · show imax (max (q - 1) 0) q = _
          unfold imax; split <;> omega
        · show (m + 1 - w64 (q + 1)).toNat < (m + 1 - q).toNat
          rw [e4]; omega
      · have hn : ¬(q ≤ m ∧ q ≤ h) := fun hh => by rw [hb.2 hh] at hbf; cases hbf
        have hh1 := R.h1
        have hq0 : q ≠ 0 := fun e => hn ⟨by omega, by omega⟩
        have := hq hq0
        refine ⟨?_, ?_, ?_, ?_⟩
        · show 0 ≤ max (q - 1) 0; omega
        · show max (q - 1) 0 ≤ m; omega
        · show max (q - 1) 0 ≤ h; omega
        · show max (q - 1) 0 = m ∨ max (q - 1) 0 = h; omega
    unfold f75_l3
    have hfit := fit_iff R q h0 (by omega)
    refine Tot.cond (fun hc => fin _ ?_) (fun hc => fin _ ?_)
    · have : q ≤ m := of_decide_eq_true hc
      simp only [decide_eq_true_eq]
      exact ⟨fun h => ⟨this, hfit.1 h⟩, fun h => hfit.2 h.2⟩
    · have : ¬ q ≤ m := of_decide_eq_false hc
      simp [this]
  · exact ⟨0, by omega, by omega, by show S + k = _; omega, rfl, by show (0 : Int) = _; omega, fun h => absurd rfl h⟩
  · show (m + 1 - 0 : Int).toNat < j + 1; omega
  · intro o ho
    refine Tot.elim ho (fun _ hf => hf.elim) ?_
    intro r hr
    unfold f75_j5
    exact Tot.ret hr

/-- How many rods are needed, by how many a rod holds. -/
def Rd (h m : Int) : Int := (m + h - 1) / h
theorem Rd_one {h m : Int} (h1 : 1 ≤ m) (h2 : m ≤ h) : Rd h m = 1 := by
  unfold Rd
  have e : m + h - 1 = (m - 1) + 1 * h := by omega
  rw [e, Int.add_mul_ediv_right _ _ (by omega), Int.ediv_eq_zero_of_lt (by omega) (by omega)]; rfl
theorem Rd_zero {h : Int} (h1 : 1 ≤ h) : Rd h 0 = 0 := by
  unfold Rd
  exact Int.ediv_eq_zero_of_lt (by omega) (by omega)
theorem Rd_step {h m : Int} (h1 : 1 ≤ h) : Rd h m = Rd h (m - h) + 1 := by
  unfold Rd
  have e : m + h - 1 = (m - h + h - 1) + 1 * h := by omega
  rw [e, Int.add_mul_ediv_right _ _ (by omega)]
theorem Rd_mono {h a b : Int} (h1 : 1 ≤ h) (hab : a ≤ b) : Rd h a ≤ Rd h b := Int.ediv_le_ediv (by omega) (by omega)
theorem Rd_nonneg {h m : Int} (h1 : 1 ≤ h) (hm : 0 ≤ m) : 0 ≤ Rd h m := Int.ediv_nonneg (by omega) (by omega)
theorem Rd_le {h m : Int} (h1 : 1 ≤ h) (hm : 0 ≤ m) : Rd h m ≤ m := by
  have : Rd h m < m + 1 := by
    unfold Rd
    refine Int.ediv_lt_of_lt_mul (by omega) ?_
    have : m * 1 ≤ m * h := Int.mul_le_mul_of_nonneg_left h1 hm
    rw [Int.add_mul]; omega
  omega
theorem Rd_tdiv {h m : Int} (h1 : 1 ≤ h) (hm : 0 ≤ m) : Int.tdiv (m + h - 1) h = Rd h m := Int.tdiv_eq_ediv_of_nonneg (by omega)

theorem t43 (kk : Nat) (hk : 100 ≤ kk) (R : Rod S k L n h) : Tot (m_f43 kk S k [(L, n)] [1]) (fun r => r = Rd h n) := by
  have r6 := R.n0; have r7 := R.n1; have r8 := R.h1
  have r1 := R.l1; have r2 := R.l2; have r3 := R.s; have r4 := R.k0; have r5 := R.k1
  unfold m_f43
  rw [t38 kk (by omega)]
  refine Tot.bnd (Q := fun x => x = A n) ⟨_, rfl, rfl⟩ fun x hx => ?_
  subst hx
  rw [t77 kk (by omega) n r6 (by omega)]
  refine Tot.bnd (Q := fun x => x = n) ⟨_, rfl, rfl⟩ fun x hx => ?_
  subst hx
  refine Tot.cond (fun hb => Tot.ret ?_) (fun hb => ?_)
  · have : x = 0 := by simpa using hb
    rw [this, Rd_zero r8]
  · have hx0 : x ≠ 0 := by simpa using hb
    refine Tot.bnd (Q := fun y => y = A x) ⟨_, rfl, rfl⟩ fun y hy => ?_
    subst hy
    refine Tot.bnd (Q := fun y => y = (S, k, [(L, x)], A x)) ⟨_, rfl, rfl⟩ fun y hy => ?_
    subst hy
    refine Tot.bnd (Q := fun t => Last S k L h x t) ?_ fun t ht => ?_
    · unfold m_f74
      have e1 : w64 (S + k) = S + k := w64_id (by omega) (by omega)
      simp only [e1]
      exact Tot.bnd (t75 kk hk R x r6 r7) fun r hr => Tot.ret hr
    · have a1 := ht.t0; have a2 := ht.tm; have a3 := ht.th
      have ht0 : t ≠ 0 := by rcases ht.mx with e | e <;> omega
      refine Tot.grd ht0 (Tot.ret ?_)
      have e1 : w64 (x + t) = x + t := w64_id (by omega) (by omega)
      have e2 : w64 (x + t - 1) = x + t - 1 := w64_id (by omega) (by omega)
      rw [e1, e2, Rd_tdiv (by omega) r6]
      have b1 := Rd_le (h := t) (m := x) (by omega) r6
      have b2 := Rd_nonneg (h := t) (m := x) (by omega) r6
      rw [w64_id (by omega) (by omega)]
      rcases ht.mx with e | e
      · subst e
        rw [Rd_one (by omega) (Int.le_refl _), Rd_one (by omega) a3]
      · rw [e]
end
end Go.Proofs.Ytmkjcahdjphimaa
