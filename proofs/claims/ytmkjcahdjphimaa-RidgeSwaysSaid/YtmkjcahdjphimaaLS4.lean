/- RidgeSways: the plan of rods of one kind. -/
import Derived.Test.YtmkjcahdjphimaaLS3
import Derived.KernelRfl
namespace Go.Proofs.Ytmkjcahdjphimaa
open Go Go.Eng

theorem A_i {x i : Int} (h1 : 1 ≤ i) (h2 : i < 8) : setA 8 (A x) i 0 = A x ∧ (A x).getD i.toNat 0 = 0 := by
  have : i = 1 ∨ i = 2 ∨ i = 3 ∨ i = 4 ∨ i = 5 ∨ i = 6 ∨ i = 7 := by omega
  rcases this with rfl | rfl | rfl | rfl | rfl | rfl | rfl <;> exact ⟨rfl, rfl⟩
theorem eqA_A (a b : Int) : eqA (A a) (A b) (List.range 8) = (a == b) := by
  show ((a == b) && _) = (a == b)
  have : ∀ c : Bool, (c && eqA (A a) (A b) [1, 2, 3, 4, 5, 6, 7]) = c := fun c => by
    have : eqA (A a) (A b) [1, 2, 3, 4, 5, 6, 7] = true := rfl
    rw [this, Bool.and_true]
  exact this _
theorem mem_mput {K V : Type} {q : K → K → Bool} {k : K} {v : V} {p : K × V} : ∀ {m : List (K × V)}, p ∈ mput q m k v → p = (k, v) ∨ p ∈ m
  | [], h => by simp [mput] at h; exact .inl h
  | x :: r, h => by
    unfold mput at h
    cases hq : q k x.1
    · rw [hq, cond_false] at h
      rcases List.mem_cons.1 h with h | h
      · exact .inr (by simp [h])
      · rcases mem_mput h with h | h
        · exact .inl h
        · exact .inr (by simp [h])
    · rw [hq, cond_true] at h
      rcases List.mem_cons.1 h with h | h
      · exact .inl h
      · exact .inr (by simp [h])
theorem mget_mem {K V : Type} {q : K → K → Bool} {k : K} {v : V} : ∀ {m : List (K × V)}, mget q m k = some v → ∃ p ∈ m, q k p.1 = true ∧ p.2 = v
  | [], h => by cases h
  | x :: r, h => by
    unfold mget at h
    cases hq : q k x.1
    · rw [hq, cond_false] at h
      obtain ⟨p, h1, h2⟩ := mget_mem h
      exact ⟨p, by simp [h1], h2⟩
    · rw [hq, cond_true] at h
      cases h
      exact ⟨x, by simp, hq, rfl⟩

/-- What is kept of so many of one cut: what is taken first, and how many rods all need. -/
def G (h m : Int) (first : List Int) (rods : Int) : Prop := rods = Rd h m ∧ ((m = 0 ∧ first = A 0) ∨ ∃ t, 1 ≤ t ∧ t ≤ m ∧ first = A t ∧ Rd h (m - t) + 1 = Rd h m)
abbrev MB := List ((List Int) × ((List Int) × Int))
def Mo (h : Int) (memo : MB) : Prop := ∀ p ∈ memo, ∃ m, 0 ≤ m ∧ m ≤ 9 ∧ p.1 = A m ∧ G h m p.2.1 p.2.2
theorem G_len {h m : Int} {first : List Int} {rods : Int} (g : G h m first rods) : first.length = 8 := by
  rcases g.2 with ⟨_, rfl⟩ | ⟨t, _, _, rfl, _⟩ <;> rfl
theorem Mo_get {h m : Int} {memo : MB} (hm : Mo h memo) {v : (List Int) × Int} (hg : mget qk_112 memo (A m) = some v) : G h m v.1 v.2 := by
  obtain ⟨p, h1, h2, rfl⟩ := mget_mem hg
  obtain ⟨m', _, _, h3, h4⟩ := hm p h1
  unfold qk_112 at h2
  rw [h3, eqA_A] at h2
  have : m = m' := by simpa using h2
  subst this
  exact h4
theorem Mo_put {h m : Int} {memo : MB} (hm : Mo h memo) (h0 : 0 ≤ m) (h9 : m ≤ 9) {first : List Int} {rods : Int} (g : G h m first rods) : Mo h (mput qk_112 memo (A m) (first, rods)) := by
  intro p hp
  rcases mem_mput hp with rfl | hp
  · exact ⟨m, h0, h9, rfl, g⟩
  · exact hm p hp

theorem t34 (kk : Nat) (hk : 20 ≤ kk) (m : Int) : Tot (m_f34 kk (A m)) (fun r => (0 < m → r = 0) ∧ (m ≤ 0 → r < 0)) := by
  unfold m_f34
  refine Tot.bnd (Q := OnSum (fun r => 0 < m ∧ r = 0) (fun _ => m ≤ 0)) (Tot.iter (fun s => 0 ≤ s ∧ s ≤ 8 ∧ (0 < s → m ≤ 0)) (fun s => (8 - s).toNat) ?_ kk _ ⟨by omega, by omega, fun h => by omega⟩ (by omega)) ?_
  · rintro i ⟨h0, h1, h2⟩
    show Tot (f34_l1 kk i (A m)) _
    unfold f34_l1
    refine Tot.cond (fun hc => ?_) (fun hc => Tot.ret ?_)
    · have hc' : i < 8 := of_decide_eq_true hc
      have e1 : w64 (i + 1) = i + 1 := w64_id (by omega) (by omega)
      refine Tot.bnd (Tot.idx h0 hc') fun x hx => ?_
      refine Tot.bnd (Q := fun b => b = decide (x > 0)) ⟨_, rfl, rfl⟩ fun b hb => ?_
      subst hb
      have hxm : (i = 0 → x = m) ∧ (i ≠ 0 → x = 0) := by
        constructor
        · rintro rfl; have := hx.1; simp [A] at this; exact this.symm
        · intro hn
          have := (A_i (x := m) (show 1 ≤ i by omega) hc').2
          rw [List.getD_eq_getElem?_getD, hx.1] at this
          exact this
      refine Tot.cond (fun hb => Tot.ret ?_) (fun hb => Tot.ret ?_)
      · have hx0 : x > 0 := of_decide_eq_true hb
        have hi : i = 0 := by
          by_cases hi : i = 0
          · exact hi
          · have := hxm.2 hi; omega
        exact ⟨by have := hxm.1 hi; omega, hi⟩
      · have hx0 : ¬ x > 0 := of_decide_eq_false hb
        rw [e1]
        refine ⟨⟨by omega, by omega, fun _ => ?_⟩, by dsimp only; omega⟩
        by_cases hi : i = 0
        · have := hxm.1 hi; omega
        · exact h2 (by omega)
    · have hc' : ¬ i < 8 := of_decide_eq_false hc
      exact h2 (by omega)
  · intro o ho
    refine Tot.elim ho (fun r hr => Tot.ret ⟨fun _ => hr.2, fun h => by omega⟩) (fun _ hm => ?_)
    unfold f34_j2
    exact Tot.ret ⟨fun h => by omega, fun _ => by omega⟩

section
variable {S k L n h : Int}

theorem t33r0 (kk : Nat) (hk : 20 ≤ kk) (F : (List Int) → Int → Int → (List (Int × Int)) → MB → Option ((List Int) × Int × MB)) (m : Int) (hm : m ≤ 9) (h1 : 1 ≤ h)
    (hF : ∀ m' memo, 0 ≤ m' → m' < m → Mo h memo → Tot (F (A m') S k [(L, n)] memo) (fun r => G h m' r.1 r.2.1 ∧ Mo h r.2.2))
    (q : Int) (hq0 : 0 ≤ q) (hqm : q ≤ m) (first : List Int) (rods : Int) (memo : MB) (hmo : Mo h memo) :
    Tot (m_f33r0 kk F (A q) (A m) 0 first rods memo S k [(L, n)]) (fun r => r.1 = true ∧ Mo h r.2.2.2 ∧ (q = 0 → r.2.1 = first ∧ r.2.2.1 = rods) ∧
      (1 ≤ q → (1 + Rd h (m - q) < rods ∧ r.2.1 = A q ∧ r.2.2.1 = 1 + Rd h (m - q)) ∨ (rods ≤ 1 + Rd h (m - q) ∧ r.2.1 = first ∧ r.2.2.1 = rods))) := by
  unfold m_f33r0
  refine Tot.grd (by decide) ?_
  refine Tot.cond (fun hc => ?_) (fun hc => ?_)
  · have hc' : q = 0 := by have : (q == 0) = true := hc; simpa using this
    unfold f33r0_j4
    exact Tot.ret ⟨rfl, hmo, fun _ => ⟨rfl, rfl⟩, fun h => by omega⟩
  · have hc' : q ≠ 0 := by have : (q == 0) = false := hc; simpa using this
    refine Tot.bnd (Q := fun z => z = (A (m - q), S, k, [(L, n)], memo, rods, A q, first)) (Tot.iter (fun s => 0 ≤ s.1 ∧ s.1 ≤ 8 ∧ ((s.1 = 0 ∧ s.2 = A m) ∨ (1 ≤ s.1 ∧ s.2 = A (m - q)))) (fun s => (8 - s.1).toNat) ?_ kk _ ⟨by show (0 : Int) ≤ 0; omega, by show (0 : Int) ≤ 8; omega, .inl ⟨rfl, rfl⟩⟩ (by show (8 - 0 : Int).toNat < kk; omega)) ?_
    · rintro ⟨i, arr⟩ ⟨g0, g1, g2⟩
      simp only at g0 g1 g2
      show Tot (f33r0_l1 kk F i arr (A q) S k [(L, n)] memo rods first) _
      unfold f33r0_l1
      refine Tot.cond (fun hi => ?_) (fun hi => Tot.ret ?_)
      · have hi' : i < 8 := of_decide_eq_true hi
        refine Tot.grd ⟨g0, hi'⟩ (Tot.ret ?_)
        have e1 : w64 (i + 1) = i + 1 := w64_id (by omega) (by omega)
        rw [e1]
        refine ⟨⟨by show 0 ≤ i + 1; omega, by show i + 1 ≤ 8; omega, .inr ⟨by show 1 ≤ i + 1; omega, ?_⟩⟩, by show (8 - (i + 1)).toNat < (8 - i).toNat; omega⟩
        show setA 8 arr i (w64 (List.getD arr i.toNat 0 - List.getD (A q) i.toNat 0)) = A (m - q)
        rcases g2 with ⟨rfl, rfl⟩ | ⟨hi1, rfl⟩
        · show setA 8 (A m) 0 (w64 (m - q)) = _
          rw [w64_id (by omega) (by omega)]; rfl
        · rw [(A_i hi1 hi').2, (A_i hi1 hi').2]
          have : w64 ((0 : Int) - 0) = 0 := by decide
          rw [this]; exact (A_i hi1 hi').1
      · have hi' : ¬ i < 8 := of_decide_eq_false hi
        rcases g2 with ⟨g2, _⟩ | ⟨_, rfl⟩
        · omega
        · rfl
    · rintro _ rfl
      show Tot (f33r0_j2 kk F (A (m - q)) S k [(L, n)] memo rods (A q) first) _
      unfold f33r0_j2
      refine Tot.bnd (hF (m - q) memo (by omega) (by omega) hmo) ?_
      rintro ⟨f2, r2, memo2⟩ ⟨hg, hmo2⟩
      have hr2 : r2 = Rd h (m - q) := hg.1
      have b1 := Rd_le (h := h) (m := m - q) h1 (by omega)
      have b2 := Rd_nonneg (h := h) (m := m - q) h1 (by omega)
      have e2 : w64 (1 + r2) = 1 + Rd h (m - q) := by rw [hr2]; exact w64_id (by omega) (by omega)
      simp only [e2]
      refine Tot.cond (fun hc => ?_) (fun hc => ?_)
      · have := of_decide_eq_true hc
        exact Tot.ret ⟨rfl, hmo2, fun h => absurd h hc', fun _ => .inl ⟨this, rfl, rfl⟩⟩
      · have := of_decide_eq_false hc
        exact Tot.ret ⟨rfl, hmo2, fun h => absurd h hc', fun _ => .inr ⟨by omega, rfl, rfl⟩⟩

theorem t75b (kk : Nat) (hk : 100 ≤ kk) (R : Rod S k L n h) (F : (List Int) → Int → Int → (List (Int × Int)) → MB → Option ((List Int) × Int × MB)) (m : Int) (hm1 : 1 ≤ m) (hm : m ≤ 9)
    (hF : ∀ m' memo, 0 ≤ m' → m' < m → Mo h memo → Tot (F (A m') S k [(L, n)] memo) (fun r => G h m' r.1 r.2.1 ∧ Mo h r.2.2)) (memo : MB) (hmo : Mo h memo) :
    Tot (m_f75_1 kk F 0 (S + k) S k [(L, n)] (A 0) (A m) (A m) 0 (A 0) 13 memo S k [(L, n)]) (fun r => G h m r.2.2.1 r.2.2.2.1 ∧ Mo h r.2.2.2.2) := by
  obtain ⟨j, rfl⟩ : ∃ j, kk = j + 2 := ⟨kk - 2, by omega⟩
  have r1 := R.l1; have r2 := R.l2; have r3 := R.s; have r4 := R.k0; have r5 := R.k1; have r8 := R.h1
  show Tot (m_f75_1_s (j + 1) F (m_f75_1 (j + 1) F) 0 (S + k) S k [(L, n)] (A 0) (A m) (A m) 0 (A 0) 13 memo S k [(L, n)]) _
  unfold m_f75_1_s
  refine Tot.cond (by simp) fun _ => ?_
  refine Tot.bnd (Q := fun p => p = (L, n)) ⟨_, rfl, rfl⟩ fun p hp => ?_
  subst hp
  refine Tot.grd (by decide) ?_
  have inner : ∀ left q first rods memo, 0 ≤ q → q ≤ m → Mo h memo → Tot (m_f75_1 (j + 1) F 1 left S k [(L, n)] (A q) (A m) (A m) 0 first rods memo S k [(L, n)])
      (fun r => r.1 = true ∧ r.2.1 = A q ∧ Mo h r.2.2.2.2 ∧ (q = 0 → r.2.2.1 = first ∧ r.2.2.2.1 = rods) ∧
        (1 ≤ q → (1 + Rd h (m - q) < rods ∧ r.2.2.1 = A q ∧ r.2.2.2.1 = 1 + Rd h (m - q)) ∨ (rods ≤ 1 + Rd h (m - q) ∧ r.2.2.1 = first ∧ r.2.2.2.1 = rods))) := fun left q first rods memo h0 h1 hmo => by
    show Tot (m_f75_1_s j F (m_f75_1 j F) 1 left S k [(L, n)] (A q) (A m) (A m) 0 first rods memo S k [(L, n)]) _
    unfold m_f75_1_s
    refine Tot.cond (fun _ => ?_) (by simp)
    refine Tot.bnd (t33r0 j (by omega) F m hm r8 hF q h0 h1 first rods memo hmo) fun r hr => ?_
    exact Tot.ret ⟨hr.1, rfl, hr.2.1, hr.2.2.1, hr.2.2.2⟩
  let Best : Int → List Int → Int → Prop := fun q first rods => (q ≤ 1 → rods = 13) ∧ (2 ≤ q → ∃ t, 1 ≤ t ∧ t ≤ q - 1 ∧ first = A t ∧ rods = 1 + Rd h (m - t) ∧ ∀ t', 1 ≤ t' → t' ≤ q - 1 → rods ≤ 1 + Rd h (m - t'))
  let I : (Int × (List Int) × (List Int) × Int × MB) → Prop := fun s => ∃ q, 0 ≤ q ∧ q ≤ m + 1 ∧ s.1 = S + k - q * (L + k) ∧ s.2.1 = A q ∧ (q ≠ 0 → q - 1 ≤ h) ∧ Best q s.2.2.1 s.2.2.2.1 ∧ Mo h s.2.2.2.2
  refine Tot.bnd (Q := OnSum (fun _ => False) (fun r => G h m r.2.2.1 r.2.2.2.1 ∧ Mo h r.2.2.2.2)) (Tot.iter I (fun s => (m + 1 - s.2.1.getD 0 0).toNat) ?_ (j + 1) _ ?_ ?_) ?_
  · rintro ⟨left, p, first, rods, memo⟩ ⟨q, h0, h1, hl, hp, hq, hb, hmo⟩
    simp only at hl hp hb hmo
    subst hl hp
    show Tot (f75_1_l3 (j + 1) F (m_f75_1 (j + 1) F) (S + k - q * (L + k)) (A q) first rods memo 0 (A m) S k [(L, n)] (A m) 0 S k [(L, n)] (L, n)) _
    obtain ⟨g0, g1⟩ := mul_small h0 (by omega) (show 0 ≤ L + k by omega) (by omega)
    have fin : ∀ b : Bool, (b = true ↔ q ≤ m ∧ q ≤ h) → Tot (f75_1_j4 (j + 1) F (m_f75_1 (j + 1) F) b 0 (S + k - q * (L + k)) S k [(L, n)] (A q) (A m) (A m) 0 first rods memo S k [(L, n)] (L, n)) (OnIter (OnSum (fun _ => False) (fun r => G h m r.2.2.1 r.2.2.2.1 ∧ Mo h r.2.2.2.2)) I (fun s => (m + 1 - s.2.1.getD 0 0).toNat) (m + 1 - q).toNat) := fun b hbq => by
      unfold f75_1_j4
      refine Tot.cond (fun hbt => ?_) (fun hbf => Tot.ret ?_)
      · obtain ⟨b1, b2⟩ := hbq.1 hbt
        have e1 : w64 (0 + 1) = 1 := by decide
        rw [e1]
        refine Tot.bnd (inner _ q first rods memo h0 b1 hmo) ?_
        rintro ⟨rb, rp, rf, rr, rm⟩ ⟨c1, c2, c3, c4, c5⟩
        simp only at c1 c2 c3 c4 c5
        subst c1 c2
        refine Tot.cond (by simp) fun _ => Tot.ret ?_
        have e2 : w64 (L + k) = L + k := w64_id (by omega) (by omega)
        have e3 : w64 (S + k - q * (L + k) - (L + k)) = S + k - q * (L + k) - (L + k) := w64_id (by omega) (by omega)
        have e4 : w64 (q + 1) = q + 1 := w64_id (by omega) (by omega)
        refine ⟨⟨q + 1, by omega, by omega, ?_, ?_, fun _ => by omega, ?_, c3⟩, ?_⟩
        · show w64 (S + k - q * (L + k) - w64 (L + k)) = _
          rw [e2, e3, Int.add_mul]; omega
        · show setA 8 (A q) 0 (w64 (q + 1)) = _
          rw [e4]; rfl
        · refine ⟨fun h => ?_, fun h2 => ?_⟩
          · have hq0 : q = 0 := by omega
            show rr = 13
            rw [(c4 hq0).2]; exact hb.1 (by omega)
          · have hq1 : 1 ≤ q := by omega
            rcases c5 hq1 with ⟨d1, d2, d3⟩ | ⟨d1, d2, d3⟩
            · refine ⟨q, hq1, by omega, d2, d3, fun t' ht1 ht2 => ?_⟩
              show rr ≤ _
              rw [d3]
              have := Rd_mono (h := h) (a := m - q) (b := m - t') r8 (by omega)
              omega
            · by_cases hq2 : 2 ≤ q
              · obtain ⟨t, t1, t2, t3, t4, t5⟩ := hb.2 hq2
                refine ⟨t, t1, by omega, by show rf = _; rw [d2]; exact t3, by show rr = _; rw [d3]; exact t4, fun t' ht1 ht2 => ?_⟩
                show rr ≤ _
                rw [d3]
                by_cases he : t' = q
                · rw [he]; exact d1
                · exact t5 t' ht1 (by omega)
              · exfalso
                have h13 := hb.1 (by omega)
                have := Rd_le (h := h) (m := m - q) r8 (by omega)
                omega
        · show (m + 1 - w64 (q + 1)).toNat < (m + 1 - q).toNat
          rw [e4]; omega
      · have hn : ¬(q ≤ m ∧ q ≤ h) := fun hh => by rw [hbq.2 hh] at hbf; cases hbf
        have hq0 : q ≠ 0 := fun e => hn ⟨by omega, by omega⟩
        have hqh := hq hq0
        have hq2 : 2 ≤ q := by omega
        obtain ⟨t, t1, t2, t3, t4, t5⟩ := hb.2 hq2
        have hT := t5 (q - 1) (by omega) (Int.le_refl _)
        have hmono := Rd_mono (h := h) (a := m - (q - 1)) (b := m - t) r8 (by omega)
        have hRd : 1 + Rd h (m - (q - 1)) = Rd h m := by
          by_cases hc : q - 1 = m
          · rw [hc, Int.sub_self, Rd_zero r8, Rd_one hm1 (by omega)]; rfl
          · have hc2 : q - 1 = h := by omega
            rw [hc2, Rd_step (m := m) r8]; omega
        exact ⟨⟨by show rods = _; omega, .inr ⟨t, t1, by omega, t3, by omega⟩⟩, hmo⟩
    unfold f75_1_l3
    have hfit := fit_iff R q h0 (by omega)
    refine Tot.cond (fun hc => fin _ ?_) (fun hc => fin _ ?_)
    · have : q ≤ m := of_decide_eq_true hc
      simp only [decide_eq_true_eq]
      exact ⟨fun h => ⟨this, hfit.1 h⟩, fun h => hfit.2 h.2⟩
    · have : ¬ q ≤ m := of_decide_eq_false hc
      simp [this]
  · exact ⟨0, by omega, by omega, by show S + k = _; omega, rfl, fun h => absurd rfl h, ⟨fun _ => rfl, fun h => by omega⟩, hmo⟩
  · show (m + 1 - 0 : Int).toNat < j + 1; omega
  · intro o ho
    refine Tot.elim ho (fun _ hf => hf.elim) ?_
    intro r hr
    unfold f75_1_j5
    exact Tot.ret hr

theorem tget (R : Rod S k L n h) : ∀ (M : Nat) (m : Int) (kk : Nat), m = M → m ≤ 9 → 200 + M ≤ kk → ∀ memo, Mo h memo → Tot (m_f37 kk (A m) S k [(L, n)] memo) (fun r => G h m r.1 r.2.1 ∧ Mo h r.2.2) := by
  intro M
  induction M using Nat.strongRecOn with
  | _ M ih =>
    intro m kk hmM hm9 hkk memo hmo
    obtain ⟨j, rfl⟩ : ∃ j, kk = j + 1 := ⟨kk - 1, by omega⟩
    have r1 := R.l1; have r2 := R.l2; have r3 := R.s; have r4 := R.k0; have r5 := R.k1; have r8 := R.h1
    show Tot (m_f37_s j (m_f37 j) (A m) S k [(L, n)] memo) _
    unfold m_f37_s
    refine Tot.bnd (Q := fun x => x = mget qk_112 memo (A m)) ⟨_, rfl, rfl⟩ fun x hx => ?_
    cases x with
    | some v =>
      have hg := Mo_get hmo hx.symm
      refine Tot.grd (G_len hg) ?_
      refine Tot.cond (by simp) fun _ => ?_
      exact Tot.ret ⟨hg, hmo⟩
    | none =>
      refine Tot.grd rfl ?_
      refine Tot.cond (fun _ => ?_) (by simp)
      refine Tot.bnd (Q := fun r => G h m r.1 r.2.1 ∧ Mo h r.2.2) ?_ fun r hr => ?_
      · unfold m_f33
        refine Tot.bnd (t34 j (by omega) m) fun i hi => ?_
        refine Tot.cond (fun hc => Tot.ret ?_) (fun hc => ?_)
        · have hc' := of_decide_eq_true hc
          have hm0 : m = 0 := by
            by_cases h0 : 0 < m
            · have := hi.1 h0; omega
            · omega
          subst hm0
          exact ⟨⟨(Rd_zero r8).symm, .inl ⟨rfl, rfl⟩⟩, hmo⟩
        · have hc' := of_decide_eq_false hc
          have hm1 : 1 ≤ m := by
            refine Int.not_lt.1 fun hlt => hc' (hi.2 (by omega))
          have hi0 : i = 0 := hi.1 (by omega)
          subst hi0
          refine Tot.bnd (Q := fun y => y = (S, k, [(L, n)], A m)) ⟨_, rfl, rfl⟩ fun y hy => ?_
          subst hy
          have e1 : w64 (S + k) = S + k := w64_id (by omega) (by omega)
          refine Tot.bnd (Q := fun r => G h m r.1 r.2.1 ∧ Mo h r.2.2) ?_ fun r hr => Tot.ret hr
          unfold m_f74_1
          simp only [e1]
          refine Tot.bnd (t75b j (by omega) R (m_f37 j) m hm1 hm9 (fun m' memo' h0 hlt hmo' => ?_) memo hmo) fun r hr => Tot.ret hr
          exact ih m'.toNat (by omega) m' j (by omega) (by omega) (by omega) memo' hmo'
      · unfold f37_j1
        exact Tot.ret ⟨hr.1, Mo_put hr.2 (by omega) hm9 hr.1⟩
end
end Go.Proofs.Ytmkjcahdjphimaa
