/- The plain laws' rules: what a partial function answers. -/
import Derived.Test.YtmkjcahdjphimaaM0
namespace Go.Eng
open Go

/-- It answers, and the answer is such. -/
def Tot {α : Type} (x : Option α) (Q : α → Prop) : Prop := ∃ a, x = some a ∧ Q a
def OnSum {α β : Type} (Qa : α → Prop) (Qb : β → Prop) : α ⊕ β → Prop
  | .inl a => Qa a
  | .inr b => Qb b
def OnIter {α σ : Type} (Q : α → Prop) (I : σ → Prop) (m : σ → Nat) (k : Nat) : α ⊕ σ → Prop
  | .inl a => Q a
  | .inr s => I s ∧ m s < k
section
variable {α β : Type} {Q : α → Prop} {R : β → Prop}
theorem Tot.ret {a : α} (h : Q a) : Tot (some a) Q := ⟨a, rfl, h⟩
theorem Tot.bnd {x : Option α} {f : α → Option β} (h : Tot x Q) (k : ∀ a, Q a → Tot (f a) R) : Tot (Eng.bnd x f) R := by
  obtain ⟨a, rfl, ha⟩ := h
  exact k a ha
theorem Tot.cond {b : Bool} {x y : Option α} (h1 : b = true → Tot x Q) (h2 : b = false → Tot y Q) : Tot (cond b x y) Q := by
  cases b with
  | true => exact h1 rfl
  | false => exact h2 rfl
theorem Tot.grd {p : Prop} [Decidable p] {x : Option α} (hp : p) (h : Tot x Q) : Tot (Eng.grd p x) Q := by
  rw [grd_of hp]; exact h
theorem Tot.mono {x : Option α} {Q' : α → Prop} (h : Tot x Q) (k : ∀ a, Q a → Q' a) : Tot x Q' := by
  obtain ⟨a, h1, h2⟩ := h
  exact ⟨a, h1, k a h2⟩
theorem Tot.idx {xs : List α} {i : Int} (h0 : 0 ≤ i) (h1 : i < (xs.length : Int)) : Tot (Eng.idx xs i) (fun x => xs[i.toNat]? = some x ∧ x ∈ xs) := by
  have hlt : i.toNat < xs.length := by omega
  refine ⟨xs[i.toNat], ?_, by simp [hlt], by simp⟩
  unfold Eng.idx
  rw [if_pos h0]; simp [hlt]
/-- Steps that go on, by what holds of them and how many are left. -/
theorem Tot.iter {σ : Type} {step : σ → Option (α ⊕ σ)} (I : σ → Prop) (m : σ → Nat) (hs : ∀ s, I s → Tot (step s) (OnIter Q I m (m s))) :
    ∀ (n : Nat) (s : σ), I s → m s < n → Tot (Eng.iter step n s) Q := by
  intro n
  induction n with
  | zero => intro s _ hm; omega
  | succ n ih =>
    intro s hI hm
    obtain ⟨o, ho, hq⟩ := hs s hI
    unfold Eng.iter
    rw [ho]
    cases o with
    | inl a => exact ⟨a, rfl, hq⟩
    | inr s' => exact ih s' hq.1 (by have := hq.2; omega)
theorem Tot.elim {γ : Type} {Qa : α → Prop} {Qb : β → Prop} {Qc : γ → Prop} {f : α → Option γ} {g : β → Option γ} {o : α ⊕ β} (h : OnSum Qa Qb o) (h1 : ∀ a, Qa a → Tot (f a) Qc) (h2 : ∀ b, Qb b → Tot (g b) Qc) : Tot (Sum.elim f g o) Qc := by
  cases o with
  | inl a => exact h1 a h
  | inr b => exact h2 b h
end
theorem w64_id {x : Int} (h0 : -9223372036854775808 ≤ x) (h1 : x ≤ 9223372036854775807) : w64 x = x := by
  have e1 : (2 : Int) ^ 64 = 18446744073709551616 := by decide
  have e2 : (2 : Int) ^ (64 - 1) = 9223372036854775808 := by decide
  simp only [w64, IntKind.wrap, IntKind.signed, IntKind.bits, Bool.true_and, decide_eq_true_eq, e1, e2]
  split <;> omega
theorem w64_add1 {x : Int} {n : Nat} (h0 : 0 ≤ x) (h1 : x < n) (hn : n < 1000000000000) : w64 (x + 1) = x + 1 := w64_id (by omega) (by omega)
end Go.Eng
