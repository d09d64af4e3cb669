/- The words of the functions that the program computes: partial functions, steps that are gone through again. -/
import GoSem.Core.Lib
import GoSem.Core.Utf8
namespace Go.Eng
open Go

def bnd {α β : Type} (x : Option α) (f : α → Option β) : Option β :=
  match x with
  | some a => f a
  | none => none
theorem bnd_some {α β : Type} {x : Option α} {f : α → Option β} {r : β} (h : bnd x f = some r) : ∃ a, x = some a ∧ f a = some r := by
  cases x with
  | none => cases h
  | some a => exact ⟨a, rfl, h⟩
@[simp] theorem bnd_of {α β : Type} (a : α) (f : α → Option β) : bnd (some a) f = f a := rfl
@[simp] theorem bnd_none {α β : Type} (f : α → Option β) : bnd none f = none := rfl
def grd {α : Type} (p : Prop) [Decidable p] (x : Option α) : Option α := if p then x else none
theorem grd_some {α : Type} {p : Prop} [Decidable p] {x : Option α} {r : α} (h : grd p x = some r) : p ∧ x = some r := by
  unfold grd at h
  split at h
  · exact ⟨by assumption, h⟩
  · cases h
theorem grd_of {α : Type} {p : Prop} [Decidable p] (h : p) (x : Option α) : grd p x = x := if_pos h
theorem cond_some {α : Type} {b : Bool} {x y : Option α} {r : α} (h : cond b x y = some r) : (b = true ∧ x = some r) ∨ (b = false ∧ y = some r) := by
  cases b with
  | true => exact .inl ⟨rfl, h⟩
  | false => exact .inr ⟨rfl, h⟩

/-- Steps, as long as they go on. -/
def iter {α σ : Type} (step : σ → Option (α ⊕ σ)) : Nat → σ → Option α
  | 0, _ => none
  | n + 1, s =>
    match step s with
    | some (.inl a) => some a
    | some (.inr s') => iter step n s'
    | none => none
def Itc {α σ : Type} (step : σ → Option (α ⊕ σ)) (n : Nat) (r : α) : α ⊕ σ → Prop
  | .inl a => a = r
  | .inr s => iter step n s = some r
theorem iter_some {α σ : Type} {step : σ → Option (α ⊕ σ)} {n : Nat} {s : σ} {r : α} (h : iter step n s = some r) : ∃ n' o, n = n' + 1 ∧ step s = some o ∧ Itc step n' r o := by
  cases n with
  | zero => cases h
  | succ n =>
    unfold iter at h
    cases hs : step s with
    | none => rw [hs] at h; cases h
    | some o =>
      rw [hs] at h
      refine ⟨n, o, rfl, rfl, ?_⟩
      cases o with
      | inl a => injection h
      | inr s' => exact h
theorem iter_succ {α σ : Type} (step : σ → Option (α ⊕ σ)) (n : Nat) (s : σ) : iter step (n + 1) s = bnd (step s) (Sum.elim some (iter step n)) := by
  show (match step s with | some (.inl a) => some a | some (.inr s') => iter step n s' | none => none) = _
  cases step s with
  | none => rfl
  | some o => cases o <;> rfl

def idx {α : Type} (xs : List α) (i : Int) : Option α := if 0 ≤ i then xs[i.toNat]? else none
theorem idx_some {α : Type} {xs : List α} {i : Int} {x : α} (h : idx xs i = some x) : 0 ≤ i ∧ i < xs.length ∧ xs[i.toNat]? = some x := by
  unfold idx at h
  split at h
  · refine ⟨by assumption, ?_, h⟩
    have := (List.getElem?_eq_some_iff.1 h).1
    omega
  · cases h
theorem idx_nat {α : Type} (xs : List α) (i : Nat) : idx xs (i : Int) = xs[i]? := by simp [idx]
def sidx (s : ByteArray) (i : Int) : Option UInt8 := if 0 ≤ i then s[i.toNat]? else none
theorem sidx_some {s : ByteArray} {i : Int} {b : UInt8} (h : sidx s i = some b) : 0 ≤ i ∧ s[i.toNat]? = some b := by
  unfold sidx at h
  split at h
  · exact ⟨by assumption, h⟩
  · cases h
def setA (n : Nat) (xs : List Int) (i : Int) (v : Int) : List Int := (List.range n).map fun (j : Nat) => if (j : Int) = i then v else xs.getD j 0
def imax (x y : Int) : Int := if y > x then y else x
def imin (x y : Int) : Int := if y < x then y else x
theorem bytes_beq {a b : ByteArray} : (a == b) = true ↔ a = b := by
  constructor
  · intro h
    cases a; cases b
    rename_i x y
    have : (x == y) = true := h
    rw [eq_of_beq this]
  · rintro rfl
    cases a
    rename_i x
    show (x == x) = true
    exact beq_self_eq_true x
/-- What is copied into a list from a place on. -/
def lcopy {α : Type} (xs : List α) (l : Nat) (ys : List α) : List α := xs.take l ++ (ys.take (Nat.min ys.length (xs.length - l)) ++ xs.drop (l + Nat.min ys.length (xs.length - l)))
theorem lcopy_len {α : Type} {xs ys : List α} {l : Nat} (h : l ≤ xs.length) : (lcopy xs l ys).length = xs.length := by
  have h1 : Nat.min ys.length (xs.length - l) ≤ ys.length := Nat.min_le_left _ _
  have h2 : Nat.min ys.length (xs.length - l) ≤ xs.length - l := Nat.min_le_right _ _
  simp only [lcopy, List.length_append, List.length_take, List.length_drop]
  omega
/-- Texts are equal. -/
def seq (a b : ByteArray) : Bool := a.toList == b.toList
/-- A map, as its entries in the order in which they came. -/
def mget {K V : Type} (q : K → K → Bool) : List (K × V) → K → Option V
  | [], _ => none
  | p :: r, k => bif q k p.1 then some p.2 else mget q r k
def mput {K V : Type} (q : K → K → Bool) : List (K × V) → K → V → List (K × V)
  | [], k, v => [(k, v)]
  | p :: r, k, v => bif q k p.1 then (k, v) :: r else p :: mput q r k v
/-- Numbers of an array are equal. -/
def eqA (xs ys : List Int) : List Nat → Bool
  | [] => true
  | i :: is => (xs.getD i 0 == ys.getD i 0) && eqA xs ys is
abbrev w64 (x : Int) : Int := IntKind.wrap .i64 x
end Go.Eng
