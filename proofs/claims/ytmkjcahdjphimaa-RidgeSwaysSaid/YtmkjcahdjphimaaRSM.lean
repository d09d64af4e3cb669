/- printed: what functions compute -/
import Derived.Test.YtmkjcahdjphimaaM0
namespace Go.Proofs.Ytmkjcahdjphimaa
open Go Go.Eng
def qk_9 (a b : ByteArray) : Bool := (a == b)
def qk_112 (a b : (List Int)) : Bool := (eqA a b (List.range 8))
def f6_j1 (kk : Nat) (x13 : Bool) : Option Bool :=
  some x13
def m_f6 (kk : Nat) (x1 : (List (Int × Int))) (x5 : (List ((Int × Int) × (Int × Int)))) : Option Bool :=
  cond (decide (((List.length x1) : Int) > 30)) (
  (f6_j1 kk true)) (
  (f6_j1 kk (decide (((List.length x5) : Int) > 20))))
def m_f26 (kk : Nat) : Option (Int × Int × Int × (List (ByteArray × Int × Int × Int × Int))) :=
  some (5, 0, 0, [((⟨#[111, 110, 101]⟩ : ByteArray), (1, (0, (0, 0)))), ((⟨#[116, 119, 111]⟩ : ByteArray), (2, (0, (0, 1)))), ((⟨#[117, 112]⟩ : ByteArray), (1, (0, (1, 3)))), ((⟨#[100, 111, 119, 110]⟩ : ByteArray), (1, (1, (0, 2))))])
def f42_j1 (kk : Nat) (x5 : Bool) : Option Bool :=
  some x5
def m_f42 (kk : Nat) (x1 : Int) (x2 : Int) (x3 : Int) : Option Bool :=
  cond (decide (x2 ≤ x1)) (
  (f42_j1 kk (decide (x1 ≤ x3)))) (
  (f42_j1 kk false))
def f155_j1 (kk : Nat) (x8 : Bool) : Option Bool :=
  some x8
def m_f155 (kk : Nat) (x1 : Int) : Option Bool :=
  cond (decide (x1 ≥ 97)) (
  cond (decide (x1 ≤ 122)) (
  (f155_j1 kk false)) (
  cond (decide (x1 ≥ 48)) (
  cond (decide (x1 ≤ 57)) (
  (f155_j1 kk false)) (
  (f155_j1 kk (!(x1 == 45))))) (
  (f155_j1 kk (!(x1 == 45)))))) (
  cond (decide (x1 ≥ 48)) (
  cond (decide (x1 ≤ 57)) (
  (f155_j1 kk false)) (
  (f155_j1 kk (!(x1 == 45))))) (
  (f155_j1 kk (!(x1 == 45)))))
def f167_l1 (kk : Nat) (x23 : Nat) (x1 : ByteArray) (x2 : Bool) : Option ((Int ⊕ Unit) ⊕ Nat) :=
  cond (decide (x23 < (x1).size)) (
  bnd (m_f155 kk ((Utf8.decode x1 x23).1 : Int)) fun x30 =>
  cond (x30 == x2) (
  some (Sum.inl (Sum.inl (x23 : Int)))) (
  some (Sum.inr (x23 + (Utf8.decode x1 x23).2)))) (
  some (Sum.inl (Sum.inr ())))
def f167_j2 (kk : Nat) : Option Int :=
  some (-1)
def m_f167 (kk : Nat) (x1 : ByteArray) (x2 : Bool) : Option Int :=
  bnd (iter (fun y : Nat => f167_l1 kk y x1 x2) kk 0) (Sum.elim some (fun z24 => f167_j2 kk))
def m_f157 (kk : Nat) (x1 : ByteArray) : Option Int :=
  bnd (m_f167 kk x1 true) fun x2 =>
  some x2
def m_f118 (kk : Nat) (x1 : ByteArray) : Option Bool :=
  bnd (m_f157 kk x1) fun x2 =>
  some (decide (x2 ≥ 0))
def f109_j1 (kk : Nat) (x11 : Bool) (x1 : ByteArray) : Option Bool :=
  cond x11 (
  some false) (
  bnd (m_f118 kk x1) fun x13 =>
  some (!x13))
def m_f109 (kk : Nat) (x1 : ByteArray) : Option Bool :=
  cond (seq x1 (⟨#[]⟩ : ByteArray)) (
  (f109_j1 kk true x1)) (
  cond (decide (((x1).size : Int) > 16)) (
  (f109_j1 kk true x1)) (
  bnd (sidx x1 0) fun x4 =>
  cond (decide ((x4.toNat : Int) < 97)) (
  (f109_j1 kk true x1)) (
  bnd (sidx x1 0) fun x8 =>
  (f109_j1 kk (decide ((x8.toNat : Int) > 122)) x1))))
def m_f110 (kk : Nat) (x1 : ByteArray) (x2 : Int) (x3 : Int) (x4 : Int) (x5 : Int) : Option (ByteArray × Int × Int × Int × Int) :=
  some ((⟨#[]⟩ : ByteArray), x2, x4, x3, 0)
def m_f111 (kk : Nat) (x1 : ByteArray) (x2 : Int) (x3 : Int) (x4 : Int) (x5 : Int) : Option (ByteArray × Int × Int × Int × Int) :=
  some ((⟨#[]⟩ : ByteArray), x2, x3, x4, 0)
def f61_j5 (kk : Nat) (x111 : Bool) (x82 : Int) (x83 : (List (ByteArray × Bool))) (x90 : (ByteArray × Int × Int × Int × Int)) : Option ((Int ⊕ (List (ByteArray × Int × Int × Int × Int))) ⊕ (Int × (List (ByteArray × Bool)))) :=
  cond x111 (
  some (Sum.inl (Sum.inl 1))) (
  some (Sum.inr ((w64 (x82 + 1)), (mput qk_9 x83 x90.1 true))))
def f61_l4 (kk : Nat) (x82 : Int) (x83 : (List (ByteArray × Bool))) (x4 : (List (ByteArray × Int × Int × Int × Int))) : Option ((Int ⊕ (List (ByteArray × Int × Int × Int × Int))) ⊕ (Int × (List (ByteArray × Bool)))) :=
  cond (decide (x82 < ((List.length x4) : Int))) (
  bnd (idx x4 x82) fun x90 =>
  bnd (m_f109 kk x90.1) fun x97 =>
  cond (!x97) (
  some (Sum.inl (Sum.inl 5))) (
  bnd (some (mget qk_9 x83 x90.1)) fun x100 =>
  cond (Option.getD x100 false) (
  some (Sum.inl (Sum.inl 6))) (
  bnd (m_f42 kk x90.2.1 1 2000) fun x103 =>
  cond (!x103) (
  (f61_j5 kk true x82 x83 x90)) (
  bnd (m_f42 kk x90.2.2.1 0 9) fun x106 =>
  cond (!x106) (
  (f61_j5 kk true x82 x83 x90)) (
  bnd (m_f42 kk x90.2.2.2.1 0 9) fun x109 =>
  (f61_j5 kk (!x109) x82 x83 x90)))))) (
  some (Sum.inl (Sum.inr x4)))
def f61_j10 (kk : Nat) (x223 : Bool) (x190 : Int) : Option ((Int ⊕ Unit) ⊕ Int) :=
  cond x223 (
  some (Sum.inl (Sum.inl 10))) (
  some (Sum.inr (w64 (x190 + 1))))
def f61_l9 (kk : Nat) (x190 : Int) (x4 : (List (ByteArray × Int × Int × Int × Int))) : Option ((Int ⊕ Unit) ⊕ Int) :=
  cond (decide (x190 < ((List.length x4) : Int))) (
  bnd (idx x4 x190) fun x197 =>
  bnd (m_f42 kk x197.2.2.2.2 0 (w64 (((List.length x4) : Int) - 1))) fun x204 =>
  cond (!x204) (
  some (Sum.inl (Sum.inl 7))) (
  bnd (idx x4 x197.2.2.2.2) fun x207 =>
  cond (x207.2.2.2.2 != x190) (
  (f61_j10 kk true x190)) (
  bnd (m_f110 kk x207.1 x207.2.1 x207.2.2.1 x207.2.2.2.1 x207.2.2.2.2) fun x219 =>
  bnd (m_f111 kk x197.1 x197.2.1 x197.2.2.1 x197.2.2.2.1 x197.2.2.2.2) fun x221 =>
  (f61_j10 kk (!((x219.1 == x221.1) && ((x219.2.1 == x221.2.1) && ((x219.2.2.1 == x221.2.2.1) && ((x219.2.2.2.1 == x221.2.2.2.1) && ((x219.2.2.2.2 == x221.2.2.2.2) && true)))))) x190)))) (
  some (Sum.inl (Sum.inr ())))
def f61_j11 (kk : Nat) : Option Int :=
  some 0
def f61_j6 (kk : Nat) (x4 : (List (ByteArray × Int × Int × Int × Int))) : Option Int :=
  bnd (iter (fun y : Int => f61_l9 kk y x4) kk 0) (Sum.elim some (fun z191 => f61_j11 kk))
def f61_j1 (kk : Nat) (x18 : Bool) (x4 : (List (ByteArray × Int × Int × Int × Int))) : Option Int :=
  cond x18 (
  some 1) (
  cond (decide (((List.length x4) : Int) > 10)) (
  some 3) (
  bnd (iter (fun y : (Int × (List (ByteArray × Bool))) => f61_l4 kk y.1 y.2 x4) kk (0, [])) (Sum.elim some (fun z84 => f61_j6 kk z84))))
def m_f61 (kk : Nat) (x1 : Int) (x2 : Int) (x3 : Int) (x4 : (List (ByteArray × Int × Int × Int × Int))) : Option Int :=
  bnd (m_f42 kk x1 0 2000) fun x10 =>
  cond (!x10) (
  (f61_j1 kk true x4)) (
  bnd (m_f42 kk x2 0 9) fun x13 =>
  cond (!x13) (
  (f61_j1 kk true x4)) (
  bnd (m_f42 kk x3 0 9) fun x16 =>
  (f61_j1 kk (!x16) x4)))
def f65_j1 (kk : Nat) (x1 : Int) (x4 : Int) (x6 : Int) (x12 : Bool) : Option (Int × Int × Bool) :=
  some ((w64 (x1 - x4)), x6, x12)
def m_f65 (kk : Nat) (x1 : Int) (x2 : Int) (x3 : ByteArray) (x4 : Int) (x5 : Int) (x6 : Int) (x7 : Int) : Option (Int × Int × Bool) :=
  cond (x5 == x2) (
  (f65_j1 kk x1 x4 x6 (decide (x4 ≤ x1)))) (
  (f65_j1 kk x1 x4 x6 false))
def f112_j15 (kk : Nat) (x618 : Int) (x683 : (List (List Int))) : Option ((Int × (List (List Int))) ⊕ (Int × (List (List Int)))) :=
  some (Sum.inr ((w64 (x618 + 1)), x683))
def f112_l14 (kk : Nat) (x618 : Int) (x623 : (List (List Int))) (x4 : (List (ByteArray × Int × Int × Int × Int))) (x478 : Int) : Option ((Int × (List (List Int))) ⊕ (Int × (List (List Int)))) :=
  cond (decide (x618 < ((List.length x4) : Int))) (
  bnd (idx x4 x618) fun x631 =>
  bnd (m_f65 kk x478 x631.2.2.1 x631.1 x631.2.1 x631.2.2.1 x631.2.2.2.1 x631.2.2.2.2) fun x638 =>
  cond x638.2.2 (
  bnd (idx x623 x478) fun x660 =>
  grd ((0 : Int) ≤ x631.2.2.1 ∧ x631.2.2.1 < 10) <|
  bnd (idx x623 x638.1) fun x669 =>
  grd ((0 : Int) ≤ x638.2.1 ∧ x638.2.1 < 10) <|
  (f112_j15 kk x618 (List.set x623 (Int.toNat (x478)) (setA 10 x660 x631.2.2.1 (imin (w64 ((List.getD x660 (Int.toNat (x631.2.2.1)) 0) + (List.getD x669 (Int.toNat (x638.2.1)) 0))) 1000000000000001))))) (
  (f112_j15 kk x618 x623))) (
  some (Sum.inl (x478, x623)))
def f112_j16 (kk : Nat) (x478 : Int) (x702 : (List (List Int))) : Option ((List (List Int)) ⊕ (Int × (List (List Int)))) :=
  some (Sum.inr ((w64 (x478 + 1)), x702))
def f112_l11 (kk : Nat) (x478 : Int) (x483 : (List (List Int))) (x1 : Int) (x4 : (List (ByteArray × Int × Int × Int × Int))) : Option ((List (List Int)) ⊕ (Int × (List (List Int)))) :=
  cond (decide (x478 ≤ x1)) (
  bnd (iter (fun y : (Int × (List (List Int))) => f112_l14 kk y.1 y.2 x4 x478) kk (0, x483)) (fun z625 => f112_j16 kk z625.1 z625.2)) (
  some (Sum.inl x483))
def f112_j17 (kk : Nat) (x721 : (List (List Int))) : Option (List (List Int)) :=
  some x721
def m_f112 (kk : Nat) (x1 : Int) (x2 : Int) (x3 : Int) (x4 : (List (ByteArray × Int × Int × Int × Int))) : Option (List (List Int)) :=
  grd ((0 : Int) ≤ (w64 (x1 + 1)) ∧ (w64 (x1 + 1)) ≤ 16777216) <|
  bnd (idx (List.replicate (Int.toNat ((w64 (x1 + 1)))) ((List.replicate 10 (0 : Int)) : (List Int))) (0 : Int)) fun x23 =>
  grd ((0 : Int) ≤ x3 ∧ x3 < 10) <|
  bnd (iter (fun y : (Int × (List (List Int))) => f112_l11 kk y.1 y.2 x1 x4) kk (1, (List.set (List.replicate (Int.toNat ((w64 (x1 + 1)))) ((List.replicate 10 (0 : Int)) : (List Int))) (Int.toNat ((0 : Int))) (setA 10 x23 x3 1)))) (fun z485 => f112_j17 kk z485)
def m_f64 (kk : Nat) (x1 : Int) (x2 : Int) (x3 : Int) (x4 : (List (ByteArray × Int × Int × Int × Int))) : Option (Int × Int) :=
  some (x1, x2)
def m_f66 (kk : Nat) (x1 : (List (List Int))) (x5 : Int) (x6 : Int) : Option Int :=
  bnd (idx x1 x5) fun x17 =>
  grd ((0 : Int) ≤ x6 ∧ x6 < 10) <|
  some (List.getD x17 (Int.toNat (x6)) 0)
def m_f63 (kk : Nat) (x1 : Int) (x2 : Int) (x3 : Int) (x4 : (List (ByteArray × Int × Int × Int × Int))) : Option ((List (List Int)) × Int) :=
  bnd (m_f61 kk x1 x2 x3 x4) fun x11 =>
  cond (x11 != 0) (
  some ([], x11)) (
  bnd (m_f112 kk x1 x2 x3 x4) fun x15 =>
  bnd (m_f64 kk x1 x2 x3 x4) fun x23 =>
  bnd (m_f66 kk x15 x23.1 x23.2) fun x25 =>
  cond (decide (x25 > 1000000000000000)) (
  some ([], 3)) (
  some (x15, 0)))
def m_f25 (kk : Nat) (x1 : Int) (x2 : Int) (x3 : Int) (x4 : (List (ByteArray × Int × Int × Int × Int))) : Option (Int × Int) :=
  bnd (m_f63 kk x1 x2 x3 x4) fun x10 =>
  cond (x10.2 != 0) (
  some (0, x10.2)) (
  bnd (m_f64 kk x1 x2 x3 x4) fun x19 =>
  bnd (m_f66 kk x10.1 x19.1 x19.2) fun x21 =>
  some (x21, 0))
def m_f28 (kk : Nat) : Option (Int × Int × (List (Int × Int))) :=
  some (10, 1, [(5, 2), (3, 2), (2, 1)])
def m_f73 (kk : Nat) (x2 : Int) (x3 : Int) (x4 : Int) (x5 : Int) (x6 : (List (Int × Int))) : Option Bool :=
  some (decide (x2 > x4))
def f115_l1 (kk : Nat) (x47 : Int) (x2 : (List (Int × Int))) (x6 : Int) (x7 : Int) (x8 : (List (Int × Int))) : Option ((Int ⊕ Unit) ⊕ Int) :=
  cond (decide (x47 < ((List.length x2) : Int))) (
  bnd (idx x2 x47) fun x54 =>
  bnd (m_f73 kk x54.1 x54.2 x6 x7 x8) fun x60 =>
  cond x60 (
  some (Sum.inl (Sum.inl x47))) (
  some (Sum.inr (w64 (x47 + 1))))) (
  some (Sum.inl (Sum.inr ())))
def f115_j2 (kk : Nat) : Option Int :=
  some (-1)
def m_f115 (kk : Nat) (x2 : (List (Int × Int))) (x6 : Int) (x7 : Int) (x8 : (List (Int × Int))) : Option Int :=
  bnd (iter (fun y : Int => f115_l1 kk y x2 x6 x7 x8) kk 0) (Sum.elim some (fun z48 => f115_j2 kk))
def m_f72 (kk : Nat) (x2 : (List (Int × Int))) (x6 : Int) (x7 : Int) (x8 : (List (Int × Int))) : Option Bool :=
  bnd (m_f115 kk x2 x6 x7 x8) fun x14 =>
  some (decide (x14 ≥ 0))
def f32_j5 (kk : Nat) (x79 : Bool) (x59 : Int) (x67 : (Int × Int)) (x60 : Int) : Option ((Int ⊕ (Int × (List (Int × Int)) × Int × Int)) ⊕ (Int × Int)) :=
  cond x79 (
  some (Sum.inl (Sum.inl 1))) (
  some (Sum.inr ((w64 (x59 + x67.2)), (w64 (x60 + 1)))))
def f32_l4 (kk : Nat) (x59 : Int) (x60 : Int) (x3 : (List (Int × Int))) (x1 : Int) (x2 : Int) : Option ((Int ⊕ (Int × (List (Int × Int)) × Int × Int)) ⊕ (Int × Int)) :=
  cond (decide (x60 < ((List.length x3) : Int))) (
  bnd (idx x3 x60) fun x67 =>
  bnd (m_f42 kk x67.1 1 100000) fun x74 =>
  cond (!x74) (
  (f32_j5 kk true x59 x67 x60)) (
  bnd (m_f42 kk x67.2 0 12) fun x77 =>
  (f32_j5 kk (!x77) x59 x67 x60))) (
  some (Sum.inl (Sum.inr (x59, x3, x1, x2))))
def f32_j6 (kk : Nat) (x89 : Int) (x3 : (List (Int × Int))) (x1 : Int) (x2 : Int) : Option Int :=
  cond (decide (x89 > 12)) (
  some 3) (
  bnd (m_f72 kk x3 x1 x2 x3) fun x91 =>
  cond x91 (
  some 9) (
  some 0))
def f32_j1 (kk : Nat) (x14 : Bool) (x3 : (List (Int × Int))) (x1 : Int) (x2 : Int) : Option Int :=
  cond x14 (
  some 1) (
  cond (decide (((List.length x3) : Int) > 8)) (
  some 3) (
  bnd (iter (fun y : (Int × Int) => f32_l4 kk y.1 y.2 x3 x1 x2) kk (0, 0)) (Sum.elim some (fun z61 => f32_j6 kk z61.1 z61.2.1 z61.2.2.1 z61.2.2.2))))
def m_f32 (kk : Nat) (x1 : Int) (x2 : Int) (x3 : (List (Int × Int))) : Option Int :=
  bnd (m_f42 kk x1 1 100000) fun x9 =>
  cond (!x9) (
  (f32_j1 kk true x3 x1 x2)) (
  bnd (m_f42 kk x2 0 100000) fun x12 =>
  (f32_j1 kk (!x12) x3 x1 x2))
def f38_l1 (kk : Nat) (x42 : Int) (x43 : (List Int)) (x3 : (List (Int × Int))) : Option ((List Int) ⊕ (Int × (List Int))) :=
  cond (decide (x42 < ((List.length x3) : Int))) (
  bnd (idx x3 x42) fun x51 =>
  grd ((0 : Int) ≤ x42 ∧ x42 < 8) <|
  some (Sum.inr ((w64 (x42 + 1)), (setA 8 x43 x42 x51.2)))) (
  some (Sum.inl x43))
def f38_j2 (kk : Nat) (x68 : (List Int)) : Option (List Int) :=
  some x68
def m_f38 (kk : Nat) (x1 : Int) (x2 : Int) (x3 : (List (Int × Int))) : Option (List Int) :=
  bnd (iter (fun y : (Int × (List Int)) => f38_l1 kk y.1 y.2 x3) kk (0, (List.replicate 8 (0 : Int)))) (fun z45 => f38_j2 kk z45)
def f77_l1 (kk : Nat) (x38 : Int) (x39 : Int) (x3 : (List Int)) (x2 : (List Int)) : Option (Int ⊕ (Int × Int)) :=
  cond (decide (x39 < ((List.length x3) : Int))) (
  bnd (idx x3 x39) fun x46 =>
  grd ((0 : Int) ≤ x39 ∧ x39 < 8) <|
  some (Sum.inr ((w64 (x38 + (w64 (x46 * (List.getD x2 (Int.toNat (x39)) 0))))), (w64 (x39 + 1))))) (
  some (Sum.inl x38))
def f77_j2 (kk : Nat) (x61 : Int) : Option Int :=
  some x61
def m_f77 (kk : Nat) (x2 : (List Int)) (x3 : (List Int)) : Option Int :=
  bnd (iter (fun y : (Int × Int) => f77_l1 kk y.1 y.2 x3 x2) kk (0, 0)) (fun z40 => f77_j2 kk z40)
def m_f36 (kk : Nat) (x1 : Int) (x2 : Int) (x3 : (List (Int × Int))) (x7 : (List Int)) : Option (Int × Int × (List (Int × Int)) × (List Int)) :=
  some (x1, x2, x3, x7)
def m_f43r0 (kk : Nat) (x5 : (List Int)) (x9 : Int) (x10 : (List Int)) : Option (Bool × Int) :=
  bnd (m_f77 kk x5 x10) fun x21 =>
  some (true, (imax x9 x21))
def f75_j4 (kk : Nat) (F_f75 : Int → Int → Int → Int → (List (Int × Int)) → (List Int) → (List Int) → Int → (List Int) → Option (Bool × (List Int) × Int)) (x92 : Bool) (x10 : Int) (x82 : Int) (x12 : Int) (x13 : Int) (x14 : (List (Int × Int))) (x83 : (List Int)) (x19 : (List Int)) (x85 : Int) (x24 : (List Int)) (x43 : (Int × Int)) : Option (((Bool × (List Int) × Int) ⊕ ((List Int) × Int × Int)) ⊕ (Int × (List Int) × Int)) :=
  cond x92 (
  bnd (F_f75 (w64 (x10 + 1)) x82 x12 x13 x14 x83 x19 x85 x24) fun x94 =>
  cond (!x94.1) (
  some (Sum.inl (Sum.inl (false, x94.2.1, x94.2.2)))) (
  some (Sum.inr ((w64 (x82 - (w64 (x43.1 + x13)))), (setA 8 x94.2.1 x10 (w64 ((List.getD x94.2.1 (Int.toNat (x10)) 0) + 1))), x94.2.2)))) (
  some (Sum.inl (Sum.inr (x83, x10, x85))))
def f75_l3 (kk : Nat) (F_f75 : Int → Int → Int → Int → (List (Int × Int)) → (List Int) → (List Int) → Int → (List Int) → Option (Bool × (List Int) × Int)) (x82 : Int) (x83 : (List Int)) (x85 : Int) (x10 : Int) (x19 : (List Int)) (x12 : Int) (x13 : Int) (x14 : (List (Int × Int))) (x24 : (List Int)) (x43 : (Int × Int)) : Option (((Bool × (List Int) × Int) ⊕ ((List Int) × Int × Int)) ⊕ (Int × (List Int) × Int)) :=
  cond (decide ((List.getD x83 (Int.toNat (x10)) 0) ≤ (List.getD x19 (Int.toNat (x10)) 0))) (
  (f75_j4 kk F_f75 (decide (x82 ≥ 0)) x10 x82 x12 x13 x14 x83 x19 x85 x24 x43)) (
  (f75_j4 kk F_f75 false x10 x82 x12 x13 x14 x83 x19 x85 x24 x43))
def f75_j5 (kk : Nat) (F_f75 : Int → Int → Int → Int → (List (Int × Int)) → (List Int) → (List Int) → Int → (List Int) → Option (Bool × (List Int) × Int)) (x110 : (List Int)) (x10 : Int) (x112 : Int) : Option (Bool × (List Int) × Int) :=
  some (true, (setA 8 x110 x10 0), x112)
def m_f75_s (kk : Nat) (F_f75 : Int → Int → Int → Int → (List (Int × Int)) → (List Int) → (List Int) → Int → (List Int) → Option (Bool × (List Int) × Int)) (x10 : Int) (x11 : Int) (x12 : Int) (x13 : Int) (x14 : (List (Int × Int))) (x18 : (List Int)) (x19 : (List Int)) (x23 : Int) (x24 : (List Int)) : Option (Bool × (List Int) × Int) :=
  cond (x10 == ((List.length x14) : Int)) (
  bnd (m_f43r0 kk x18 x23 x24) fun x34 =>
  some (x34.1, x18, x34.2)) (
  bnd (idx x14 x10) fun x43 =>
  grd ((0 : Int) ≤ x10 ∧ x10 < 8) <|
  bnd (iter (fun y : (Int × (List Int) × Int) => f75_l3 kk F_f75 y.1 y.2.1 y.2.2 x10 x19 x12 x13 x14 x24 x43) kk (x11, (setA 8 x18 x10 0), x23)) (Sum.elim some (fun z86 => f75_j5 kk F_f75 z86.1 z86.2.1 z86.2.2)))
def m_f75 (kk : Nat) : Int → Int → Int → Int → (List (Int × Int)) → (List Int) → (List Int) → Int → (List Int) → Option (Bool × (List Int) × Int) :=
  match kk with
  | 0 => fun _ _ _ _ _ _ _ _ _ => none
  | kk + 1 => m_f75_s kk (m_f75 kk)
def m_f74 (kk : Nat) (x10 : Int) (x11 : Int) (x12 : (List (Int × Int))) (x16 : (List Int)) (x17 : Int) (x18 : (List Int)) : Option Int :=
  bnd (m_f75 kk 0 (w64 (x10 + x11)) x10 x11 x12 (List.replicate 8 (0 : Int)) x16 x17 x18) fun x29 =>
  some x29.2.2
def m_f43 (kk : Nat) (x1 : Int) (x2 : Int) (x3 : (List (Int × Int))) (x7 : (List Int)) : Option Int :=
  bnd (m_f38 kk x1 x2 x3) fun x22 =>
  bnd (m_f77 kk x22 x7) fun x25 =>
  cond (x25 == 0) (
  some 0) (
  bnd (m_f38 kk x1 x2 x3) fun x44 =>
  bnd (m_f36 kk x1 x2 x3 x44) fun x47 =>
  bnd (m_f74 kk x47.1 x47.2.1 x47.2.2.1 x47.2.2.2 0 x7) fun x63 =>
  grd (x63 ≠ 0) <|
  some (w64 (Int.tdiv (w64 ((w64 (x25 + x63)) - 1)) x63)))
def f27_l8 (kk : Nat) (x338 : Int) (x343 : (List Int)) (x3 : (List (Int × Int))) (x1 : Int) (x2 : Int) (x272 : Int) (x271 : Int) (x277 : (List Int)) : Option ((Int × Int × (List (Int × Int)) × (List Int) × Int × Int × (List Int)) ⊕ (Int × (List Int))) :=
  cond (decide (x338 < ((List.length x3) : Int))) (
  bnd (idx x3 x338) fun x351 =>
  grd ((w64 (x1 + x2)) ≠ 0) <|
  grd ((List.length (x343 ++ [(w64 (Int.tdiv (w64 (x272 * (w64 (x351.1 + x2)))) (w64 (x1 + x2))))])) ≤ 16777216) <|
  some (Sum.inr ((w64 (x338 + 1)), (x343 ++ [(w64 (Int.tdiv (w64 (x272 * (w64 (x351.1 + x2)))) (w64 (x1 + x2))))])))) (
  some (Sum.inl (x1, x2, x3, x343, x271, x272, x277)))
def f27_j10 (kk : Nat) (x392 : Int) (x272 : Int) (x397 : (List Int)) : Option ((Int × (List Int)) ⊕ (Int × Int × (List Int))) :=
  some (Sum.inr (x392, (w64 (x272 + 1)), x397))
def f27_j9 (kk : Nat) (x1 : Int) (x2 : Int) (x3 : (List (Int × Int))) (x384 : (List Int)) (x271 : Int) (x272 : Int) (x277 : (List Int)) : Option ((Int × (List Int)) ⊕ (Int × Int × (List Int))) :=
  bnd (m_f43 kk x1 x2 x3 x384) fun x389 =>
  cond (decide (x389 > x271)) (
  (f27_j10 kk x389 x272 x384)) (
  (f27_j10 kk x271 x272 x277))
def f27_l7 (kk : Nat) (x271 : Int) (x272 : Int) (x277 : (List Int)) (x3 : (List (Int × Int))) (x1 : Int) (x2 : Int) : Option ((Int × (List Int)) ⊕ (Int × Int × (List Int))) :=
  cond (decide (x272 ≤ 20)) (
  bnd (iter (fun y : (Int × (List Int)) => f27_l8 kk y.1 y.2 x3 x1 x2 x272 x271 x277) kk (0, [])) (fun z345 => f27_j9 kk z345.1 z345.2.1 z345.2.2.1 z345.2.2.2.1 z345.2.2.2.2.1 z345.2.2.2.2.2.1 z345.2.2.2.2.2.2)) (
  some (Sum.inl (x271, x277)))
def f27_j11 (kk : Nat) (x415 : Int) (x420 : (List Int)) : Option (Int × (List Int) × Int) :=
  some (x415, x420, 0)
def m_f27 (kk : Nat) (x1 : Int) (x2 : Int) (x3 : (List (Int × Int))) : Option (Int × (List Int) × Int) :=
  bnd (m_f32 kk x1 x2 x3) fun x10 =>
  cond (x10 != 0) (
  some (0, [], x10)) (
  bnd (iter (fun y : (Int × Int × (List Int)) => f27_l7 kk y.1 y.2.1 y.2.2 x3 x1 x2) kk ((-1), 1, [])) (fun z278 => f27_j11 kk z278.1 z278.2))
def f24_l1 (kk : Nat) (x75 : Int) (x1 : (List Int)) (x5 : (List Int)) : Option ((Bool ⊕ Unit) ⊕ Int) :=
  cond (decide (x75 < ((List.length x1) : Int))) (
  bnd (idx x1 x75) fun x94 =>
  bnd (idx x5 x75) fun x100 =>
  cond (x94 != x100) (
  some (Sum.inl (Sum.inl false))) (
  some (Sum.inr (w64 (x75 + 1))))) (
  some (Sum.inl (Sum.inr ())))
def f24_j2 (kk : Nat) : Option Bool :=
  some true
def m_f24 (kk : Nat) (x1 : (List Int)) (x5 : (List Int)) : Option Bool :=
  cond (((List.length x1) : Int) != ((List.length x5) : Int)) (
  some false) (
  bnd (iter (fun y : Int => f24_l1 kk y x1 x5) kk 0) (Sum.elim some (fun z76 => f24_j2 kk)))
def f7_j1 (kk : Nat) (x41 : Bool) : Option Bool :=
  some x41
def m_f7 (kk : Nat) : Option Bool :=
  bnd (m_f26 kk) fun x1 =>
  bnd (m_f25 kk x1.1 x1.2.1 x1.2.2.1 x1.2.2.2) fun x9 =>
  bnd (m_f28 kk) fun x11 =>
  bnd (m_f27 kk x11.1 x11.2.1 x11.2.2) fun x19 =>
  cond (x9.2 == 0) (
  cond (x9.1 == 21) (
  cond (x19.2.2 == 0) (
  cond (x19.1 == 3) (
  bnd (m_f24 kk x19.2.1 [2, 1, 1]) fun x37 =>
  (f7_j1 kk x37)) (
  (f7_j1 kk false))) (
  (f7_j1 kk false))) (
  (f7_j1 kk false))) (
  (f7_j1 kk false))
def f67_j1 (kk : Nat) (x5 : Bool) : Option Bool :=
  some x5
def m_f67 (kk : Nat) (x1 : Int) (x2 : Int) (x3 : Int) : Option Bool :=
  cond (decide (x2 ≤ x1)) (
  (f67_j1 kk (decide (x1 ≤ x3)))) (
  (f67_j1 kk false))
def f113_l1 (kk : Nat) (x48 : Int) (x1 : (List (Int × Int))) (x5 : Int) (x6 : Int) : Option ((Int ⊕ Unit) ⊕ Int) :=
  cond (decide (x48 < ((List.length x1) : Int))) (
  bnd (idx x1 x48) fun x61 =>
  cond ((x5 == x61.1) && ((x6 == x61.2) && true)) (
  some (Sum.inl (Sum.inl x48))) (
  some (Sum.inr (w64 (x48 + 1))))) (
  some (Sum.inl (Sum.inr ())))
def f113_j2 (kk : Nat) : Option Int :=
  some (-1)
def m_f113 (kk : Nat) (x1 : (List (Int × Int))) (x5 : Int) (x6 : Int) : Option Int :=
  bnd (iter (fun y : Int => f113_l1 kk y x1 x5 x6) kk 0) (Sum.elim some (fun z49 => f113_j2 kk))
def m_f68 (kk : Nat) (x1 : (List (Int × Int))) (x5 : Int) (x6 : Int) : Option Bool :=
  bnd (m_f113 kk x1 x5 x6) fun x9 =>
  some (decide (x9 ≥ 0))
def m_f114 (kk : Nat) (x1 : (List (Int × Int))) : Option (List (Int × Int)) :=
  some x1
def m_f70 (kk : Nat) (x1 : Int) (x2 : Int) (x3 : Int) (x4 : Int) (x5 : Int) (x6 : Int) : Option Int :=
  some (w64 ((w64 ((w64 (x3 - x1)) * (w64 (x6 - x2)))) - (w64 ((w64 (x4 - x2)) * (w64 (x5 - x1))))))
def m_f69r0 (kk : Nat) (x5 : Int) (x6 : Int) (x7 : Int) (x8 : Int) (x12 : Int) (x13 : Int) (x14 : Int) (x15 : Bool) : Option (Bool × Int × Bool) :=
  bnd (m_f70 kk x5 x6 x7 x8 x12 x13) fun x21 =>
  cond (decide (x21 < x14)) (
  some (false, 1, false)) (
  some (true, 0, x15))
def f156_l1 (kk : Nat) (x91 : Int) (x92 : Int) (x93 : Bool) (x10 : (List (Int × Int))) (x14 : Int) (x15 : Int) (x16 : Int) : Option (((Int × Bool) ⊕ (Int × Bool)) ⊕ (Int × Int × Bool)) :=
  cond (decide (x91 < ((List.length x10) : Int))) (
  bnd (idx x10 x91) fun x100 =>
  grd (((List.length x10) : Int) ≠ 0) <|
  bnd (idx x10 (Int.tmod (w64 (x91 + 1)) ((List.length x10) : Int))) fun x118 =>
  grd (x92 = 0) <|
  bnd (m_f69r0 kk x100.1 x100.2 x118.1 x118.2 x14 x15 x16 x93) fun x125 =>
  cond (!x125.1) (
  some (Sum.inl (Sum.inl (x125.2.1, x125.2.2)))) (
  some (Sum.inr ((w64 (x91 + 1)), x125.2.1, x125.2.2)))) (
  some (Sum.inl (Sum.inr (x92, x93))))
def f156_j2 (kk : Nat) (x137 : Int) (x138 : Bool) : Option (Int × Bool) :=
  some (x137, x138)
def m_f156 (kk : Nat) (x6 : Int) (x10 : (List (Int × Int))) (x14 : Int) (x15 : Int) (x16 : Int) (x17 : Bool) : Option (Int × Bool) :=
  bnd (iter (fun y : (Int × Int × Bool) => f156_l1 kk y.1 y.2.1 y.2.2 x10 x14 x15 x16) kk (0, x6, x17)) (Sum.elim some (fun z94 => f156_j2 kk z94.1 z94.2))
def m_f69 (kk : Nat) (x1 : (List (Int × Int))) (x5 : Int) (x6 : Int) (x7 : Int) : Option Bool :=
  bnd (m_f114 kk x1) fun x12 =>
  bnd (m_f156 kk 0 x12 x5 x6 x7 false) fun x26 =>
  cond (x26.1 == 0) (
  some true) (
  cond (x26.1 == 1) (
  some x26.2) (
  none))
def f29_j4 (kk : Nat) (x74 : Bool) (x55 : Int) : Option ((Int ⊕ ((List (Int × Int)) × (List ((Int × Int) × (Int × Int))))) ⊕ Int) :=
  cond x74 (
  some (Sum.inl (Sum.inl 1))) (
  some (Sum.inr (w64 (x55 + 1))))
def f29_l3 (kk : Nat) (x55 : Int) (x1 : (List (Int × Int))) (x5 : (List ((Int × Int) × (Int × Int)))) : Option ((Int ⊕ ((List (Int × Int)) × (List ((Int × Int) × (Int × Int))))) ⊕ Int) :=
  cond (decide (x55 < ((List.length x1) : Int))) (
  bnd (idx x1 x55) fun x62 =>
  bnd (m_f67 kk x62.1 0 400) fun x69 =>
  cond (!x69) (
  (f29_j4 kk true x55)) (
  bnd (m_f67 kk x62.2 0 400) fun x72 =>
  (f29_j4 kk (!x72) x55))) (
  some (Sum.inl (Sum.inr (x1, x5))))
def f29_l6 (kk : Nat) (x132 : Int) (x1 : (List (Int × Int))) (x5 : (List ((Int × Int) × (Int × Int)))) : Option ((Int ⊕ ((List (Int × Int)) × (List ((Int × Int) × (Int × Int))))) ⊕ Int) :=
  cond (decide (x132 < ((List.length x1) : Int))) (
  bnd (idx x1 x132) fun x139 =>
  grd ((0 : Int) ≤ x132 ∧ x132 ≤ ((List.length x1 : Nat) : Int)) <|
  bnd (m_f68 kk (List.take (Int.toNat (x132)) x1) x139.1 x139.2) fun x154 =>
  cond x154 (
  some (Sum.inl (Sum.inl 6))) (
  some (Sum.inr (w64 (x132 + 1))))) (
  some (Sum.inl (Sum.inr (x1, x5))))
def f29_j13 (kk : Nat) (x348 : Bool) (x287 : Int) : Option ((Int ⊕ (Bool × (List ((Int × Int) × (Int × Int))) × (List (Int × Int)))) ⊕ (Bool × Int)) :=
  some (Sum.inr (x348, (w64 (x287 + 1))))
def f29_j12 (kk : Nat) (x343 : Bool) (x286 : Bool) (x294 : (Int × Int)) (x318 : (Int × Int)) (x325 : (Int × Int)) (x287 : Int) : Option ((Int ⊕ (Bool × (List ((Int × Int) × (Int × Int))) × (List (Int × Int)))) ⊕ (Bool × Int)) :=
  cond x343 (
  some (Sum.inl (Sum.inl 9))) (
  cond x286 (
  bnd (m_f70 kk x294.1 x294.2 x318.1 x318.2 x325.1 x325.2) fun x346 =>
  (f29_j13 kk (x346 == 0) x287)) (
  (f29_j13 kk false x287)))
def f29_l11 (kk : Nat) (x286 : Bool) (x287 : Int) (x1 : (List (Int × Int))) (x5 : (List ((Int × Int) × (Int × Int)))) : Option ((Int ⊕ (Bool × (List ((Int × Int) × (Int × Int))) × (List (Int × Int)))) ⊕ (Bool × Int)) :=
  cond (decide (x287 < ((List.length x1) : Int))) (
  bnd (idx x1 x287) fun x294 =>
  grd (((List.length x1) : Int) ≠ 0) <|
  bnd (idx x1 (Int.tmod (w64 (x287 + 1)) ((List.length x1) : Int))) fun x318 =>
  grd (((List.length x1) : Int) ≠ 0) <|
  bnd (idx x1 (Int.tmod (w64 (x287 + 2)) ((List.length x1) : Int))) fun x325 =>
  bnd (m_f69 kk x1 x294.1 x294.2 0) fun x337 =>
  cond (!x337) (
  (f29_j12 kk true x286 x294 x318 x325 x287)) (
  bnd (m_f70 kk x294.1 x294.2 x318.1 x318.2 x325.1 x325.2) fun x340 =>
  cond (x340 == 0) (
  (f29_j12 kk (decide ((w64 ((w64 ((w64 (x318.1 - x294.1)) * (w64 (x325.1 - x318.1)))) + (w64 ((w64 (x318.2 - x294.2)) * (w64 (x325.2 - x318.2)))))) < 0)) x286 x294 x318 x325 x287)) (
  (f29_j12 kk false x286 x294 x318 x325 x287)))) (
  some (Sum.inl (Sum.inr (x286, x5, x1))))
def f29_j42 (kk : Nat) (x773 : Bool) (x750 : Int) : Option ((Int ⊕ (Int × (List ((Int × Int) × (Int × Int))) × ((Int × Int) × (Int × Int)))) ⊕ Int) :=
  cond x773 (
  some (Sum.inl (Sum.inl 9))) (
  some (Sum.inr (w64 (x750 + 1))))
def f29_l41 (kk : Nat) (x750 : Int) (x688 : ((Int × Int) × (Int × Int))) (x1 : (List (Int × Int))) (x681 : Int) (x5 : (List ((Int × Int) × (Int × Int)))) : Option ((Int ⊕ (Int × (List ((Int × Int) × (Int × Int))) × ((Int × Int) × (Int × Int)))) ⊕ Int) :=
  cond (decide (x750 < (4 : Int))) (
  bnd (idx [(x688.1.1, x688.1.2), (x688.2.1, x688.2.2), (x688.1.1, x688.2.2), (x688.2.1, x688.1.2)] x750) fun x757 =>
  bnd (m_f67 kk x757.1 0 400) fun x765 =>
  cond (!x765) (
  (f29_j42 kk true x750)) (
  bnd (m_f67 kk x757.2 0 400) fun x768 =>
  cond (!x768) (
  (f29_j42 kk true x750)) (
  bnd (m_f69 kk x1 x757.1 x757.2 1) fun x771 =>
  (f29_j42 kk (!x771) x750)))) (
  some (Sum.inl (Sum.inr (x681, x5, x688))))
def f29_j47 (kk : Nat) (x833 : Bool) (x818 : Int) : Option ((Int ⊕ Int) ⊕ Int) :=
  cond x833 (
  some (Sum.inl (Sum.inl 10))) (
  some (Sum.inr (w64 (x818 + 1))))
def f29_l46 (kk : Nat) (x818 : Int) (x681 : Int) (x5 : (List ((Int × Int) × (Int × Int)))) (x688 : ((Int × Int) × (Int × Int))) : Option ((Int ⊕ Int) ⊕ Int) :=
  cond (decide (x818 < ((List.length (List.take (Int.toNat (x681)) x5)) : Int))) (
  bnd (idx (List.take (Int.toNat (x681)) x5) x818) fun x825 =>
  cond (decide ((imax x825.1.1 x688.1.1) ≤ (imin x825.2.1 x688.2.1))) (
  (f29_j47 kk (decide ((imax x825.1.2 x688.1.2) ≤ (imin x825.2.2 x688.2.2))) x818)) (
  (f29_j47 kk false x818))) (
  some (Sum.inl (Sum.inr x681)))
def f29_j48 (kk : Nat) (x681 : Int) : Option ((Int ⊕ Unit) ⊕ Int) :=
  some (Sum.inr (w64 (x681 + 1)))
def f29_j43 (kk : Nat) (x681 : Int) (x5 : (List ((Int × Int) × (Int × Int)))) (x688 : ((Int × Int) × (Int × Int))) : Option ((Int ⊕ Unit) ⊕ Int) :=
  grd ((0 : Int) ≤ x681 ∧ x681 ≤ ((List.length x5 : Nat) : Int)) <|
  bnd (iter (fun y : Int => f29_l46 kk y x681 x5 x688) kk 0) (Sum.elim (fun z819 => some (Sum.inl (Sum.inl z819))) (fun z819 => f29_j48 kk z819))
def f29_j38 (kk : Nat) (x696 : Bool) (x688 : ((Int × Int) × (Int × Int))) (x1 : (List (Int × Int))) (x681 : Int) (x5 : (List ((Int × Int) × (Int × Int)))) : Option ((Int ⊕ Unit) ⊕ Int) :=
  cond x696 (
  some (Sum.inl (Sum.inl 1))) (
  bnd (iter (fun y : Int => f29_l41 kk y x688 x1 x681 x5) kk 0) (Sum.elim (fun z751 => some (Sum.inl (Sum.inl z751))) (fun z751 => f29_j43 kk z751.1 z751.2.1 z751.2.2)))
def f29_l37 (kk : Nat) (x681 : Int) (x5 : (List ((Int × Int) × (Int × Int)))) (x1 : (List (Int × Int))) : Option ((Int ⊕ Unit) ⊕ Int) :=
  cond (decide (x681 < ((List.length x5) : Int))) (
  bnd (idx x5 x681) fun x688 =>
  cond (decide (x688.1.1 ≥ x688.2.1)) (
  (f29_j38 kk true x688 x1 x681 x5)) (
  (f29_j38 kk (decide (x688.1.2 ≥ x688.2.2)) x688 x1 x681 x5))) (
  some (Sum.inl (Sum.inr ())))
def f29_j49 (kk : Nat) : Option Int :=
  some 0
def f29_j14 (kk : Nat) (x357 : Bool) (x5 : (List ((Int × Int) × (Int × Int)))) (x1 : (List (Int × Int))) : Option Int :=
  cond x357 (
  some 9) (
  cond (decide (((List.length x5) : Int) > 6)) (
  some 3) (
  bnd (iter (fun y : Int => f29_l37 kk y x5 x1) kk 0) (Sum.elim some (fun z682 => f29_j49 kk))))
def f29_j7 (kk : Nat) (x1 : (List (Int × Int))) (x5 : (List ((Int × Int) × (Int × Int)))) : Option Int :=
  bnd (iter (fun y : (Bool × Int) => f29_l11 kk y.1 y.2 x1 x5) kk (true, 0)) (Sum.elim some (fun z288 => f29_j14 kk z288.1 z288.2.1 z288.2.2))
def f29_j5 (kk : Nat) (x1 : (List (Int × Int))) (x5 : (List ((Int × Int) × (Int × Int)))) : Option Int :=
  bnd (iter (fun y : Int => f29_l6 kk y x1 x5) kk 0) (Sum.elim some (fun z133 => f29_j7 kk z133.1 z133.2))
def m_f29 (kk : Nat) (x1 : (List (Int × Int))) (x5 : (List ((Int × Int) × (Int × Int)))) : Option Int :=
  cond (decide (((List.length x1) : Int) > 12)) (
  some 3) (
  cond (decide (((List.length x1) : Int) < 3)) (
  some 1) (
  bnd (iter (fun y : Int => f29_l3 kk y x1 x5) kk 0) (Sum.elim some (fun z56 => f29_j5 kk z56.1 z56.2))))
def f71_j1 (kk : Nat) (x8 : Bool) : Option Bool :=
  some x8
def m_f71 (kk : Nat) (x1 : Int) (x2 : Int) (x3 : Int) (x4 : Int) : Option Bool :=
  cond (decide (x3 ≤ x1)) (
  cond (decide (x1 ≤ x2)) (
  (f71_j1 kk (decide (x2 ≤ x4)))) (
  (f71_j1 kk false))) (
  (f71_j1 kk false))
def f30_j1 (kk : Nat) (x27 : Bool) : Option Int :=
  cond x27 (
  some 1) (
  some 0)
def m_f30 (kk : Nat) (x1 : Int) (x2 : Int) (x3 : Int) (x4 : Int) (x5 : Int) (x6 : Int) (x7 : Int) (x8 : Int) : Option Int :=
  bnd (m_f67 kk x1 1 96) fun x10 =>
  cond (!x10) (
  (f30_j1 kk true)) (
  bnd (m_f71 kk x2 x3 (-400) 0) fun x13 =>
  cond (!x13) (
  (f30_j1 kk true)) (
  bnd (m_f71 kk x4 x5 1 100) fun x16 =>
  cond (!x16) (
  (f30_j1 kk true)) (
  bnd (m_f67 kk x6 0 100) fun x19 =>
  cond (!x19) (
  (f30_j1 kk true)) (
  bnd (m_f67 kk x7 0 100) fun x22 =>
  cond (!x22) (
  (f30_j1 kk true)) (
  bnd (m_f67 kk x8 0 50) fun x25 =>
  (f30_j1 kk (!x25)))))))
def f31_j1 (kk : Nat) (x26 : Bool) : Option Bool :=
  some x26
def m_f31 (kk : Nat) (x1 : Int) (x2 : Int) (x3 : Int) (x4 : Int) (x5 : Int) (x6 : Int) : Option Bool :=
  bnd (m_f67 kk x1 (-400) 400) fun x8 =>
  cond x8 (
  bnd (m_f67 kk x2 1 100) fun x11 =>
  cond x11 (
  bnd (m_f67 kk x3 1 100) fun x14 =>
  cond x14 (
  bnd (m_f67 kk x4 (-50) 50) fun x17 =>
  cond x17 (
  bnd (m_f67 kk x5 0 100) fun x20 =>
  cond x20 (
  cond (decide ((w64 (2 * x5)) < x2)) (
  bnd (m_f67 kk x6 1 1000) fun x24 =>
  (f31_j1 kk x24)) (
  (f31_j1 kk false))) (
  (f31_j1 kk false))) (
  (f31_j1 kk false))) (
  (f31_j1 kk false))) (
  (f31_j1 kk false))) (
  (f31_j1 kk false))
def f8_l5 (kk : Nat) (x88 : Int) (x89 : Int) (x90 : Int) (x1 : (List (Int × Int))) (x17 : Int) (x18 : Int) (x19 : Int) (x20 : Int) (x13 : Int) (x9 : Int) (x14 : Int) (x11 : Int) : Option ((Int × Int × Int × Int × Int × Int × Int × Int × Int × Int) ⊕ (Int × Int × Int)) :=
  cond (decide (x88 < ((List.length x1) : Int))) (
  bnd (idx x1 x88) fun x98 =>
  some (Sum.inr ((w64 (x88 + 1)), (imax x89 x98.1), (imax x90 x98.2)))) (
  some (Sum.inl (x90, x17, x18, x19, x20, x89, x13, x9, x14, x11)))
def f8_l15 (kk : Nat) (x450 : Int) (x451 : Int) (x457 : (List (Int × Int × Int × Int × Int × Int))) (x17 : Int) (x18 : Int) (x19 : Int) (x20 : Int) (x115 : Int) (x391 : (List (Int × (List (Int × Int × Int × Int × Int × Int))))) (x384 : Int) (x13 : Int) (x9 : Int) (x14 : Int) : Option ((((List (Int × (List (Int × Int × Int × Int × Int × Int)))) × Int) ⊕ ((List (Int × (List (Int × Int × Int × Int × Int × Int)))) × Int × (List (Int × Int × Int × Int × Int × Int)) × Int × Int × Int × Int × Int)) ⊕ (Int × Int × (List (Int × Int × Int × Int × Int × Int)))) :=
  grd ((List.length (x457 ++ [(x451, (x17, (x18, (0, (x19, x20)))))])) ≤ 16777216) <|
  cond (decide ((w64 (x450 + 1)) > 96)) (
  some (Sum.inl (Sum.inl ([], 3)))) (
  cond (decide ((w64 ((w64 (x451 + x17)) - x19)) ≥ x115)) (
  some (Sum.inl (Sum.inr (x391, x384, (x457 ++ [(x451, (x17, (x18, (0, (x19, x20)))))]), (w64 (x450 + 1)), x13, x18, x9, x451)))) (
  some (Sum.inr ((w64 (x450 + 1)), (w64 (x451 + (w64 (x17 - (imax x14 (w64 (2 * x19))))))), (x457 ++ [(x451, (x17, (x18, (0, (x19, x20)))))])))))
def f8_j16 (kk : Nat) (x391 : (List (Int × (List (Int × Int × Int × Int × Int × Int))))) (x384 : Int) (x497 : (List (Int × Int × Int × Int × Int × Int))) (x490 : Int) (x13 : Int) (x18 : Int) (x9 : Int) (x491 : Int) : Option ((((List (Int × (List (Int × Int × Int × Int × Int × Int)))) × Int) ⊕ (List (Int × (List (Int × Int × Int × Int × Int × Int))))) ⊕ (Int × Int × Int × (List (Int × (List (Int × Int × Int × Int × Int × Int)))))) :=
  grd ((List.length (x391 ++ [(x384, x497)])) ≤ 16777216) <|
  cond (decide (((List.length (x391 ++ [(x384, x497)])) : Int) > 24)) (
  some (Sum.inl (Sum.inl ([], 3)))) (
  some (Sum.inr (x490, (w64 (x384 + (imin x13 (w64 (Int.tdiv x18 x9))))), x491, (x391 ++ [(x384, x497)]))))
def f8_j14 (kk : Nat) (x17 : Int) (x18 : Int) (x19 : Int) (x20 : Int) (x115 : Int) (x391 : (List (Int × (List (Int × Int × Int × Int × Int × Int))))) (x384 : Int) (x13 : Int) (x9 : Int) (x14 : Int) (x383 : Int) (x403 : Int) : Option ((((List (Int × (List (Int × Int × Int × Int × Int × Int)))) × Int) ⊕ (List (Int × (List (Int × Int × Int × Int × Int × Int))))) ⊕ (Int × Int × Int × (List (Int × (List (Int × Int × Int × Int × Int × Int)))))) :=
  bnd (iter (fun y : (Int × Int × (List (Int × Int × Int × Int × Int × Int))) => f8_l15 kk y.1 y.2.1 y.2.2 x17 x18 x19 x20 x115 x391 x384 x13 x9 x14) kk (x383, x403, [])) (Sum.elim (fun z459 => some (Sum.inl (Sum.inl z459))) (fun z459 => f8_j16 kk z459.1 z459.2.1 z459.2.2.1 z459.2.2.2.1 z459.2.2.2.2.1 z459.2.2.2.2.2.1 z459.2.2.2.2.2.2.1 z459.2.2.2.2.2.2.2))
def f8_l13 (kk : Nat) (x383 : Int) (x384 : Int) (x385 : Int) (x391 : (List (Int × (List (Int × Int × Int × Int × Int × Int))))) (x116 : Int) (x17 : Int) (x18 : Int) (x19 : Int) (x20 : Int) (x115 : Int) (x13 : Int) (x9 : Int) (x14 : Int) : Option ((((List (Int × (List (Int × Int × Int × Int × Int × Int)))) × Int) ⊕ (List (Int × (List (Int × Int × Int × Int × Int × Int))))) ⊕ (Int × Int × Int × (List (Int × (List (Int × Int × Int × Int × Int × Int)))))) :=
  cond (decide (x384 ≤ x116)) (
  cond ((Int.tmod ((List.length x391) : Int) 2) == 1) (
  (f8_j14 kk x17 x18 x19 x20 x115 x391 x384 x13 x9 x14 x383 (w64 ((w64 (0 - x19)) + (w64 ((w64 (Int.tdiv (w64 (x17 - (imax x14 (w64 (2 * x19))))) 2)) - (w64 (x17 - (imax x14 (w64 (2 * x19))))))))))) (
  (f8_j14 kk x17 x18 x19 x20 x115 x391 x384 x13 x9 x14 x383 (w64 (0 - x19))))) (
  some (Sum.inl (Sum.inr x391)))
def f8_j17 (kk : Nat) (x538 : (List (Int × (List (Int × Int × Int × Int × Int × Int))))) : Option ((List (Int × (List (Int × Int × Int × Int × Int × Int)))) × Int) :=
  some (x538, 0)
def f8_j6 (kk : Nat) (x116 : Int) (x17 : Int) (x18 : Int) (x19 : Int) (x20 : Int) (x115 : Int) (x13 : Int) (x9 : Int) (x14 : Int) (x11 : Int) : Option ((List (Int × (List (Int × Int × Int × Int × Int × Int)))) × Int) :=
  bnd (iter (fun y : (Int × Int × Int × (List (Int × (List (Int × Int × Int × Int × Int × Int))))) => f8_l13 kk y.1 y.2.1 y.2.2.1 y.2.2.2 x116 x17 x18 x19 x20 x115 x13 x9 x14) kk (0, (imin x11 (w64 ((w64 (0 - (w64 (x9 - 1)))) * (imin x13 (w64 (Int.tdiv x18 x9)))))), 0, [])) (Sum.elim some (fun z393 => f8_j17 kk z393))
def f8_j4 (kk : Nat) (x50 : Bool) (x11 : Int) (x9 : Int) (x13 : Int) (x18 : Int) (x10 : Int) (x1 : (List (Int × Int))) (x17 : Int) (x19 : Int) (x20 : Int) (x14 : Int) : Option ((List (Int × (List (Int × Int × Int × Int × Int × Int)))) × Int) :=
  cond x50 (
  some ([], 9)) (
  cond (decide ((imin x11 (w64 ((w64 (0 - (w64 (x9 - 1)))) * (imin x13 (w64 (Int.tdiv x18 x9)))))) < x10)) (
  some ([], 9)) (
  bnd (iter (fun y : (Int × Int × Int) => f8_l5 kk y.1 y.2.1 y.2.2 x1 x17 x18 x19 x20 x13 x9 x14 x11) kk (0, 0, 0)) (fun z92 => f8_j6 kk z92.1 z92.2.1 z92.2.2.1 z92.2.2.2.1 z92.2.2.2.2.1 z92.2.2.2.2.2.1 z92.2.2.2.2.2.2.1 z92.2.2.2.2.2.2.2.1 z92.2.2.2.2.2.2.2.2.1 z92.2.2.2.2.2.2.2.2.2)))
def f8_j3 (kk : Nat) (x42 : Int) (x9 : Int) (x13 : Int) (x18 : Int) (x12 : Int) (x11 : Int) (x10 : Int) (x1 : (List (Int × Int))) (x17 : Int) (x19 : Int) (x20 : Int) (x14 : Int) (x15 : Int) : Option ((List (Int × (List (Int × Int × Int × Int × Int × Int)))) × Int) :=
  cond (x42 != 0) (
  some ([], x42)) (
  grd (x9 ≠ 0) <|
  cond (decide ((imin x13 (w64 (Int.tdiv x18 x9))) < x12)) (
  (f8_j4 kk true x11 x9 x13 x18 x10 x1 x17 x19 x20 x14)) (
  cond (decide ((w64 (x17 - (imax x14 (w64 (2 * x19))))) < 1)) (
  (f8_j4 kk true x11 x9 x13 x18 x10 x1 x17 x19 x20 x14)) (
  (f8_j4 kk (decide ((w64 (Int.tdiv (w64 (x17 - (imax x14 (w64 (2 * x19))))) 2)) < x15)) x11 x9 x13 x18 x10 x1 x17 x19 x20 x14))))
def f8_j2 (kk : Nat) (x39 : Bool) (x9 : Int) (x13 : Int) (x18 : Int) (x12 : Int) (x11 : Int) (x10 : Int) (x1 : (List (Int × Int))) (x17 : Int) (x19 : Int) (x20 : Int) (x14 : Int) (x15 : Int) (x33 : Int) : Option ((List (Int × (List (Int × Int × Int × Int × Int × Int)))) × Int) :=
  cond x39 (
  (f8_j3 kk 1 x9 x13 x18 x12 x11 x10 x1 x17 x19 x20 x14 x15)) (
  (f8_j3 kk x33 x9 x13 x18 x12 x11 x10 x1 x17 x19 x20 x14 x15))
def f8_j1 (kk : Nat) (x33 : Int) (x17 : Int) (x18 : Int) (x19 : Int) (x20 : Int) (x9 : Int) (x13 : Int) (x12 : Int) (x11 : Int) (x10 : Int) (x1 : (List (Int × Int))) (x14 : Int) (x15 : Int) : Option ((List (Int × (List (Int × Int × Int × Int × Int × Int)))) × Int) :=
  cond (x33 == 0) (
  bnd (m_f31 kk 0 x17 x18 0 x19 x20) fun x37 =>
  (f8_j2 kk (!x37) x9 x13 x18 x12 x11 x10 x1 x17 x19 x20 x14 x15 x33)) (
  (f8_j2 kk false x9 x13 x18 x12 x11 x10 x1 x17 x19 x20 x14 x15 x33))
def m_f8 (kk : Nat) (x1 : (List (Int × Int))) (x5 : (List ((Int × Int) × (Int × Int)))) (x9 : Int) (x10 : Int) (x11 : Int) (x12 : Int) (x13 : Int) (x14 : Int) (x15 : Int) (x16 : Int) (x17 : Int) (x18 : Int) (x19 : Int) (x20 : Int) : Option ((List (Int × (List (Int × Int × Int × Int × Int × Int)))) × Int) :=
  bnd (m_f29 kk x1 x5) fun x28 =>
  cond (x28 == 0) (
  bnd (m_f30 kk x9 x10 x11 x12 x13 x14 x15 x16) fun x31 =>
  (f8_j1 kk x31 x17 x18 x19 x20 x9 x13 x12 x11 x10 x1 x14 x15)) (
  (f8_j1 kk x28 x17 x18 x19 x20 x9 x13 x12 x11 x10 x1 x14 x15))
def m_f35 (kk : Nat) (x1 : Int) : Option Bool :=
  some (decide (x1 > 0))
def f34_l1 (kk : Nat) (x40 : Int) (x2 : (List Int)) : Option ((Int ⊕ Unit) ⊕ Int) :=
  cond (decide (x40 < ((List.length x2) : Int))) (
  bnd (idx x2 x40) fun x47 =>
  bnd (m_f35 kk x47) fun x54 =>
  cond x54 (
  some (Sum.inl (Sum.inl x40))) (
  some (Sum.inr (w64 (x40 + 1))))) (
  some (Sum.inl (Sum.inr ())))
def f34_j2 (kk : Nat) : Option Int :=
  some (-1)
def m_f34 (kk : Nat) (x2 : (List Int)) : Option Int :=
  bnd (iter (fun y : Int => f34_l1 kk y x2) kk 0) (Sum.elim some (fun z41 => f34_j2 kk))
def f33r0_l1 (kk : Nat) (F_f37 : (List Int) → Int → Int → (List (Int × Int)) → (List ((List Int) × ((List Int) × Int))) → Option ((List Int) × Int × (List ((List Int) × ((List Int) × Int))))) (x51 : Int) (x52 : (List Int)) (x9 : (List Int)) (x18 : Int) (x19 : Int) (x20 : (List (Int × Int))) (x17 : (List ((List Int) × ((List Int) × Int)))) (x16 : Int) (x15 : (List Int)) : Option (((List Int) × Int × Int × (List (Int × Int)) × (List ((List Int) × ((List Int) × Int))) × Int × (List Int) × (List Int)) ⊕ (Int × (List Int))) :=
  cond (decide (x51 < 8)) (
  grd ((0 : Int) ≤ x51 ∧ x51 < 8) <|
  some (Sum.inr ((w64 (x51 + 1)), (setA 8 x52 x51 (w64 ((List.getD x52 (Int.toNat (x51)) 0) - (List.getD x9 (Int.toNat (x51)) 0))))))) (
  some (Sum.inl (x52, x18, x19, x20, x17, x16, x9, x15)))
def f33r0_j4 (kk : Nat) (F_f37 : (List Int) → Int → Int → (List (Int × Int)) → (List ((List Int) × ((List Int) × Int))) → Option ((List Int) × Int × (List ((List Int) × ((List Int) × Int))))) (x80 : (List Int)) (x82 : Int) (x83 : (List ((List Int) × ((List Int) × Int)))) : Option (Bool × (List Int) × Int × (List ((List Int) × ((List Int) × Int)))) :=
  some (true, x80, x82, x83)
def f33r0_j3 (kk : Nat) (F_f37 : (List Int) → Int → Int → (List (Int × Int)) → (List ((List Int) × ((List Int) × Int))) → Option ((List Int) × Int × (List ((List Int) × ((List Int) × Int))))) (x77 : (List Int)) (x79 : Int) (x72 : ((List Int) × Int × (List ((List Int) × ((List Int) × Int))))) : Option (Bool × (List Int) × Int × (List ((List Int) × ((List Int) × Int)))) :=
  (f33r0_j4 kk F_f37 x77 x79 x72.2.2)
def f33r0_j2 (kk : Nat) (F_f37 : (List Int) → Int → Int → (List (Int × Int)) → (List ((List Int) × ((List Int) × Int))) → Option ((List Int) × Int × (List ((List Int) × ((List Int) × Int))))) (x70 : (List Int)) (x18 : Int) (x19 : Int) (x20 : (List (Int × Int))) (x17 : (List ((List Int) × ((List Int) × Int)))) (x16 : Int) (x9 : (List Int)) (x15 : (List Int)) : Option (Bool × (List Int) × Int × (List ((List Int) × ((List Int) × Int)))) :=
  bnd (F_f37 x70 x18 x19 x20 x17) fun x72 =>
  cond (decide ((w64 (1 + x72.2.1)) < x16)) (
  (f33r0_j3 kk F_f37 x9 (w64 (1 + x72.2.1)) x72)) (
  (f33r0_j3 kk F_f37 x15 x16 x72))
def m_f33r0 (kk : Nat) (F_f37 : (List Int) → Int → Int → (List (Int × Int)) → (List ((List Int) × ((List Int) × Int))) → Option ((List Int) × Int × (List ((List Int) × ((List Int) × Int))))) (x9 : (List Int)) (x13 : (List Int)) (x14 : Int) (x15 : (List Int)) (x16 : Int) (x17 : (List ((List Int) × ((List Int) × Int)))) (x18 : Int) (x19 : Int) (x20 : (List (Int × Int))) : Option (Bool × (List Int) × Int × (List ((List Int) × ((List Int) × Int)))) :=
  grd ((0 : Int) ≤ x14 ∧ x14 < 8) <|
  cond ((List.getD x9 (Int.toNat (x14)) 0) == 0) (
  (f33r0_j4 kk F_f37 x15 x16 x17)) (
  bnd (iter (fun y : (Int × (List Int)) => f33r0_l1 kk F_f37 y.1 y.2 x9 x18 x19 x20 x17 x16 x15) kk (0, x13)) (fun z54 => f33r0_j2 kk F_f37 z54.1 z54.2.1 z54.2.2.1 z54.2.2.2.1 z54.2.2.2.2.1 z54.2.2.2.2.2.1 z54.2.2.2.2.2.2.1 z54.2.2.2.2.2.2.2))
def f75_1_j4 (kk : Nat) (F_f37 : (List Int) → Int → Int → (List (Int × Int)) → (List ((List Int) × ((List Int) × Int))) → Option ((List Int) × Int × (List ((List Int) × ((List Int) × Int))))) (F_f75_1 : Int → Int → Int → Int → (List (Int × Int)) → (List Int) → (List Int) → (List Int) → Int → (List Int) → Int → (List ((List Int) × ((List Int) × Int))) → Int → Int → (List (Int × Int)) → Option (Bool × (List Int) × (List Int) × Int × (List ((List Int) × ((List Int) × Int))))) (x113 : Bool) (x14 : Int) (x100 : Int) (x16 : Int) (x17 : Int) (x18 : (List (Int × Int))) (x101 : (List Int)) (x23 : (List Int)) (x27 : (List Int)) (x28 : Int) (x103 : (List Int)) (x105 : Int) (x106 : (List ((List Int) × ((List Int) × Int)))) (x32 : Int) (x33 : Int) (x34 : (List (Int × Int))) (x56 : (Int × Int)) : Option (((Bool × (List Int) × (List Int) × Int × (List ((List Int) × ((List Int) × Int)))) ⊕ ((List Int) × Int × (List Int) × Int × (List ((List Int) × ((List Int) × Int))))) ⊕ (Int × (List Int) × (List Int) × Int × (List ((List Int) × ((List Int) × Int))))) :=
  cond x113 (
  bnd (F_f75_1 (w64 (x14 + 1)) x100 x16 x17 x18 x101 x23 x27 x28 x103 x105 x106 x32 x33 x34) fun x115 =>
  cond (!x115.1) (
  some (Sum.inl (Sum.inl (false, x115.2.1, x115.2.2.1, x115.2.2.2.1, x115.2.2.2.2)))) (
  some (Sum.inr ((w64 (x100 - (w64 (x56.1 + x17)))), (setA 8 x115.2.1 x14 (w64 ((List.getD x115.2.1 (Int.toNat (x14)) 0) + 1))), x115.2.2.1, x115.2.2.2.1, x115.2.2.2.2)))) (
  some (Sum.inl (Sum.inr (x101, x14, x103, x105, x106))))
def f75_1_l3 (kk : Nat) (F_f37 : (List Int) → Int → Int → (List (Int × Int)) → (List ((List Int) × ((List Int) × Int))) → Option ((List Int) × Int × (List ((List Int) × ((List Int) × Int))))) (F_f75_1 : Int → Int → Int → Int → (List (Int × Int)) → (List Int) → (List Int) → (List Int) → Int → (List Int) → Int → (List ((List Int) × ((List Int) × Int))) → Int → Int → (List (Int × Int)) → Option (Bool × (List Int) × (List Int) × Int × (List ((List Int) × ((List Int) × Int))))) (x100 : Int) (x101 : (List Int)) (x103 : (List Int)) (x105 : Int) (x106 : (List ((List Int) × ((List Int) × Int)))) (x14 : Int) (x23 : (List Int)) (x16 : Int) (x17 : Int) (x18 : (List (Int × Int))) (x27 : (List Int)) (x28 : Int) (x32 : Int) (x33 : Int) (x34 : (List (Int × Int))) (x56 : (Int × Int)) : Option (((Bool × (List Int) × (List Int) × Int × (List ((List Int) × ((List Int) × Int)))) ⊕ ((List Int) × Int × (List Int) × Int × (List ((List Int) × ((List Int) × Int))))) ⊕ (Int × (List Int) × (List Int) × Int × (List ((List Int) × ((List Int) × Int))))) :=
  cond (decide ((List.getD x101 (Int.toNat (x14)) 0) ≤ (List.getD x23 (Int.toNat (x14)) 0))) (
  (f75_1_j4 kk F_f37 F_f75_1 (decide (x100 ≥ 0)) x14 x100 x16 x17 x18 x101 x23 x27 x28 x103 x105 x106 x32 x33 x34 x56)) (
  (f75_1_j4 kk F_f37 F_f75_1 false x14 x100 x16 x17 x18 x101 x23 x27 x28 x103 x105 x106 x32 x33 x34 x56))
def f75_1_j5 (kk : Nat) (F_f37 : (List Int) → Int → Int → (List (Int × Int)) → (List ((List Int) × ((List Int) × Int))) → Option ((List Int) × Int × (List ((List Int) × ((List Int) × Int))))) (F_f75_1 : Int → Int → Int → Int → (List (Int × Int)) → (List Int) → (List Int) → (List Int) → Int → (List Int) → Int → (List ((List Int) × ((List Int) × Int))) → Int → Int → (List (Int × Int)) → Option (Bool × (List Int) × (List Int) × Int × (List ((List Int) × ((List Int) × Int))))) (x135 : (List Int)) (x14 : Int) (x137 : (List Int)) (x139 : Int) (x140 : (List ((List Int) × ((List Int) × Int)))) : Option (Bool × (List Int) × (List Int) × Int × (List ((List Int) × ((List Int) × Int)))) :=
  some (true, (setA 8 x135 x14 0), x137, x139, x140)
def m_f75_1_s (kk : Nat) (F_f37 : (List Int) → Int → Int → (List (Int × Int)) → (List ((List Int) × ((List Int) × Int))) → Option ((List Int) × Int × (List ((List Int) × ((List Int) × Int))))) (F_f75_1 : Int → Int → Int → Int → (List (Int × Int)) → (List Int) → (List Int) → (List Int) → Int → (List Int) → Int → (List ((List Int) × ((List Int) × Int))) → Int → Int → (List (Int × Int)) → Option (Bool × (List Int) × (List Int) × Int × (List ((List Int) × ((List Int) × Int))))) (x14 : Int) (x15 : Int) (x16 : Int) (x17 : Int) (x18 : (List (Int × Int))) (x22 : (List Int)) (x23 : (List Int)) (x27 : (List Int)) (x28 : Int) (x29 : (List Int)) (x30 : Int) (x31 : (List ((List Int) × ((List Int) × Int)))) (x32 : Int) (x33 : Int) (x34 : (List (Int × Int))) : Option (Bool × (List Int) × (List Int) × Int × (List ((List Int) × ((List Int) × Int)))) :=
  cond (x14 == ((List.length x18) : Int)) (
  bnd (m_f33r0 kk F_f37 x22 x27 x28 x29 x30 x31 x32 x33 x34) fun x46 =>
  some (x46.1, x22, x46.2.1, x46.2.2.1, x46.2.2.2)) (
  bnd (idx x18 x14) fun x56 =>
  grd ((0 : Int) ≤ x14 ∧ x14 < 8) <|
  bnd (iter (fun y : (Int × (List Int) × (List Int) × Int × (List ((List Int) × ((List Int) × Int)))) => f75_1_l3 kk F_f37 F_f75_1 y.1 y.2.1 y.2.2.1 y.2.2.2.1 y.2.2.2.2 x14 x23 x16 x17 x18 x27 x28 x32 x33 x34 x56) kk (x15, (setA 8 x22 x14 0), x29, x30, x31)) (Sum.elim some (fun z107 => f75_1_j5 kk F_f37 F_f75_1 z107.1 z107.2.1 z107.2.2.1 z107.2.2.2.1 z107.2.2.2.2)))
def m_f75_1 (kk : Nat) (F_f37 : (List Int) → Int → Int → (List (Int × Int)) → (List ((List Int) × ((List Int) × Int))) → Option ((List Int) × Int × (List ((List Int) × ((List Int) × Int))))) : Int → Int → Int → Int → (List (Int × Int)) → (List Int) → (List Int) → (List Int) → Int → (List Int) → Int → (List ((List Int) × ((List Int) × Int))) → Int → Int → (List (Int × Int)) → Option (Bool × (List Int) × (List Int) × Int × (List ((List Int) × ((List Int) × Int)))) :=
  match kk with
  | 0 => fun _ _ _ _ _ _ _ _ _ _ _ _ _ _ _ => none
  | kk + 1 => m_f75_1_s kk F_f37 (m_f75_1 kk F_f37)
def m_f74_1 (kk : Nat) (F_f37 : (List Int) → Int → Int → (List (Int × Int)) → (List ((List Int) × ((List Int) × Int))) → Option ((List Int) × Int × (List ((List Int) × ((List Int) × Int))))) (x14 : Int) (x15 : Int) (x16 : (List (Int × Int))) (x20 : (List Int)) (x21 : (List Int)) (x22 : Int) (x23 : (List Int)) (x24 : Int) (x25 : (List ((List Int) × ((List Int) × Int)))) (x26 : Int) (x27 : Int) (x28 : (List (Int × Int))) : Option ((List Int) × Int × (List ((List Int) × ((List Int) × Int)))) :=
  bnd (m_f75_1 kk F_f37 0 (w64 (x14 + x15)) x14 x15 x16 (List.replicate 8 (0 : Int)) x20 x21 x22 x23 x24 x25 x26 x27 x28) fun x41 =>
  some (x41.2.2.1, x41.2.2.2.1, x41.2.2.2.2)
def m_f33 (kk : Nat) (F_f37 : (List Int) → Int → Int → (List (Int × Int)) → (List ((List Int) × ((List Int) × Int))) → Option ((List Int) × Int × (List ((List Int) × ((List Int) × Int))))) (x5 : (List Int)) (x6 : Int) (x7 : Int) (x8 : (List (Int × Int))) (x12 : (List ((List Int) × ((List Int) × Int)))) : Option ((List Int) × Int × (List ((List Int) × ((List Int) × Int)))) :=
  bnd (m_f34 kk x5) fun x18 =>
  cond (decide (x18 < 0)) (
  some ((List.replicate 8 (0 : Int)), 0, x12)) (
  bnd (m_f36 kk x6 x7 x8 x5) fun x24 =>
  bnd (m_f74_1 kk F_f37 x24.1 x24.2.1 x24.2.2.1 x24.2.2.2 x5 x18 (List.replicate 8 (0 : Int)) 13 x12 x6 x7 x8) fun x40 =>
  some (x40.1, x40.2.1, x40.2.2))
def f37_j1 (kk : Nat) (F_f37 : (List Int) → Int → Int → (List (Int × Int)) → (List ((List Int) × ((List Int) × Int))) → Option ((List Int) × Int × (List ((List Int) × ((List Int) × Int))))) (x30 : (List Int)) (x32 : Int) (x33 : (List ((List Int) × ((List Int) × Int)))) : Option ((List Int) × Int × (List ((List Int) × ((List Int) × Int)))) :=
  some (x30, x32, x33)
def m_f37_s (kk : Nat) (F_f37 : (List Int) → Int → Int → (List (Int × Int)) → (List ((List Int) × ((List Int) × Int))) → Option ((List Int) × Int × (List ((List Int) × ((List Int) × Int))))) (x5 : (List Int)) (x6 : Int) (x7 : Int) (x8 : (List (Int × Int))) (x12 : (List ((List Int) × ((List Int) × Int)))) : Option ((List Int) × Int × (List ((List Int) × ((List Int) × Int)))) :=
  bnd (some (mget qk_112 x12 x5)) fun x21 =>
  grd (List.length ((Option.getD x21 ((List.replicate 8 (0 : Int)), 0)).1) = 8) <|
  cond (!(Option.isSome x21)) (
  bnd (m_f33 kk F_f37 x5 x6 x7 x8 x12) fun x26 =>
  (f37_j1 kk F_f37 x26.1 x26.2.1 (mput qk_112 x26.2.2 x5 (x26.1, x26.2.1)))) (
  (f37_j1 kk F_f37 ((Option.getD x21 ((List.replicate 8 (0 : Int)), 0)).1) ((Option.getD x21 ((List.replicate 8 (0 : Int)), 0)).2) x12))
def m_f37 (kk : Nat) : (List Int) → Int → Int → (List (Int × Int)) → (List ((List Int) × ((List Int) × Int))) → Option ((List Int) × Int × (List ((List Int) × ((List Int) × Int)))) :=
  match kk with
  | 0 => fun _ _ _ _ _ => none
  | kk + 1 => m_f37_s kk (m_f37 kk)
def m_f117 (kk : Nat) (x1 : Int) (x2 : Int) : Option (Int × Int) :=
  some ((IntKind.wrap .u64 ((IntKind.wrap .u64 ((IntKind.wrap .u64 ((Int.fdiv x1 (2 ^ 32)) * (Int.fdiv x2 (2 ^ 32)))) + (Int.fdiv (IntKind.wrap .u64 ((IntKind.wrap .u64 ((Int.fdiv x1 (2 ^ 32)) * (IntKind.wrap .u64 (((BitVec.ofInt 64 x2 &&& BitVec.ofInt 64 4294967295).toNat : Int))))) + (Int.fdiv (IntKind.wrap .u64 ((IntKind.wrap .u64 (((BitVec.ofInt 64 x1 &&& BitVec.ofInt 64 4294967295).toNat : Int))) * (IntKind.wrap .u64 (((BitVec.ofInt 64 x2 &&& BitVec.ofInt 64 4294967295).toNat : Int))))) (2 ^ 32)))) (2 ^ 32)))) + (Int.fdiv (IntKind.wrap .u64 ((IntKind.wrap .u64 (((BitVec.ofInt 64 (IntKind.wrap .u64 ((IntKind.wrap .u64 ((Int.fdiv x1 (2 ^ 32)) * (IntKind.wrap .u64 (((BitVec.ofInt 64 x2 &&& BitVec.ofInt 64 4294967295).toNat : Int))))) + (Int.fdiv (IntKind.wrap .u64 ((IntKind.wrap .u64 (((BitVec.ofInt 64 x1 &&& BitVec.ofInt 64 4294967295).toNat : Int))) * (IntKind.wrap .u64 (((BitVec.ofInt 64 x2 &&& BitVec.ofInt 64 4294967295).toNat : Int))))) (2 ^ 32)))) &&& BitVec.ofInt 64 4294967295).toNat : Int))) + (IntKind.wrap .u64 ((IntKind.wrap .u64 (((BitVec.ofInt 64 x1 &&& BitVec.ofInt 64 4294967295).toNat : Int))) * (Int.fdiv x2 (2 ^ 32)))))) (2 ^ 32)))), (IntKind.wrap .u64 (x1 * x2)))
def m_f76 (kk : Nat) (x1 : Int) (x2 : Int) : Option (Int × Int) :=
  bnd (m_f117 kk x1 x2) fun x3 =>
  some (x3.1, x3.2)
def f39_l2 (kk : Nat) (x69 : Int) (x74 : (List Int)) : Option ((List Int) ⊕ (Int × (List Int))) :=
  cond (decide (x69 < ((List.length x74) : Int))) (
  grd ((0 : Int) ≤ x69 ∧ x69 ≤ ((List.length x74 : Nat) : Int)) <|
  grd ((0 : Int) ≤ x69 ∧ x69 ≤ ((List.length x74 : Nat) : Int)) <|
  some (Sum.inr ((w64 (x69 + ((Nat.min (List.length (List.take (Int.toNat (x69)) x74)) (List.length x74 - (Int.toNat (x69)))) : Int))), (lcopy x74 (Int.toNat (x69)) (List.take (Int.toNat (x69)) x74))))) (
  some (Sum.inl x74))
def f39_j3 (kk : Nat) (x113 : (List Int)) : Option (List Int) :=
  some x113
def f39_j1 (kk : Nat) (x12 : Bool) (x9 : (Int × Int)) (x1 : (List Int)) : Option (List Int) :=
  cond x12 (
  none) (
  grd ((0 : Int) ≤ (w64 (x9.2)) ∧ (w64 (x9.2)) ≤ 16777216) <|
  bnd (iter (fun y : (Int × (List Int)) => f39_l2 kk y.1 y.2) kk (((Nat.min (List.length x1) (List.length (List.replicate (Int.toNat ((w64 (x9.2)))) (0 : Int)) - 0)) : Int), (lcopy (List.replicate (Int.toNat ((w64 (x9.2)))) (0 : Int)) 0 x1))) (fun z76 => f39_j3 kk z76))
def m_f39 (kk : Nat) (x1 : (List Int)) (x5 : Int) : Option (List Int) :=
  cond (decide (x5 < 0)) (
  none) (
  bnd (m_f76 kk (IntKind.wrap .u64 (((List.length x1) : Int))) (IntKind.wrap .u64 (x5))) fun x9 =>
  cond (decide (x9.1 > 0)) (
  (f39_j1 kk true x9 x1)) (
  (f39_j1 kk (decide (x9.2 > 9223372036854775807)) x9 x1)))
def f9_l6 (kk : Nat) (x467 : Int) (x468 : (List Int)) (x474 : (List Int)) (x387 : ((List Int) × Int × (List ((List Int) × ((List Int) × Int))))) (x377 : (List (List Int))) : Option (((List (List Int)) × (List Int) × (List Int) × ((List Int) × Int × (List ((List Int) × ((List Int) × Int))))) ⊕ (Int × (List Int) × (List Int))) :=
  cond (decide (x467 < 8)) (
  grd ((0 : Int) ≤ x467 ∧ x467 < 8) <|
  bnd (m_f39 kk [x467] (List.getD x387.1 (Int.toNat (x467)) 0)) fun x489 =>
  grd ((List.length (x474 ++ x489)) ≤ 16777216) <|
  some (Sum.inr ((w64 (x467 + 1)), (setA 8 x468 x467 (w64 ((List.getD x468 (Int.toNat (x467)) 0) - (List.getD x387.1 (Int.toNat (x467)) 0)))), (x474 ++ x489)))) (
  some (Sum.inl (x377, x474, x468, x387)))
def f9_j7 (kk : Nat) (x377 : (List (List Int))) (x530 : (List Int)) (x524 : (List Int)) (x387 : ((List Int) × Int × (List ((List Int) × ((List Int) × Int))))) : Option ((List (List Int)) ⊕ ((List Int) × (List (List Int)) × (List ((List Int) × ((List Int) × Int))))) :=
  grd ((List.length (x377 ++ [x530])) ≤ 16777216) <|
  some (Sum.inr (x524, (x377 ++ [x530]), x387.2.2))
def f9_l5 (kk : Nat) (x371 : (List Int)) (x377 : (List (List Int))) (x380 : (List ((List Int) × ((List Int) × Int)))) (x1 : Int) (x2 : Int) (x3 : (List (Int × Int))) : Option ((List (List Int)) ⊕ ((List Int) × (List (List Int)) × (List ((List Int) × ((List Int) × Int))))) :=
  cond (!(eqA x371 (List.replicate 8 (0 : Int)) (List.range 8))) (
  bnd (m_f37 kk x371 x1 x2 x3 x380) fun x387 =>
  bnd (iter (fun y : (Int × (List Int) × (List Int)) => f9_l6 kk y.1 y.2.1 y.2.2 x387 x377) kk (0, x371, [])) (fun z476 => f9_j7 kk z476.1 z476.2.1 z476.2.2.1 z476.2.2.2)) (
  some (Sum.inl x377))
def f9_j8 (kk : Nat) (x569 : (List (List Int))) : Option ((List (List Int)) × Int) :=
  some (x569, 0)
def m_f9 (kk : Nat) (x1 : Int) (x2 : Int) (x3 : (List (Int × Int))) : Option ((List (List Int)) × Int) :=
  bnd (m_f32 kk x1 x2 x3) fun x10 =>
  cond (x10 != 0) (
  some ([], x10)) (
  bnd (m_f38 kk x1 x2 x3) fun x18 =>
  bnd (iter (fun y : ((List Int) × (List (List Int)) × (List ((List Int) × ((List Int) × Int)))) => f9_l5 kk y.1 y.2.1 y.2.2 x1 x2 x3) kk (x18, [], [])) (fun z381 => f9_j8 kk z381))
def m_f41 (kk : Nat) (x1 : Int) : Option Bool :=
  bnd (m_f42 kk x1 0 1000000) fun x2 =>
  some (!x2)
def f34_1_l1 (kk : Nat) (x37 : Int) (x1 : (List Int)) : Option ((Int ⊕ Unit) ⊕ Int) :=
  cond (decide (x37 < ((List.length x1) : Int))) (
  bnd (idx x1 x37) fun x44 =>
  bnd (m_f41 kk x44) fun x50 =>
  cond x50 (
  some (Sum.inl (Sum.inl x37))) (
  some (Sum.inr (w64 (x37 + 1))))) (
  some (Sum.inl (Sum.inr ())))
def f34_1_j2 (kk : Nat) : Option Int :=
  some (-1)
def m_f34_1 (kk : Nat) (x1 : (List Int)) : Option Int :=
  bnd (iter (fun y : Int => f34_1_l1 kk y x1) kk 0) (Sum.elim some (fun z38 => f34_1_j2 kk))
def m_f40 (kk : Nat) (x1 : (List Int)) : Option Bool :=
  bnd (m_f34_1 kk x1) fun x6 =>
  some (decide (x6 ≥ 0))
def f10_j1 (kk : Nat) (x20 : Bool) (x1 : Int) (x2 : Int) (x3 : (List (Int × Int))) (x7 : (List Int)) : Option (Int × Int) :=
  cond x20 (
  some (0, 1)) (
  bnd (m_f43 kk x1 x2 x3 x7) fun x22 =>
  some (x22, 0))
def m_f10 (kk : Nat) (x1 : Int) (x2 : Int) (x3 : (List (Int × Int))) (x7 : (List Int)) : Option (Int × Int) :=
  bnd (m_f32 kk x1 x2 x3) fun x14 =>
  cond (x14 != 0) (
  some (0, x14)) (
  cond (((List.length x7) : Int) != ((List.length x3) : Int)) (
  (f10_j1 kk true x1 x2 x3 x7)) (
  bnd (m_f40 kk x7) fun x18 =>
  (f10_j1 kk x18 x1 x2 x3 x7)))
def f3_l2 (kk : Nat) (x74 : Int) (x75 : Int) (x1 : (List (Int × Int))) (x22 : Int) (x21 : Int) (x33 : ((List (Int × (List (Int × Int × Int × Int × Int × Int)))) × Int)) : Option ((Int × Int × Int × ((List (Int × (List (Int × Int × Int × Int × Int × Int)))) × Int)) ⊕ (Int × Int)) :=
  cond (decide (x75 < ((List.length x1) : Int))) (
  bnd (idx x1 x75) fun x82 =>
  some (Sum.inr ((imax x74 x82.1), (w64 (x75 + 1))))) (
  some (Sum.inl (x74, x22, x21, x33)))
def f3_j4 (kk : Nat) (x133 : Bool) : Option Bool :=
  some x133
def f3_j3 (kk : Nat) (x96 : Int) (x22 : Int) (x21 : Int) (x33 : ((List (Int × (List (Int × Int × Int × Int × Int × Int)))) × Int)) : Option Bool :=
  cond (decide (x96 < 1)) (
  bnd (m_f7 kk) fun x98 =>
  some x98) (
  grd ((w64 (x96 + (w64 (x22)))) ≠ 0) <|
  grd ((w64 (Int.tdiv (w64 ((w64 (x96 + (w64 (x21)))) + (w64 (x22)))) (w64 (x96 + (w64 (x22)))))) ≠ 0) <|
  bnd (m_f9 kk (w64 (x96 + (w64 (x21)))) (w64 (x22)) [(x96, ((List.length x33.1) : Int))]) fun x111 =>
  bnd (m_f10 kk (w64 (x96 + (w64 (x21)))) (w64 (x22)) [(x96, ((List.length x33.1) : Int))] [1]) fun x125 =>
  cond (x111.2 == 0) (
  cond (x125.2 == 0) (
  cond (((List.length x111.1) : Int) == (w64 (Int.tdiv (w64 ((w64 (((List.length x33.1) : Int) + (w64 (Int.tdiv (w64 ((w64 (x96 + (w64 (x21)))) + (w64 (x22)))) (w64 (x96 + (w64 (x22)))))))) - 1)) (w64 (Int.tdiv (w64 ((w64 (x96 + (w64 (x21)))) + (w64 (x22)))) (w64 (x96 + (w64 (x22))))))))) (
  cond (x125.1 == (w64 (Int.tdiv (w64 ((w64 (((List.length x33.1) : Int) + (w64 (Int.tdiv (w64 ((w64 (x96 + (w64 (x21)))) + (w64 (x22)))) (w64 (x96 + (w64 (x22)))))))) - 1)) (w64 (Int.tdiv (w64 ((w64 (x96 + (w64 (x21)))) + (w64 (x22)))) (w64 (x96 + (w64 (x22))))))))) (
  bnd (m_f7 kk) fun x131 =>
  (f3_j4 kk x131)) (
  (f3_j4 kk false))) (
  (f3_j4 kk false))) (
  (f3_j4 kk false))) (
  (f3_j4 kk false)))
def f3_j1 (kk : Nat) (x44 : Bool) (x1 : (List (Int × Int))) (x22 : Int) (x21 : Int) (x33 : ((List (Int × (List (Int × Int × Int × Int × Int × Int)))) × Int)) : Option Bool :=
  cond x44 (
  bnd (m_f7 kk) fun x46 =>
  some x46) (
  bnd (iter (fun y : (Int × Int) => f3_l2 kk y.1 y.2 x1 x22 x21 x33) kk (0, 0)) (fun z76 => f3_j3 kk z76.1 z76.2.1 z76.2.2.1 z76.2.2.2))
def m_f3 (kk : Nat) (x1 : (List (Int × Int))) (x5 : (List ((Int × Int) × (Int × Int)))) (x9 : Int) (x10 : Int) (x11 : Int) (x12 : Int) (x13 : Int) (x14 : Int) (x15 : Int) (x16 : Int) (x17 : Int) (x18 : Int) (x19 : Int) (x20 : Int) (x21 : Int) (x22 : Int) : Option Bool :=
  bnd (m_f6 kk x1 x5) fun x28 =>
  cond x28 (
  bnd (m_f7 kk) fun x31 =>
  some x31) (
  bnd (m_f8 kk x1 x5 x9 x10 x11 x12 x13 x14 x15 x16 x17 x18 x19 x20) fun x33 =>
  cond (x33.2 != 0) (
  (f3_j1 kk true x1 x22 x21 x33)) (
  (f3_j1 kk (decide (((List.length x33.1) : Int) > 9)) x1 x22 x21 x33)))
end Go.Proofs.Ytmkjcahdjphimaa
