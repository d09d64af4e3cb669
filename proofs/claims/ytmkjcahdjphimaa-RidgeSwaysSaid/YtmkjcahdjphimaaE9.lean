/- The rules once more, for states that are written out: what follows is written out again. -/
import Derived.Test.YtmkjcahdjphimaaE8
import Derived.Test.YtmkjcahdjphimaaM0
namespace Go.Eng
open Go

section
variable {P : Program} {ρ : Option Nat} {c : Code} {Q : Post} {n : Nat} {e : Env} {d : List Deferred} {g : GH} {h : Hs}

theorem U.seg {i : Nat} (m : Nat) (ts : List Nat) (hs : List (Nat × Hint)) (X : (Env → Hs → Prop) → Prop) (hX : ∀ K, X K = segP P g n (opsOf c) hs m i e h (fun e h => K (selE e ts) h)) (j : Nat) (hm : (Nat.ble (i + m) (opsOf c).size && Nat.beq (i + m) j) = true)
    (x : X (fun e h => WO P ρ c Q j ⟨n, e, d, g, h⟩)) : WO P ρ c Q i ⟨n, e, d, g, h⟩ := by
  rw [Bool.and_eq_true] at hm
  have hj := Nat.eq_of_beq_eq_true hm.2
  subst hj
  exact WO.seg (s := ⟨n, e, d, g, h⟩) m ts hs X hX hm.1 x
theorem U.step {α : Type} {i : Nat} {p : α → Prop} {S : α → St} (j : Nat) (hi : (Nat.blt i (opsOf c).size && Nat.beq (i + 1) j) = true) (hst : Stp P ρ (opsOf c) i ⟨n, e, d, g, h⟩ p S) (hn : ∀ x, p x → WO P ρ c Q j (S x)) : WO P ρ c Q i ⟨n, e, d, g, h⟩ := by
  rw [Bool.and_eq_true] at hi
  have hj := Nat.eq_of_beq_eq_true hi.2
  subst hj
  exact WO.step hi.1 hst hn
theorem U.call {i K : Nat} {args : List Value} {dst : Option Tmp} {α : Type} {p : α → Prop} {v : α → Value} {g' : α → GH} {h' : α → Hs} (hcon : ∀ w, Ok g h w → Calls P K args.toArray w (Ret p v g' h')) (hc : callAt (opsOf c) i n e = some (K, args, dst)) (he : ∀ args w, (callFunc K args).run P w = .ok (.enter K args) w) :
    Stp P ρ (opsOf c) i ⟨n, e, d, g, h⟩ p (fun x => ⟨n, putE e dst (v x), d, g' x, h' x⟩) := Stp.call (s := ⟨n, e, d, g, h⟩) hc he hcon
theorem U.append {i T el sz : Nat} {dst : Option Tmp} {t n1 cc m cc2 : Nat} {a b : Option Addr} {cs news : List Value} (n' : Nat) (ha : appAt (opsOf c) i n e = some (T, .slice a n1 cc, .slice b m cc2, dst)) (hel : elOk P T el sz = true)
    (hf : findE h t = some (.sl a n1 cc el sz cs)) (hr : Reads g h b m cc2 news) (hl : news.length = m * sz) (h1 : ∀ u ∈ news, u.oneCell' = true) (hn : n1 + m = n') (hb : n' ≤ 16777216) :
    Stp P ρ (opsOf c) i ⟨n, e, d, g, h⟩ (fun _ : Option Addr × Nat => True) (fun x => ⟨n, putE e dst (.slice x.1 n' x.2), d, g, updE h t (.sl x.1 n' x.2 el sz (cs ++ news))⟩) := Stp.append (s := ⟨n, e, d, g, h⟩) n' ha hel hf hr hl h1 hn hb
theorem U.make {i T el sz : Nat} {dst : Option Tmp} {t : Nat} {k k' : IntKind} {z : Int} (ha : makeAt (opsOf c) i n e = some (T, .int k z, .int k' z, dst)) (hel : elOk P T el sz = true) (h0 : 0 ≤ z) (hb : z ≤ 16777216) :
    Stp P ρ (opsOf c) i ⟨n, e, d, g, h⟩ (fun _ : Nat => True) (fun b => ⟨n, putE e dst (.slice (some ⟨b, 0, none⟩) z.toNat z.toNat), d, g, (t, .sl (some ⟨b, 0, none⟩) z.toNat z.toNat el sz (List.replicate z.toNat (zeroOf P el)).flatten) :: h⟩) := Stp.make (s := ⟨n, e, d, g, h⟩) ha hel h0 hb
theorem U.freeze {i : Nat} {α : Type} {dd : Kd α} {t n1 cc : Nat} {a : Option Addr} {T : TypeId} {cs : List Value} {xs : List α} (hf : findE h t = some (.sl a n1 cc T dd.sz cs)) (hr : Rw dd g cs xs) (hn : n1 = xs.length)
    (k : ∀ g', g.le g' → Sl dd g' a n1 cc xs → WO P ρ c Q i ⟨n, e, d, g', rmE h t⟩) : WO P ρ c Q i ⟨n, e, d, g, h⟩ := WO.freeze (s := ⟨n, e, d, g, h⟩) hf hr hn k
theorem U.freezeP {x : Exit} {α : Type} {dd : Kd α} {t n1 cc : Nat} {a : Option Addr} {T : TypeId} {cs : List Value} {xs : List α} (hf : findE h t = some (.sl a n1 cc T dd.sz cs)) (hr : Rw dd g cs xs) (hn : n1 = xs.length)
    (k : ∀ g', g.le g' → Sl dd g' a n1 cc xs → PO Q x ⟨n, e, d, g', rmE h t⟩) : PO Q x ⟨n, e, d, g, h⟩ := PO.freeze (s := ⟨n, e, d, g, h⟩) hf hr hn k
theorem U.freezeW {α : Type} {dd : Kd α} {t n1 cc : Nat} {a : Option Addr} {T : TypeId} {cs : List Value} {xs : List α} (hf : findE h t = some (.sl a n1 cc T dd.sz cs)) (hr : Rw dd g cs xs) (hn : n1 = xs.length)
    (k : ∀ g', g.le g' → Sl dd g' a n1 cc xs → WP P ρ c Q ⟨n, e, d, g', rmE h t⟩) : WP P ρ c Q ⟨n, e, d, g, h⟩ := WP.freeze (s := ⟨n, e, d, g, h⟩) hf hr hn k
theorem U.nil {i : Nat} (t : Nat) (T : TypeId) (sz : Nat) (k : WO P ρ c Q i ⟨n, e, d, g, (t, .sl none 0 0 T sz []) :: h⟩) : WO P ρ c Q i ⟨n, e, d, g, h⟩ := WO.nil (s := ⟨n, e, d, g, h⟩) t T sz k
theorem U.nilW (t : Nat) (T : TypeId) (sz : Nat) (k : WP P ρ c Q ⟨n, e, d, g, (t, .sl none 0 0 T sz []) :: h⟩) : WP P ρ c Q ⟨n, e, d, g, h⟩ := WP.nil (s := ⟨n, e, d, g, h⟩) t T sz k
theorem U.nilP {x : Exit} (t : Nat) (T : TypeId) (sz : Nat) (k : PO Q x ⟨n, e, d, g, (t, .sl none 0 0 T sz []) :: h⟩) : PO Q x ⟨n, e, d, g, h⟩ := PO.nil (s := ⟨n, e, d, g, h⟩) t T sz k
theorem U.as {i t : Nat} {v v' : Value} (hv : v = v') (hl : look e t = some v) (k : WO P ρ c Q i ⟨n, (t, v') :: e, d, g, h⟩) : WO P ρ c Q i ⟨n, e, d, g, h⟩ := WO.as (s := ⟨n, e, d, g, h⟩) hl hv k
theorem U.asW {t : Nat} {v v' : Value} (hv : v = v') (hl : look e t = some v) (k : WP P ρ c Q ⟨n, (t, v') :: e, d, g, h⟩) : WP P ρ c Q ⟨n, e, d, g, h⟩ := WP.as (s := ⟨n, e, d, g, h⟩) hl hv k
theorem U.asD {C : Cls} {fuel : Nat} {ls : List Nat} {t : Nat} {v v' : Value} (hv : v = v') (hl : look e t = some v) (k : WD P ρ c Q C fuel ls ⟨n, (t, v') :: e, d, g, h⟩) : WD P ρ c Q C fuel ls ⟨n, e, d, g, h⟩ := WD.as (s := ⟨n, e, d, g, h⟩) hl hv k
theorem U.take {g0 : GH} {ks : List Nat} {h0 : Hs} {ls : List Nat} {N : Nat} (fuel : Nat) (is ts ls' : List Nat) (hs : List (Nat × Hint)) (X : (Env → Prop) → Prop) (hX : ∀ K, X K = segD P g0 n (opsOf c) ks h0 hs is ls e (fun e => K (selE e ts))) (hns : noSels (opsOf c) = true)
    (hf : Nat.beq (fuel + is.length) N = true) (hl : is.reverse ++ ls = ls') (x : X (fun e => WD P ρ c Q ⟨ks, Ok g0 h0⟩ fuel ls' ⟨n, e, d, g, h⟩)) : WD P ρ c Q ⟨ks, Ok g0 h0⟩ N ls ⟨n, e, d, g, h⟩ := by
  subst hl
  exact WD.take (s := ⟨n, e, d, g, h⟩) is ts hs X hX hns hf x
theorem U.one {C : Cls} {ls : List Nat} {N : Nat} (fuel i : Nat) (ts : List Nat) (hs : List (Nat × Hint)) (X : (Env → Hs → Prop) → Prop) (hX : ∀ K, X K = segP P g n (opsOf c) hs 1 i e h (fun e h => K (selE e ts) h))
    (hr : Region.ready .any (opsOf c) (listedOf (opsOf c).size ls) = [i]) (hf : Nat.beq (fuel + 1) N = true) (x : X (fun e h => (∀ w, Ok g h w → C.at (listedOf (opsOf c).size (i :: ls)) w) ∧ WD P ρ c Q C fuel (i :: ls) ⟨n, e, d, g, h⟩)) : WD P ρ c Q C N ls ⟨n, e, d, g, h⟩ := WD.one (s := ⟨n, e, d, g, h⟩) i ts hs X hX hr hf x
theorem U.two {C : Cls} {ls : List Nat} {N : Nat} (fuel i j : Nat) (ts us : List Nat) (hs : List (Nat × Hint)) (X Y : (Env → Hs → Prop) → Prop) (hX : ∀ K, X K = segP P g n (opsOf c) hs 1 i e h (fun e h => K (selE e ts) h)) (hY : ∀ K, Y K = segP P g n (opsOf c) hs 1 j e h (fun e h => K (selE e us) h))
    (hr : Region.ready .any (opsOf c) (listedOf (opsOf c).size ls) = [i, j]) (hf : Nat.beq (fuel + 1) N = true) (x : X (fun e h => (∀ w, Ok g h w → C.at (listedOf (opsOf c).size (i :: ls)) w) ∧ WD P ρ c Q C fuel (i :: ls) ⟨n, e, d, g, h⟩))
    (y : Y (fun e h => (∀ w, Ok g h w → C.at (listedOf (opsOf c).size (j :: ls)) w) ∧ WD P ρ c Q C fuel (j :: ls) ⟨n, e, d, g, h⟩)) : WD P ρ c Q C N ls ⟨n, e, d, g, h⟩ := WD.two (s := ⟨n, e, d, g, h⟩) i j ts us hs X Y hX hY hr hf x y
theorem U.force {α : Type} {C : Cls} {ls : List Nat} {N : Nat} {p : α → Prop} {S : α → St} (fuel i : Nat) (hr : Region.ready .any (opsOf c) (listedOf (opsOf c).size ls) = [i]) (hf : Nat.beq (fuel + 1) N = true) (hst : Stp P ρ (opsOf c) i ⟨n, e, d, g, h⟩ p S)
    (hn : ∀ x, p x → (∀ w, Ok (S x).g (S x).h w → C.at (listedOf (opsOf c).size (i :: ls)) w) ∧ WD P ρ c Q C fuel (i :: ls) (S x)) : WD P ρ c Q C N ls ⟨n, e, d, g, h⟩ := by
  obtain rfl := Nat.eq_of_beq_eq_true hf
  exact WD.force hr hst (fun x hp => (hn x hp).1) (fun x hp => (hn x hp).2)
theorem U.draw (ks : List Nat) (g0 : GH) (h0 : Hs) (hm : P.follows .mixedOrders = true) (hc : isDraw c = true) (N : Nat) (hn : Nat.beq (opsOf c).size N = true) (hC : ∀ w, Ok g h w → Ok g0 h0 w) (k : WD P ρ c Q ⟨ks, Ok g0 h0⟩ N [] ⟨n, e, d, g, h⟩) : WP P ρ c Q ⟨n, e, d, g, h⟩ :=
  WP.draw (s := ⟨n, e, d, g, h⟩) ⟨ks, Ok g0 h0⟩ hm hc N hn hC k
theorem U.pick {i : Nat} (m : Nat) (is : List (Nat × Nat)) (h' : Hs) (hn : (is.map (·.2)).all (fun i => (is.map (·.2)).count i == 1) = true) (hh : pickNT m h is = h') (k : WO P ρ c Q i ⟨n, e, d, g, h'⟩) : WO P ρ c Q i ⟨n, e, d, g, h⟩ :=
  WO.weak (fun a w hs => by have := hs.pickT m is hn; subst hh; exact this) k
theorem U.pickD {C : Cls} {N : Nat} {ls : List Nat} (m : Nat) (is : List (Nat × Nat)) (h' : Hs) (hn : (is.map (·.2)).all (fun i => (is.map (·.2)).count i == 1) = true) (hh : pickNT m h is = h') (k : WD P ρ c Q C N ls ⟨n, e, d, g, h'⟩) : WD P ρ c Q C N ls ⟨n, e, d, g, h⟩ :=
  WD.weak (fun a w hs => by have := hs.pickT m is hn; subst hh; exact this) k
theorem U.gweak {i : Nat} {g' : GH} (hg : g'.le g) (k : WO P ρ c Q i ⟨n, e, d, g', h⟩) : WO P ρ c Q i ⟨n, e, d, g, h⟩ := WO.weak (s' := ⟨n, e, d, g', h⟩) (fun _ _ hs => ⟨hs.env, hs.df, Ok.gweak hg hs.ok⟩) k
theorem U.freezeD {C : Cls} {N : Nat} {ls : List Nat} {α : Type} {dd : Kd α} {t n1 cc : Nat} {a : Option Addr} {T : TypeId} {cs : List Value} {xs : List α} (hf : findE h t = some (.sl a n1 cc T dd.sz cs)) (hr : Rw dd g cs xs) (hn : n1 = xs.length)
    (k : ∀ g', g.le g' → Sl dd g' a n1 cc xs → WD P ρ c Q C N ls ⟨n, e, d, g', rmE h t⟩) : WD P ρ c Q C N ls ⟨n, e, d, g, h⟩ := fun ac w hs hC => by
  obtain ⟨g', h1, h2, h3, _⟩ := Ok.freeze (Ok.perm (rmE_perm hf) hs.ok) hr hn
  exact k g' h1 h3 ac w ⟨hs.env, hs.df, h2⟩ hC
theorem U.nilD {C : Cls} {N : Nat} {ls : List Nat} (t : Nat) (T : TypeId) (sz : Nat) (k : WD P ρ c Q C N ls ⟨n, e, d, g, (t, .sl none 0 0 T sz []) :: h⟩) : WD P ρ c Q C N ls ⟨n, e, d, g, h⟩ := fun a w hs hC => k a w ⟨hs.env, hs.df, hs.ok.addNil t T sz⟩ hC
/-- Two ways that come to one. -/
theorem U.both {C : Cls} {N : Nat} {ls ls' : List Nat} {N' : Nat} {s : St} {S : Nat → Nat → St} (hS : ∀ a b, WD P ρ c Q C N ls (S a b)) (k : (∀ a b, WD P ρ c Q C N ls (S a b)) → WD P ρ c Q C N' ls' s) : WD P ρ c Q C N' ls' s := k hS
theorem WD.perm2 {C : Cls} {N : Nat} {ls ls' : List Nat} {s : St} (hl : listedOf (opsOf c).size ls = listedOf (opsOf c).size ls') (k : WD P ρ c Q C N ls s) : WD P ρ c Q C N ls' s := by
  unfold WD at *
  rw [← hl]; exact k
theorem U.know {i : Nat} {φ : Prop} (hk : ∀ w, Ok g h w → φ) (k : φ → WO P ρ c Q i ⟨n, e, d, g, h⟩) : WO P ρ c Q i ⟨n, e, d, g, h⟩ := WO.know (s := ⟨n, e, d, g, h⟩) hk k
end

theorem arr_read {n : Nat} {k : IntKind} {xs : List Int} {cs : List Value} {off : Nat} {i : Int} (pre post : List Value) (h0 : 0 ≤ i) (h1 : i < (n : Int)) (hc : cs = pre ++ (arrC n k xs ++ post)) (hp : pre.length = off) : OwnRead cs (off + i.toNat * 1) false 1 (.int k (xs.getD i.toNat 0)) := by
  show cs[off + i.toNat * 1]? = _
  subst hc
  subst hp
  rw [List.getElem?_append_right (by omega), Nat.add_sub_cancel_left, Nat.mul_one, List.getElem?_append_left (by simp [arrC]; omega)]
  exact arrC_get (by omega)
theorem arr_put {n : Nat} {k : IntKind} {xs : List Int} {cs cs' : List Value} {off : Nat} {i v : Int} (pre post : List Value) (h0 : 0 ≤ i) (h1 : i < (n : Int)) (hc : cs = pre ++ (arrC n k xs ++ post)) (hc' : cs' = pre ++ (arrC n k (setA n xs i v) ++ post)) (hp : pre.length = off) :
    off + i.toNat * 1 + [Value.int k v].length ≤ cs.length ∧ (∀ u ∈ [Value.int k v], u.oneCell' = true) ∧ splice cs (off + i.toNat * 1) [.int k v] = cs' := by
  subst hc
  subst hc'
  subst hp
  have hl : (arrC n k xs).length = n := by simp [arrC]
  refine ⟨by simp only [List.length_append, hl, List.length_singleton]; omega, by intro u hu; simp at hu; subst hu; rfl, ?_⟩
  rw [splice_one _ _ _ (by simp only [List.length_append, hl]; omega), Nat.mul_one, List.set_append_right _ _ (by omega), Nat.add_sub_cancel_left, List.set_append_left _ _ (by rw [hl]; omega)]
  congr 2
  apply List.ext_getElem?
  intro j
  rw [List.getElem?_set]
  by_cases hj : j < n
  · rw [arrC_get hj]
    by_cases hi : i.toNat = j
    · rw [if_pos hi, if_pos (by rw [hl]; omega), arrC_get hj]
      subst hi
      simp only [setA, List.getD_eq_getElem?_getD, List.getElem?_map, List.getElem?_range hj, Option.map_some, Option.getD_some]
      rw [if_pos (by omega)]
    · rw [if_neg hi, arrC_get hj]
      simp only [setA, List.getD_eq_getElem?_getD, List.getElem?_map, List.getElem?_range hj, Option.map_some, Option.getD_some]
      rw [if_neg (by omega)]
  · rw [List.getElem?_eq_none (l := arrC n k xs) (by rw [hl]; omega)]
    have e2 : (arrC n k (setA n xs i v))[j]? = none := List.getElem?_eq_none (by simp [arrC]; omega)
    rw [e2]
    split
    · rename_i hh; rw [if_neg (by rw [hl]; omega)]
    · rfl
end Go.Eng
