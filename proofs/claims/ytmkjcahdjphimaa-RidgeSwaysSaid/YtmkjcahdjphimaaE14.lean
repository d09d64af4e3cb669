/- Arrays in rows; arrays as rows. -/
import Derived.Test.YtmkjcahdjphimaaE13
namespace Go.Eng
open Go

/-- One number is put into an array: its cells. -/
theorem arr_set {n : Nat} {k : IntKind} {xs : List Int} {i v : Int} (pre post : List Value) (h0 : 0 ≤ i) (h1 : i < (n : Int)) : splice (pre ++ (arrC n k xs ++ post)) (pre.length + i.toNat * 1) [.int k v] = pre ++ (arrC n k (setA n xs i v) ++ post) :=
  (arr_put pre post h0 h1 rfl rfl rfl).2.2
theorem Rw.arr {g : GH} {n : Nat} {k : IntKind} {xs : List Int} (h : xs.length = n) : Rw (Kd.int k) g (arrC n k xs) xs := by
  have key : ∀ (l : List Int), Rw (Kd.int k) g (l.map fun x => Value.int k x) l := by
    intro l
    induction l with
    | nil => rfl
    | cons a l ih => exact ⟨[.int k a], l.map fun x => Value.int k x, rfl, rfl, ih⟩
  have e : arrC n k xs = xs.map fun x => Value.int k x := by
    apply List.ext_getElem?
    intro j
    by_cases hj : j < n
    · rw [arrC_get hj, List.getElem?_map]
      have : j < xs.length := by omega
      simp [List.getD_eq_getElem?_getD, this]
    · have e1 : (arrC n k xs)[j]? = none := List.getElem?_eq_none (by simp [arrC]; omega)
      have e2 : (xs.map fun x => Value.int k x)[j]? = none := List.getElem?_eq_none (by simp; omega)
      rw [e1, e2]
  rw [e]; exact key xs

/-- An own block whose cells are all a row's is an own row, and back. -/
theorem Ok.blkSl {g : GH} {h : Hs} {w : World} {t b T m n sz : Nat} {cs : List Value} (hw : Ok g h w) (hf : findE h t = some (.blk b T cs)) (hl : cs.length = m * sz) (hn : m = n) (hm : m ≤ maxLen) : Ok g (updE h t (.sl (some ⟨b, 0, none⟩) n m T sz cs)) w := by
  subst hn
  have hb : w.heap[b]? = some (.cells cs.toArray T (0, 0)) := hw.en _ (findE_mem hf)
  refine hw.upd hf (fun _ _ _ => rfl) (ownsRow_mk hb (Nat.le_refl _) hm (by simpa using hl) ?_) (fun k hk => .inl hk)
  rw [← hl]; simp
theorem Ok.slBlk {g : GH} {h : Hs} {w : World} {t b T m n sz : Nat} {cs : List Value} (hw : Ok g h w) (hf : findE h t = some (.sl (some ⟨b, 0, none⟩) n m T sz cs)) (hn : m = n) : Ok g (updE h t (.blk b T cs)) w := by
  subst hn
  have hb := hw.en _ (findE_mem hf)
  rcases ownsRow_key hb with ⟨h1, _⟩ | ⟨b', cur, h1, h2, h3, h4, h5, h6⟩
  · cases h1
  · cases h1
    have : cur = cs.toArray := by
      apply Array.ext'
      rw [← h6, ← h5]
      exact (List.take_of_length_le (by simp)).symm
    subst this
    exact hw.upd hf (fun _ _ _ => rfl) h2 (fun k hk => .inl hk)
theorem slen {α : Type} {d : Kd α} {g : GH} {a : Option Addr} {n c : Nat} {xs : List α} (h : Sl d g a n c xs) : Sl d g a xs.length c xs := by
  have := h.len
  subst this
  exact h
theorem slsub_lh {α : Type} {d : Kd α} {g : GH} {a : Option Addr} {n c : Nat} {xs : List α} (h : Sl d g a n c xs) {l m : Nat} (hl : l ≤ m) (hm : m ≤ n) : Sl d g (subA a c l d.sz) (m - l) (c - l) ((xs.take m).drop l) := h.sub hl hm
theorem slsub_l {α : Type} {d : Kd α} {g : GH} {a : Option Addr} {n c : Nat} {xs : List α} (h : Sl d g a n c xs) {l : Nat} (hl : l ≤ n) : Sl d g (subA a c l d.sz) (n - l) (c - l) (xs.drop l) := by
  have := h.sub hl (Nat.le_refl n)
  rw [List.take_of_length_le (by rw [h.len]; exact Nat.le_refl _)] at this
  exact this
theorem slsub_h {α : Type} {d : Kd α} {g : GH} {a : Option Addr} {n c : Nat} {xs : List α} (h : Sl d g a n c xs) {m : Nat} (hm : m ≤ n) : Sl d g (subA a c 0 d.sz) m c (xs.take m) := h.sub (Nat.zero_le m) hm
section
variable {P : Program} {ρ : Option Nat} {c : Code} {Q : Post} {n : Nat} {e : Env} {d : List Deferred} {g : GH} {h : Hs}
theorem U.blkSl {i t b T m n' sz : Nat} {cs : List Value} (h' : Hs) (hf : findE h t = some (.blk b T cs)) (hh : updE h t (.sl (some ⟨b, 0, none⟩) n' m T sz cs) = h') (hl : cs.length = m * sz) (hn : m = n') (hm : m ≤ maxLen) (k : WO P ρ c Q i ⟨n, e, d, g, h'⟩) : WO P ρ c Q i ⟨n, e, d, g, h⟩ :=
  WO.weak (s' := ⟨n, e, d, g, h'⟩) (fun _ _ hs => ⟨hs.env, hs.df, by subst hh; exact hs.ok.blkSl hf hl hn hm⟩) k
theorem U.slBlk {i t b T m n' sz : Nat} {cs : List Value} (h' : Hs) (hf : findE h t = some (.sl (some ⟨b, 0, none⟩) n' m T sz cs)) (hh : updE h t (.blk b T cs) = h') (hn : m = n') (k : WO P ρ c Q i ⟨n, e, d, g, h'⟩) : WO P ρ c Q i ⟨n, e, d, g, h⟩ :=
  WO.weak (s' := ⟨n, e, d, g, h'⟩) (fun _ _ hs => ⟨hs.env, hs.df, by subst hh; exact hs.ok.slBlk hf hn⟩) k
end
end Go.Eng
