/- The heap of a call, told by a list of own blocks and a fixed part that is only read: the two turn apart. -/
import Derived.WalkKit
import Derived.OrdersIn
import Derived.RangeFuncIn
import Derived.KernelRfl
namespace Go.Eng
open Go

/-- What is fixed: blocks that are only read from now on, with what they hold. -/
def GH : Type := Nat → Option Obj
def GH.le (g g' : GH) : Prop := ∀ k o, g k = some o → g' k = some o
theorem GH.le_refl (g : GH) : g.le g := fun _ _ h => h
theorem GH.le_trans {a b c : GH} (h : a.le b) (h' : b.le c) : a.le c := fun k o e => h' k o (h k o e)
def GH.add (g : GH) (b : Nat) (o : Obj) : GH := fun k => if k = b then some o else g k
theorem GH.le_add {g : GH} {b : Nat} (o : Obj) (h : g b = none) : g.le (g.add b o) := fun k o' e => by
  unfold GH.add
  split
  · rename_i hk; rw [hk, h] at e; cases e
  · exact e

/-- One own block: cells that are all known; a slice's row (it may have room behind); a map; any other object. -/
inductive Ent where
  | blk (b : Nat) (T : TypeId) (cs : List Value)
  | sl (a : Option Addr) (n c : Nat) (T : TypeId) (sz : Nat) (cs : List Value)
  | mp (b : Nat) (es : List (Value × Value))
  | ob (b : Nat) (o : Obj)
  | wd (w : World)

/-- What lies outside the heap is as it was. -/
def Same (w w' : World) : Prop := w'.os = w.os ∧ w'.tape = w.tape ∧ w'.output = w.output
theorem Same.trans {a b c : World} (h : Same a b) (k : Same b c) : Same a c := ⟨k.1.trans h.1, k.2.1.trans h.2.1, k.2.2.trans h.2.2⟩

def Ent.key : Ent → Option Nat
  | .blk b _ _ => some b
  | .sl a _ _ _ _ _ => a.map (·.block)
  | .mp b _ => some b
  | .ob b _ => some b
  | .wd _ => none

/-- A map's entries: what they hold, in order, and that their stamps are apart and below the clock. -/
def isMap (o : Obj) (es : List (Value × Value)) : Prop :=
  ∃ (a : Array MapEntry) (k : Nat), o = .map a k ∧ a.toList.map (fun e => (e.key, e.val)) = es ∧ (a.toList.map (·.born)).Nodup ∧ ∀ e ∈ a.toList, e.born < k

def Ent.holds (w : World) : Ent → Prop
  | .blk b T cs => w.heap[b]? = some (.cells cs.toArray T (0, 0))
  | .sl a n c T sz cs => w.ownsRow 0 T sz (.slice a n c) n cs
  | .mp b es => ∃ o, w.heap[b]? = some o ∧ isMap o es
  | .ob b o => w.heap[b]? = some o
  | .wd w0 => Same w0 w

abbrev Hs := List (Nat × Ent)

structure Ok (g : GH) (h : Hs) (w : World) : Prop where
  gh : ∀ k o, g k = some o → w.heap[k]? = some o
  en : ∀ p ∈ h, p.2.holds w
  nd : (h.filterMap (·.2.key)).Nodup
  ap : ∀ p ∈ h, ∀ k, p.2.key = some k → g k = none

theorem ownsRow_key {w : World} {a : Option Addr} {n c : Nat} {T : TypeId} {sz : Nat} {cs : List Value} (h : w.ownsRow 0 T sz (.slice a n c) n cs) :
    (a = none ∧ n = 0 ∧ c = 0 ∧ cs = []) ∨ ∃ b cur, a = some ⟨b, 0, none⟩ ∧ w.heap[b]? = some (.cells cur T (0, 0)) ∧ n ≤ c ∧ c ≤ maxLen ∧ cur.size = c * sz ∧ cur.toList.take (n * sz) = cs := by
  obtain ⟨hl, h | h⟩ := h
  · obtain ⟨he, hn⟩ := h
    cases he
    exact .inl ⟨rfl, rfl, rfl, List.eq_nil_of_length_eq_zero (by simpa using hl)⟩
  · obtain ⟨b, cap, cur, he, _, h1, h2, h3, h4, h5⟩ := h
    cases he
    exact .inr ⟨b, cur, rfl, h1, h2, h3, h4, h5⟩

theorem ownsRow_mk {w : World} {b n c : Nat} {T : TypeId} {sz : Nat} {cs : List Value} {cur : Array Value} (h1 : w.heap[b]? = some (.cells cur T (0, 0))) (h2 : n ≤ c) (h3 : c ≤ maxLen) (h4 : cur.size = c * sz)
    (h5 : cur.toList.take (n * sz) = cs) : w.ownsRow 0 T sz (.slice (some ⟨b, 0, none⟩) n c) n cs := by
  refine ⟨?_, .inr ⟨b, c, cur, rfl, Nat.zero_le _, h1, h2, h3, h4, h5⟩⟩
  rw [← h5, List.length_take, Array.length_toList, h4]
  exact Nat.min_eq_left (Nat.mul_le_mul_right _ h2)

theorem Ent.holds_congr {w w' : World} {e : Ent} (hm : Same w w') (h : ∀ k, e.key = some k → w'.heap[k]? = w.heap[k]?) (hh : e.holds w) : e.holds w' := by
  cases e with
  | wd w0 => exact Same.trans hh hm
  | blk b T cs => exact (h b rfl).trans hh
  | mp b es => obtain ⟨o, ho, hm⟩ := hh; exact ⟨o, (h b rfl).trans ho, hm⟩
  | ob b o => exact (h b rfl).trans hh
  | sl a n c T sz cs =>
    rcases ownsRow_key hh with ⟨rfl, rfl, rfl, rfl⟩ | ⟨b, cur, rfl, h1, h2, h3, h4, h5⟩
    · exact World.ownsRow_nil w' 0 T sz
    · exact ownsRow_mk ((h b rfl).trans h1) h2 h3 h4 h5

theorem Ent.holds_lt {w : World} {e : Ent} (hh : e.holds w) : ∀ k, e.key = some k → k < w.heap.size := by
  intro k hk
  have go : ∀ {b : Nat} {o : Obj}, w.heap[b]? = some o → b < w.heap.size := fun h => (Array.getElem?_eq_some_iff.1 h).1
  cases e with
  | wd w0 => cases hk
  | blk b T cs => cases hk; exact go hh
  | mp b es => cases hk; obtain ⟨o, ho, _⟩ := hh; exact go ho
  | ob b o => cases hk; exact go hh
  | sl a n c T sz cs =>
    rcases ownsRow_key hh with ⟨rfl, rfl, rfl, rfl⟩ | ⟨b, cur, rfl, h1, _⟩
    · cases hk
    · cases hk; exact go h1

def keysOf (h : Hs) : List Nat := h.filterMap (·.2.key)
theorem mem_keysOf {h : Hs} {k : Nat} : k ∈ keysOf h ↔ ∃ p ∈ h, p.2.key = some k := by simp [keysOf, List.mem_filterMap]

theorem Ok.glt {g : GH} {h : Hs} {w : World} (hw : Ok g h w) {k : Nat} {o : Obj} (e : g k = some o) : k < w.heap.size := (Array.getElem?_eq_some_iff.1 (hw.gh k o e)).1
theorem Ok.klt {g : GH} {h : Hs} {w : World} (hw : Ok g h w) {k : Nat} (hk : k ∈ keysOf h) : k < w.heap.size := by
  obtain ⟨p, hp, e⟩ := mem_keysOf.1 hk
  exact (Ent.holds_lt (hw.en p hp)) k e

/-- What leaves all that is told as it was keeps it. -/
theorem Ok.keep {g : GH} {h : Hs} {w w' : World} (hw : Ok g h w) (hs : ∀ k, k < w.heap.size → w'.heap[k]? = w.heap[k]?) (hm : Same w w' := by exact ⟨rfl, rfl, rfl⟩) : Ok g h w' :=
  ⟨fun k o e => (hs k (hw.glt e)).trans (hw.gh k o e), fun p hp => Ent.holds_congr hm (hh := hw.en p hp) <| fun k e => hs k ((Ent.holds_lt (hw.en p hp)) k e), hw.nd, hw.ap⟩

theorem Ok.heap {g : GH} {h : Hs} {w w' : World} (hw : Ok g h w) (hs : w'.heap = w.heap) (hm : Same w w' := by exact ⟨rfl, rfl, rfl⟩) : Ok g h w' := hw.keep (fun k _ => by rw [hs]) hm

theorem Ok.alloc {g : GH} {h : Hs} {w : World} (hw : Ok g h w) (o : Obj) : Ok g h (w.alloc o) := hw.keep (fun k hk => heap_alloc_old w o hk)

/-- A new block, told. -/
theorem Ok.push {g : GH} {h : Hs} {w w' : World} (hw : Ok g h w) {t : Nat} {e : Ent} (hs : ∀ k, k < w.heap.size → w'.heap[k]? = w.heap[k]?) (hh : e.holds w') (hk : ∀ k, e.key = some k → w.heap.size ≤ k) (hm : Same w w' := by exact ⟨rfl, rfl, rfl⟩) : Ok g ((t, e) :: h) w' := by
  have hk' := hw.keep hs hm
  refine ⟨hk'.gh, ?_, ?_, ?_⟩
  · intro p hp
    cases hp with
    | head => exact hh
    | tail _ hp => exact hk'.en p hp
  · show (List.filterMap _ _).Nodup
    rw [List.filterMap_cons]
    cases hek : e.key with
    | none => exact hw.nd
    | some k =>
      refine List.nodup_cons.2 ⟨fun hm => ?_, hw.nd⟩
      have := hw.klt (k := k) hm
      have := hk k hek
      omega
  · intro p hp k e'
    cases hp with
    | head =>
      cases hg : g k with
      | none => rfl
      | some o => have := hw.glt hg; have := hk k e'; omega
    | tail _ hp => exact hw.ap p hp k e'

def findE (h : Hs) (t : Nat) : Option Ent :=
  match h with
  | [] => none
  | (t', e) :: r => bif Nat.beq t' t then some e else findE r t
def updE (h : Hs) (t : Nat) (e : Ent) : Hs :=
  match h with
  | [] => []
  | (t', e') :: r => bif Nat.beq t' t then (t', e) :: r else (t', e') :: updE r t e

theorem findE_split {h : Hs} {t : Nat} {e : Ent} (hf : findE h t = some e) : ∃ h1 h2, h = h1 ++ (t, e) :: h2 ∧ ∀ e', updE h t e' = h1 ++ (t, e') :: h2 := by
  induction h with
  | nil => cases hf
  | cons p r ih =>
    obtain ⟨t', e1⟩ := p
    unfold findE at hf
    cases hb : Nat.beq t' t with
    | true =>
      rw [hb] at hf
      cases hf
      obtain rfl : t' = t := Nat.eq_of_beq_eq_true hb
      exact ⟨[], r, rfl, fun e' => by unfold updE; rw [hb]; rfl⟩
    | false =>
      rw [hb] at hf
      obtain ⟨h1, h2, rfl, hu⟩ := ih hf
      exact ⟨(t', e1) :: h1, h2, rfl, fun e' => by unfold updE; rw [hb, cond_false, hu]; rfl⟩

theorem findE_mem {h : Hs} {t : Nat} {e : Ent} (hf : findE h t = some e) : (t, e) ∈ h := by
  obtain ⟨h1, h2, rfl, _⟩ := findE_split hf; simp

/-- An own block is turned; it may have moved to a new one. -/
theorem Ok.upd {g : GH} {h : Hs} {w w' : World} (hw : Ok g h w) {t : Nat} {e e' : Ent} (hf : findE h t = some e)
    (hs : ∀ k, k < w.heap.size → e.key ≠ some k → w'.heap[k]? = w.heap[k]?) (hh : e'.holds w') (hk : ∀ k, e'.key = some k → e.key = some k ∨ w.heap.size ≤ k) (hm : Same w w' := by exact ⟨rfl, rfl, rfl⟩) : Ok g (updE h t e') w' := by
  obtain ⟨h1, h2, rfl, hu⟩ := findE_split hf
  rw [hu]
  have hnd := hw.nd
  have hmem : (t, e) ∈ h1 ++ (t, e) :: h2 := by simp
  have hnd' : ((h1.filterMap (·.2.key)) ++ (e.key.toList ++ h2.filterMap (·.2.key))).Nodup := by
    have e1 : (h1 ++ (t, e) :: h2).filterMap (·.2.key) = h1.filterMap (·.2.key) ++ (e.key.toList ++ h2.filterMap (·.2.key)) := by
      rw [List.filterMap_append, List.filterMap_cons]; cases e.key <;> rfl
    rw [← e1]; exact hnd
  have hother : ∀ p, p ∈ h1 ∨ p ∈ h2 → ∀ k, p.2.key = some k → e.key ≠ some k := by
    intro p hp k hk1 hk2
    rw [hk2] at hnd'
    have hm : k ∈ h1.filterMap (·.2.key) ∨ k ∈ h2.filterMap (·.2.key) := by
      rcases hp with hp | hp
      · exact .inl (List.mem_filterMap.2 ⟨p, hp, hk1⟩)
      · exact .inr (List.mem_filterMap.2 ⟨p, hp, hk1⟩)
    rcases hm with hm | hm
    · exact (List.nodup_append.1 hnd').2.2 k hm k (by simp) rfl
    · have := (List.nodup_append.1 hnd').2.1
      simp only [Option.toList_some, List.singleton_append, List.nodup_cons] at this
      exact this.1 hm
  have hpm : ∀ p, p ∈ h1 ∨ p ∈ h2 → p ∈ h1 ++ (t, e) :: h2 := by
    intro p hp; rcases hp with hp | hp <;> simp [hp]
  refine ⟨?_, ?_, ?_, ?_⟩
  · intro k o hg
    refine (hs k (hw.glt hg) fun hek => ?_).trans (hw.gh k o hg)
    have := hw.ap _ hmem k hek
    rw [this] at hg; cases hg
  · intro p hp
    rcases List.mem_append.1 hp with hp | hp
    · exact Ent.holds_congr hm (hh := hw.en p (hpm p (.inl hp))) <| fun k hk1 => hs k ((Ent.holds_lt (hw.en p (hpm p (.inl hp)))) k hk1) (hother p (.inl hp) k hk1)
    · cases hp with
      | head => exact hh
      | tail _ hp => exact Ent.holds_congr hm (hh := hw.en p (hpm p (.inr hp))) <| fun k hk1 => hs k ((Ent.holds_lt (hw.en p (hpm p (.inr hp)))) k hk1) (hother p (.inr hp) k hk1)
  · have e1 : (h1 ++ (t, e') :: h2).filterMap (·.2.key) = h1.filterMap (·.2.key) ++ (e'.key.toList ++ h2.filterMap (·.2.key)) := by
      rw [List.filterMap_append, List.filterMap_cons]; cases e'.key <;> rfl
    rw [e1]
    cases hk' : e'.key with
    | none =>
      simp only [Option.toList_none, List.nil_append]
      refine hnd'.sublist ?_
      exact List.Sublist.append_left (List.sublist_append_right _ _) _
    | some k =>
      rcases hk k hk' with hek | hge
      · rw [hek] at hnd'; exact hnd'
      · have hnew : ∀ p, p ∈ h1 ∨ p ∈ h2 → p.2.key ≠ some k := fun p hp e2 => by
          have := (Ent.holds_lt (hw.en p (hpm p hp))) k e2; omega
        have hbase : ((h1.filterMap (·.2.key)) ++ (h2.filterMap (·.2.key))).Nodup :=
          hnd'.sublist (List.Sublist.append_left (List.sublist_append_right _ _) _)
        simp only [Option.toList_some, List.singleton_append]
        have hp := List.perm_middle (a := k) (l₁ := h1.filterMap (·.2.key)) (l₂ := h2.filterMap (·.2.key))
        refine hp.nodup_iff.2 (List.nodup_cons.2 ⟨fun hm => ?_, hbase⟩)
        rcases List.mem_append.1 hm with hm | hm
        · obtain ⟨p, hp1, hp2⟩ := List.mem_filterMap.1 hm; exact hnew p (.inl hp1) hp2
        · obtain ⟨p, hp1, hp2⟩ := List.mem_filterMap.1 hm; exact hnew p (.inr hp1) hp2
  · intro p hp k hk1
    rcases List.mem_append.1 hp with hp | hp
    · exact hw.ap p (hpm p (.inl hp)) k hk1
    · cases hp with
      | head =>
        rcases hk k hk1 with hek | hge
        · exact hw.ap _ hmem k hek
        · cases hg : g k with
          | none => rfl
          | some o => have := hw.glt hg; omega
      | tail _ hp => exact hw.ap p (hpm p (.inr hp)) k hk1

/-- A choice of what is told, in any order. -/
def pick (h : Hs) (is : List Nat) : Hs := is.filterMap (h[·]?)
theorem Ok.pick {g : GH} {h : Hs} {w : World} (hw : Ok g h w) (is : List Nat) (hn : is.Nodup) : Ok g (pick h is) w := by
  have hmem : ∀ p, p ∈ Eng.pick h is → p ∈ h := fun p hp => by
    obtain ⟨i, _, hi⟩ := List.mem_filterMap.1 hp
    exact List.mem_of_getElem? hi
  refine ⟨hw.gh, fun p hp => hw.en p (hmem p hp), ?_, fun p hp => hw.ap p (hmem p hp)⟩
  have hnd := hw.nd
  unfold List.Nodup at hnd hn ⊢
  rw [List.pairwise_filterMap] at hnd ⊢
  unfold Eng.pick
  rw [List.pairwise_filterMap]
  refine hn.imp ?_
  intro i j hij p hp q hq k hk k' hk' e
  rcases Nat.lt_or_ge i j with hlt | hge
  · obtain ⟨hi1, hi2⟩ := List.getElem?_eq_some_iff.1 hp
    obtain ⟨hj1, hj2⟩ := List.getElem?_eq_some_iff.1 hq
    exact List.pairwise_iff_getElem.1 hnd i j hi1 hj1 hlt k (by rw [hi2]; exact hk) k' (by rw [hj2]; exact hk') e
  · obtain ⟨hi1, hi2⟩ := List.getElem?_eq_some_iff.1 hp
    obtain ⟨hj1, hj2⟩ := List.getElem?_eq_some_iff.1 hq
    exact List.pairwise_iff_getElem.1 hnd j i hj1 hi1 (by omega) k' (by rw [hj2]; exact hk') k (by rw [hi2]; exact hk) e.symm
theorem Ok.perm {g : GH} {h h' : Hs} {w : World} (hp : h.Perm h') (hw : Ok g h w) : Ok g h' w :=
  ⟨hw.gh, fun p hm => hw.en p (hp.mem_iff.2 hm), (hp.filterMap _).nodup_iff.1 hw.nd, fun p hm => hw.ap p (hp.mem_iff.2 hm)⟩
theorem Ok.sub {g : GH} {h h' : Hs} {w : World} (hs : h'.Sublist h) (hw : Ok g h w) : Ok g h' w :=
  ⟨hw.gh, fun p hm => hw.en p (hs.subset hm), hw.nd.sublist (hs.filterMap _), fun p hm => hw.ap p (hs.subset hm)⟩
/-- Only what is told of the first 'm' is chosen from; the rest stays. -/
def pickN (m : Nat) (h : Hs) (is : List Nat) : Hs := pick (h.take m) is ++ h.drop m
theorem nodupB {l : List Nat} (h : l.all (fun i => l.count i == 1) = true) : l.Nodup := by
  rw [List.nodup_iff_count]
  intro a
  by_cases ha : a ∈ l
  · have := List.all_eq_true.1 h a ha; simp at this; omega
  · rw [List.count_eq_zero_of_not_mem ha]; omega
theorem Ok.pickN {g : GH} {h : Hs} {w : World} (hw : Ok g h w) (m : Nat) (is : List Nat) (hn : is.Nodup) : Ok g (pickN m h is) w := by
  have h1 : Ok g (h.take m ++ h.drop m) w := by rw [List.take_append_drop]; exact hw
  have h2 := (Ok.sub (List.sublist_append_left _ _) h1).pick is hn
  have h3 := Ok.sub (List.sublist_append_right _ _) h1
  have hmem : ∀ p, p ∈ Eng.pick (h.take m) is → p ∈ h.take m := fun p hp => by
    obtain ⟨i, _, hi⟩ := List.mem_filterMap.1 hp
    exact List.mem_of_getElem? hi
  refine ⟨hw.gh, ?_, ?_, ?_⟩
  · intro p hp
    rcases List.mem_append.1 hp with hp | hp
    · exact h2.en p hp
    · exact h3.en p hp
  · show (List.filterMap _ (_ ++ _)).Nodup
    rw [List.filterMap_append]
    refine List.nodup_append.2 ⟨h2.nd, h3.nd, ?_⟩
    intro a ha b hb e
    obtain ⟨p, hp, hpk⟩ := List.mem_filterMap.1 ha
    obtain ⟨q, hq, hqk⟩ := List.mem_filterMap.1 hb
    have := h1.nd
    rw [List.filterMap_append] at this
    exact (List.nodup_append.1 this).2.2 a (List.mem_filterMap.2 ⟨p, hmem p hp, hpk⟩) b (List.mem_filterMap.2 ⟨q, hq, hqk⟩) e
  · intro p hp
    rcases List.mem_append.1 hp with hp | hp
    · exact h2.ap p hp
    · exact h3.ap p hp

/-- What was an own block is fixed from now on. -/
theorem Ok.fix {g : GH} {t : Nat} {e : Ent} {h : Hs} {w : World} {b : Nat} {o : Obj} (hw : Ok g ((t, e) :: h) w) (hk : e.key = some b) (ho : w.heap[b]? = some o) : Ok (g.add b o) h w ∧ g.le (g.add b o) := by
  have h1 : Ok g h w := Ok.sub (List.sublist_cons_self _ _) hw
  have hgb : g b = none := hw.ap (t, e) (by simp) b hk
  refine ⟨⟨?_, h1.en, h1.nd, ?_⟩, GH.le_add o hgb⟩
  · intro k o' e'
    unfold GH.add at e'
    split at e'
    · rename_i hkb; cases e'; rw [hkb]; exact ho
    · exact h1.gh k o' e'
  · intro p hp k hk1
    unfold GH.add
    split
    · rename_i hkb
      have := hw.nd
      rw [List.filterMap_cons, show ((t, e) : Nat × Ent).2.key = some b from hk] at this
      subst hkb
      exact absurd (List.mem_filterMap.2 ⟨p, hp, hk1⟩) (List.nodup_cons.1 this).1
    · exact h1.ap p hp k hk1
end Go.Eng
