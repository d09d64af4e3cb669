/- Data: what cells hold, slices that are only read, own slices; and the steps that make and grow them. -/
import Derived.Test.YtmkjcahdjphimaaE6
import Derived.Maps.AppendAt
import Derived.Test.YtmkjcahdjphimaaM0
namespace Go.Eng
open Go

structure Kd (α : Type) where
  sz : Nat
  R : GH → List Value → α → Prop
  len : ∀ {g cs x}, R g cs x → cs.length = sz
  one : ∀ {g cs x}, R g cs x → ∀ u ∈ cs, u.oneCell' = true
  mono : ∀ {g g' cs x}, g.le g' → R g cs x → R g' cs x

def Kd.int (k : IntKind) : Kd Int := ⟨1, fun _ cs x => cs = [.int k x], fun h => by rw [h]; rfl, fun h u hu => by rw [h] at hu; simp at hu; rw [hu]; rfl, fun _ h => h⟩
def Kd.bool : Kd Bool := ⟨1, fun _ cs x => cs = [.bool x], fun h => by rw [h]; rfl, fun h u hu => by rw [h] at hu; simp at hu; rw [hu]; rfl, fun _ h => h⟩
def Kd.str : Kd ByteArray := ⟨1, fun _ cs x => cs = [.string x], fun h => by rw [h]; rfl, fun h u hu => by rw [h] at hu; simp at hu; rw [hu]; rfl, fun _ h => h⟩
def Kd.pair {α β : Type} (d : Kd α) (e : Kd β) : Kd (α × β) := ⟨d.sz + e.sz, fun g cs x => ∃ c1 c2, cs = c1 ++ c2 ∧ d.R g c1 x.1 ∧ e.R g c2 x.2,
  fun ⟨c1, c2, h, h1, h2⟩ => by rw [h, List.length_append, d.len h1, e.len h2],
  fun ⟨c1, c2, h, h1, h2⟩ u hu => by
    rw [h] at hu
    rcases List.mem_append.1 hu with hu | hu
    · exact d.one h1 u hu
    · exact e.one h2 u hu,
  fun hg ⟨c1, c2, h, h1, h2⟩ => ⟨c1, c2, h, d.mono hg h1, e.mono hg h2⟩⟩

section
variable {α : Type} {d : Kd α} {g g' : GH}

/-- Cells of a row of values. -/
def Rw (d : Kd α) (g : GH) : List Value → List α → Prop
  | cs, [] => cs = []
  | cs, x :: xs => ∃ c1 c2, cs = c1 ++ c2 ∧ d.R g c1 x ∧ Rw d g c2 xs
theorem Rw.nil : Rw d g [] [] := rfl
theorem Rw.cons {x : α} {xs : List α} {c1 c2 : List Value} (h1 : d.R g c1 x) (h2 : Rw d g c2 xs) : Rw d g (c1 ++ c2) (x :: xs) := ⟨c1, c2, rfl, h1, h2⟩
theorem Rw.one1 {x : α} {c1 : List Value} (h1 : d.R g c1 x) : Rw d g c1 [x] := ⟨c1, [], by simp, h1, rfl⟩
theorem Rw.len : ∀ {xs : List α} {cs : List Value}, Rw d g cs xs → cs.length = xs.length * d.sz
  | [], _, h => by rw [show _ = [] from h]; simp
  | x :: xs, _, ⟨c1, c2, h, h1, h2⟩ => by rw [h, List.length_append, d.len h1, Rw.len h2, List.length_cons, Nat.add_mul, Nat.one_mul, Nat.add_comm]
theorem Rw.one : ∀ {xs : List α} {cs : List Value}, Rw d g cs xs → ∀ u ∈ cs, u.oneCell' = true
  | [], _, h, u, hu => by rw [show _ = [] from h] at hu; cases hu
  | x :: xs, _, ⟨c1, c2, h, h1, h2⟩, u, hu => by
    rw [h] at hu
    rcases List.mem_append.1 hu with hu | hu
    · exact d.one h1 u hu
    · exact Rw.one h2 u hu
theorem Rw.mono (hg : g.le g') : ∀ {xs : List α} {cs : List Value}, Rw d g cs xs → Rw d g' cs xs
  | [], _, h => h
  | _ :: _, _, ⟨c1, c2, h, h1, h2⟩ => ⟨c1, c2, h, d.mono hg h1, Rw.mono hg h2⟩
theorem Rw.app : ∀ {xs ys : List α} {cs cs' : List Value}, Rw d g cs xs → Rw d g cs' ys → Rw d g (cs ++ cs') (xs ++ ys)
  | [], ys, cs, cs', h, h' => by rw [show cs = [] from h]; exact h'
  | x :: xs, ys, cs, cs', ⟨c1, c2, h, h1, h2⟩, h' => ⟨c1, c2 ++ cs', by rw [h, List.append_assoc], h1, Rw.app h2 h'⟩
theorem Rw.get : ∀ {xs : List α} {cs : List Value} {i : Nat} {x : α}, Rw d g cs xs → xs[i]? = some x → ∃ c, d.R g c x ∧ ∀ j u, c[j]? = some u → cs[i * d.sz + j]? = some u
  | [], _, i, x, _, hx => by simp at hx
  | y :: xs, cs, 0, x, ⟨c1, c2, h, h1, h2⟩, hx => by
    simp at hx; subst hx
    refine ⟨c1, h1, fun j u hu => ?_⟩
    rw [h, Nat.zero_mul, Nat.zero_add, List.getElem?_append_left (List.getElem?_eq_some_iff.1 hu).1]
    exact hu
  | y :: xs, cs, i + 1, x, ⟨c1, c2, h, h1, h2⟩, hx => by
    obtain ⟨c, hc, hh⟩ := Rw.get h2 (i := i) (by simpa using hx)
    refine ⟨c, hc, fun j u hu => ?_⟩
    have hl := d.len h1
    rw [h, List.getElem?_append_right (by rw [hl, Nat.add_mul]; omega), ← hh j u hu]
    congr 1
    rw [hl, Nat.add_mul, Nat.one_mul]
    omega
theorem Rw.set : ∀ {xs : List α} {cs : List Value} {i : Nat} {x : α} {c : List Value}, Rw d g cs xs → i < xs.length → d.R g c x → Rw d g (splice cs (i * d.sz) c) (xs.set i x)
  | [], _, i, _, _, _, hi, _ => by simp at hi
  | y :: xs, cs, 0, x, c, ⟨c1, c2, h, h1, h2⟩, _, hc => by
    refine ⟨c, c2, ?_, hc, h2⟩
    rw [h]
    simp [splice, d.len hc, d.len h1]
  | y :: xs, cs, i + 1, x, c, ⟨c1, c2, h, h1, h2⟩, hi, hc => by
    have ih := Rw.set h2 (i := i) (by simpa using hi) hc
    refine ⟨c1, splice c2 (i * d.sz) c, ?_, h1, ih⟩
    have hl := d.len h1
    rw [h]
    unfold splice
    have e1 : (i + 1) * d.sz = c1.length + i * d.sz := by rw [hl, Nat.add_mul, Nat.one_mul, Nat.add_comm]
    rw [e1, List.take_length_add_append, Nat.add_assoc, List.drop_length_add_append]
    simp
theorem Rw.take : ∀ {xs : List α} {cs : List Value} (i : Nat), Rw d g cs xs → Rw d g (cs.take (i * d.sz)) (xs.take i)
  | [], cs, i, h => by rw [show cs = [] from h]; simp [Rw]
  | x :: xs, cs, 0, _ => by simp [Rw]
  | x :: xs, cs, i + 1, ⟨c1, c2, h, h1, h2⟩ => by
    refine ⟨c1, c2.take (i * d.sz), ?_, h1, Rw.take i h2⟩
    have e1 : (i + 1) * d.sz = c1.length + i * d.sz := by rw [d.len h1, Nat.add_mul, Nat.one_mul, Nat.add_comm]
    rw [h, e1, List.take_length_add_append]
theorem Rw.drop : ∀ {xs : List α} {cs : List Value} (i : Nat), Rw d g cs xs → Rw d g (cs.drop (i * d.sz)) (xs.drop i)
  | [], cs, i, h => by rw [show cs = [] from h]; simp [Rw]
  | x :: xs, cs, 0, h => by simpa using h
  | x :: xs, cs, i + 1, ⟨c1, c2, h, h1, h2⟩ => by
    have e1 : (i + 1) * d.sz = c1.length + i * d.sz := by rw [d.len h1, Nat.add_mul, Nat.one_mul, Nat.add_comm]
    rw [h, e1, List.drop_length_add_append, List.drop_succ_cons]
    exact Rw.drop i h2
theorem Rw.rep {x : α} {c : List Value} (hc : d.R g c x) : ∀ n, Rw d g (List.replicate n c).flatten (List.replicate n x)
  | 0 => rfl
  | n + 1 => ⟨c, (List.replicate n c).flatten, by simp [List.replicate_succ], hc, Rw.rep hc n⟩

/-- A slice that is only read: its values. -/
structure Sl (d : Kd α) (g : GH) (a : Option Addr) (n c : Nat) (xs : List α) : Prop where
  len : n = xs.length
  le : n ≤ c
  max : c ≤ maxLen
  flat : FlatA a n
  nil : a = none → c = 0
  cells : ∃ cs, Rw d g cs xs ∧ ∀ j u, cs[j]? = some u → gcell g ⟨ab a, ao a + j, none⟩ = some u

theorem Sl.mono {a : Option Addr} {n c : Nat} {xs : List α} (hg : g.le g') (h : Sl d g a n c xs) : Sl d g' a n c xs := by
  obtain ⟨cs, h1, h2⟩ := h.cells
  refine ⟨h.len, h.le, h.max, h.flat, h.nil, cs, Rw.mono hg h1, fun j u hu => ?_⟩
  have := h2 j u hu
  unfold gcell at this ⊢
  cases hb : g (⟨ab a, ao a + j, none⟩ : Addr).block with
  | none => rw [hb] at this; cases this
  | some o => rw [hb] at this; rw [hg _ _ hb]; exact this

theorem Sl.at {a : Option Addr} {n c : Nat} {xs : List α} (h : Sl d g a n c xs) {i : Nat} {x : α} (hx : xs[i]? = some x) :
    ∃ cs, d.R g cs x ∧ ∀ (ad : Addr) (off : Nat) (ag : Bool) (m : Nat) (v : Value), ad.spot = none → ad.block = ab a → ad.off = ao a + i * d.sz + off → OwnRead cs off ag m v → GLoad g ad ag m v := by
  obtain ⟨cs0, hr, hc⟩ := h.cells
  obtain ⟨cs, h1, h2⟩ := hr.get hx
  refine ⟨cs, h1, ?_⟩
  rintro ⟨b, o, sp⟩ off ag m v rfl rfl rfl hor
  have cell : ∀ j u, cs[j]? = some u → gcell g ⟨ab a, ao a + i * d.sz + j, none⟩ = some u := fun j u hu => by
    have := hc _ _ (h2 j u hu)
    rwa [← Nat.add_assoc] at this
  cases ag with
  | true =>
    obtain ⟨hl, rfl⟩ : (seg cs off m).length = m ∧ v = .agg (seg cs off m).toArray := hor
    exact ⟨seg cs off m, rfl, hl, fun j u hu => by rw [add_flat, Nat.add_assoc (ao a + i * d.sz)]; exact cell _ _ (seg_get hu)⟩
  | false => exact cell _ _ hor
theorem Sl.at' {a : Option Addr} {n c : Nat} {xs : List α} (h : Sl d g a n c xs) {i : Int} {x : α} (hx : idx xs i = some x) :
    (0 ≤ i ∧ i < n ∧ FlatA a n) ∧ ∃ cs, d.R g cs x ∧ ∀ (ad : Addr) (off : Nat) (ag : Bool) (m : Nat) (v : Value), ad.spot = none → ad.block = ab a → ad.off = ao a + i.toNat * d.sz + off → OwnRead cs off ag m v → GLoad g ad ag m v := by
  obtain ⟨h0, h1, h2⟩ := idx_some hx
  exact ⟨⟨h0, by rw [h.len]; exact h1, h.flat⟩, h.at h2⟩

def Kd.sl (d : Kd α) : Kd (List α) := ⟨1, fun g cs xs => ∃ a c, cs = [.slice a xs.length c] ∧ Sl d g a xs.length c xs, fun ⟨_, _, h, _⟩ => by rw [h]; rfl,
  fun ⟨_, _, h, _⟩ u hu => by rw [h] at hu; simp at hu; rw [hu]; rfl, fun hg ⟨a, c, h, hs⟩ => ⟨a, c, h, hs.mono hg⟩⟩
def Kd.arr (n : Nat) (d : Kd α) : Kd (List α) := ⟨n * d.sz, fun g cs xs => xs.length = n ∧ Rw d g cs xs, fun ⟨h1, h2⟩ => by rw [h2.len, h1], fun ⟨_, h2⟩ => h2.one, fun hg ⟨h1, h2⟩ => ⟨h1, h2.mono hg⟩⟩

theorem Sl.nil' : Sl d g none 0 0 [] := ⟨rfl, Nat.le_refl _, Nat.zero_le _, ⟨fun _ => rfl, fun _ h => by cases h⟩, fun _ => rfl, [], rfl, fun _ _ h => by simp at h⟩

theorem ab_add (a : Option Addr) (k : Nat) (h : ∀ ad, a = some ad → ad.spot = none) : ab (a.map (·.add k)) = ab a := by
  cases a with
  | none => rfl
  | some ad => obtain ⟨b, o, sp⟩ := ad; cases h _ rfl; simp [ab, add_flat]
theorem ao_add (ad : Addr) (k : Nat) (h : ad.spot = none) : ao ((some ad).map (·.add k)) = ao (some ad) + k := by
  obtain ⟨b, o, sp⟩ := ad; cases h; simp [ao, add_flat]

/-- A part of a slice that is only read. -/
theorem Sl.sub {a : Option Addr} {n c : Nat} {xs : List α} (h : Sl d g a n c xs) {l m : Nat} (hl : l ≤ m) (hm : m ≤ n) : Sl d g (subA a c l d.sz) (m - l) (c - l) ((xs.take m).drop l) := by
  obtain ⟨cs, hr, hc⟩ := h.cells
  have hlen := h.len
  have hle := h.le
  have hmx := h.max
  refine ⟨?_, by omega, by omega, ⟨?_, ?_⟩, ?_, ((cs.take (m * d.sz)).drop (l * d.sz)), (hr.take m).drop l, ?_⟩
  · rw [List.length_drop, List.length_take]; omega
  · intro e
    unfold subA at e
    split at e
    · have := h.nil e; omega
    · have := h.nil (by simpa using e); omega
  · intro ad e
    unfold subA at e
    split at e
    · left; omega
    · obtain ⟨ad', h1, rfl⟩ := Option.map_eq_some_iff.1 e
      rcases h.flat.2 ad' h1 with h0 | this
      · left; omega
      · right; unfold Addr.add; split <;> simp_all
  · intro e
    unfold subA at e
    split at e
    · have := h.nil e; omega
    · have := h.nil (by simpa using e); omega
  · intro j u hu
    rw [List.getElem?_drop, List.getElem?_take] at hu
    split at hu <;> try (cases hu; done)
    have := hc _ _ hu
    unfold subA
    split
    · rename_i hcl
      have hj : l * d.sz + j < m * d.sz := by assumption
      have hml : m = l := by omega
      subst hml
      omega
    · cases a with
      | none => have hn := h.flat.1 rfl; have : xs = [] := List.eq_nil_of_length_eq_zero (by omega); subst this; rw [show cs = [] from hr] at hu; simp at hu
      | some ad =>
        have hj : l * d.sz + j < m * d.sz := by assumption
        have hm0 : m ≠ 0 := fun e => by subst e; omega
        have hsp : ad.spot = none := by
          rcases h.flat.2 ad rfl with h0 | h0
          · omega
          · exact h0
        rw [ab_add _ _ (fun _ e => by cases e; exact hsp), ao_add ad _ hsp, Nat.add_assoc]
        exact this

/-- An own slice becomes one that is only read. -/
theorem Ok.freeze {h : Hs} {w : World} {t n c : Nat} {a : Option Addr} {T : TypeId} {cs : List Value} {xs : List α} (hw : Ok g ((t, .sl a n c T d.sz cs) :: h) w) (hr : Rw d g cs xs) (hn : n = xs.length) :
    ∃ g', g.le g' ∧ Ok g' h w ∧ Sl d g' a n c xs ∧ ∀ g'' h' w', g'.le g'' → Ok g'' h' w' → Ok g ((t, .sl a n c T d.sz cs) :: h') w' := by
  have hh : w.ownsRow 0 T d.sz (.slice a n c) n cs := hw.en (t, .sl a n c T d.sz cs) (by simp)
  rcases ownsRow_key hh with ⟨rfl, rfl, rfl, rfl⟩ | ⟨b, cur, rfl, h1, h2, h3, h4, h5⟩
  · have : xs = [] := List.eq_nil_of_length_eq_zero (by omega)
    subst this
    refine ⟨g, GH.le_refl g, Ok.sub (List.sublist_cons_self _ _) hw, Sl.nil', fun g'' h' w' hg hw' => ⟨?_, ?_, ?_, ?_⟩⟩
    · exact fun k o e => hw'.gh k o (hg k o e)
    · intro p hp
      cases hp with
      | head => exact World.ownsRow_nil w' 0 T d.sz
      | tail _ hp => exact hw'.en p hp
    · exact hw'.nd
    · intro p hp k hk
      cases hp with
      | head => cases hk
      | tail _ hp =>
        have := hw'.ap p hp k hk
        cases hgk : g k with
        | none => rfl
        | some o => rw [hg k o hgk] at this; cases this
  · obtain ⟨hok, hle⟩ := hw.fix (b := b) rfl h1
    have hgb : (g.add b (.cells cur T (0, 0))) b = some (.cells cur T (0, 0)) := by simp [GH.add]
    refine ⟨_, hle, hok, ⟨hn, h2, h3, ⟨(fun e => by cases e), (fun ad e => by cases e; exact .inr rfl)⟩, (fun e => by cases e), cs, Rw.mono hle hr, ?_⟩, ?_⟩
    · intro j u hu
      unfold gcell
      show (match (g.add b _) b with | some (.cells c _ _) => if false = true then none else c[0 + j]? | _ => none) = some u
      rw [hgb]
      have e1 : cur.toList[j]? = some u := by
        rw [← h5, List.getElem?_take] at hu
        split at hu
        · exact hu
        · cases hu
      simpa using e1
    · intro g'' h' w' hg hw'
      have hb'' : g'' b = some (.cells cur T (0, 0)) := hg b _ hgb
      refine ⟨fun k o e => hw'.gh k o (hg k o (hle k o e)), ?_, ?_, ?_⟩
      · intro p hp
        cases hp with
        | head => exact ownsRow_mk (hw'.gh b _ hb'') h2 h3 h4 h5
        | tail _ hp => exact hw'.en p hp
      · show (List.filterMap _ _).Nodup
        rw [List.filterMap_cons]
        refine List.nodup_cons.2 ⟨fun hm => ?_, hw'.nd⟩
        obtain ⟨p, hp, hk⟩ := List.mem_filterMap.1 hm
        have := hw'.ap p hp b hk
        rw [hb''] at this; cases this
      · intro p hp k hk
        cases hp with
        | head => cases hk; exact hw.ap (t, .sl (some ⟨b, 0, none⟩) n c T d.sz cs) (by simp) b rfl
        | tail _ hp =>
          have := hw'.ap p hp k hk
          cases hgk : g k with
          | none => rfl
          | some o => rw [hg k o (hle k o hgk)] at this; cases this

theorem Ok.gweak {h : Hs} {w : World} (hg : g.le g') (hw : Ok g' h w) : Ok g h w := ⟨fun k o e => hw.gh k o (hg k o e), hw.en, hw.nd, fun p hp k hk => by
  have := hw.ap p hp k hk
  cases hgk : g k with
  | none => rfl
  | some o => rw [hg k o hgk] at this; cases this⟩
end

/-- What is told, chosen and named anew: new tag, old place. -/
def pickT (h : Hs) (is : List (Nat × Nat)) : Hs := is.filterMap fun p => (h[p.2]?).map fun q => (p.1, q.2)
def pickNT (m : Nat) (h : Hs) (is : List (Nat × Nat)) : Hs := pickT (h.take m) is ++ h.drop m
theorem Ok.retag {g : GH} {h h' : Hs} {w : World} (he : h.map (·.2) = h'.map (·.2)) (hw : Ok g h w) : Ok g h' w := by
  have mem : ∀ p ∈ h', ∃ q ∈ h, q.2 = p.2 := fun p hp => by
    have : p.2 ∈ h'.map (·.2) := List.mem_map.2 ⟨p, hp, rfl⟩
    rw [← he] at this
    obtain ⟨q, hq, e⟩ := List.mem_map.1 this
    exact ⟨q, hq, e⟩
  have e1 : h'.filterMap (·.2.key) = h.filterMap (·.2.key) := by
    have : ∀ l : Hs, l.filterMap (·.2.key) = (l.map (·.2)).filterMap (·.key) := fun l => by rw [List.filterMap_map]; rfl
    rw [this h', this h, he]
  refine ⟨hw.gh, ?_, ?_, ?_⟩
  · intro p hp
    obtain ⟨q, hq, e⟩ := mem p hp
    rw [← e]; exact hw.en q hq
  · have := hw.nd
    rw [e1]; exact this
  · intro p hp k hk
    obtain ⟨q, hq, e⟩ := mem p hp
    rw [← e] at hk; exact hw.ap q hq k hk
theorem pickT_map (h : Hs) (is : List (Nat × Nat)) : (pickT h is).map (·.2) = (pick h (is.map (·.2))).map (·.2) := by
  unfold pickT pick
  rw [List.filterMap_map, List.map_filterMap, List.map_filterMap]
  congr 1
  funext p
  show Option.map _ (Option.map _ h[p.2]?) = Option.map _ h[p.2]?
  cases h[p.2]? <;> rfl
theorem Ok.pickNT {g : GH} {h : Hs} {w : World} (hw : Ok g h w) (m : Nat) (is : List (Nat × Nat)) (hn : (is.map (·.2)).all (fun i => (is.map (·.2)).count i == 1) = true) : Ok g (pickNT m h is) w := by
  refine Ok.retag ?_ (hw.pickN m (is.map (·.2)) (nodupB hn))
  unfold Eng.pickN Eng.pickNT
  rw [List.map_append, List.map_append, pickT_map]
def rmE (h : Hs) (t : Nat) : Hs :=
  match h with
  | [] => []
  | (t', e) :: r => bif Nat.beq t' t then r else (t', e) :: rmE r t
theorem rmE_perm {h : Hs} {t : Nat} {e : Ent} (hf : findE h t = some e) : h.Perm ((t, e) :: rmE h t) := by
  induction h with
  | nil => cases hf
  | cons p r ih =>
    obtain ⟨t', e'⟩ := p
    unfold findE at hf
    cases hb : Nat.beq t' t with
    | true =>
      rw [hb] at hf; cases hf
      have := Nat.eq_of_beq_eq_true hb
      subst this
      unfold rmE; rw [hb]; exact List.Perm.refl _
    | false =>
      rw [hb] at hf
      unfold rmE; rw [hb]
      exact (List.Perm.cons _ (ih hf)).trans (List.Perm.swap _ _ _)
theorem St.ok.pickT {s : St} {a : Act} {w : World} (h : s.ok a w) (m : Nat) (is : List (Nat × Nat)) (hn : (is.map (·.2)).all (fun i => (is.map (·.2)).count i == 1) = true) : ({ s with h := pickNT m s.h is } : St).ok a w :=
  ⟨h.env, h.df, h.ok.pickNT m is hn⟩

section
variable {P : Program} {ρ : Option Nat} {c : Code} {Q : Post} {s : St}
theorem PO.freeze {x : Exit} {α : Type} {d : Kd α} {t n cc : Nat} {a : Option Addr} {T : TypeId} {cs : List Value} {xs : List α} (hf : findE s.h t = some (.sl a n cc T d.sz cs)) (hr : Rw d s.g cs xs) (hn : n = xs.length)
    (h : ∀ g', s.g.le g' → Sl d g' a n cc xs → PO Q x { s with g := g', h := rmE s.h t }) : PO Q x s := fun ac w hs => by
  obtain ⟨g', h1, h2, h3, _⟩ := Ok.freeze (Ok.perm (rmE_perm hf) hs.ok) hr hn
  exact h g' h1 h3 ac w ⟨hs.env, hs.df, h2⟩
theorem WP.freeze {α : Type} {d : Kd α} {t n cc : Nat} {a : Option Addr} {T : TypeId} {cs : List Value} {xs : List α} (hf : findE s.h t = some (.sl a n cc T d.sz cs)) (hr : Rw d s.g cs xs) (hn : n = xs.length)
    (h : ∀ g', s.g.le g' → Sl d g' a n cc xs → WP P ρ c Q { s with g := g', h := rmE s.h t }) : WP P ρ c Q s := fun ac w hs => by
  obtain ⟨g', h1, h2, h3, _⟩ := Ok.freeze (Ok.perm (rmE_perm hf) hs.ok) hr hn
  exact h g' h1 h3 ac w ⟨hs.env, hs.df, h2⟩
theorem WO.freeze {i : Nat} {α : Type} {d : Kd α} {t n cc : Nat} {a : Option Addr} {T : TypeId} {cs : List Value} {xs : List α} (hf : findE s.h t = some (.sl a n cc T d.sz cs)) (hr : Rw d s.g cs xs) (hn : n = xs.length)
    (h : ∀ g', s.g.le g' → Sl d g' a n cc xs → WO P ρ c Q i { s with g := g', h := rmE s.h t }) : WO P ρ c Q i s := fun ac w hs => by
  obtain ⟨g', h1, h2, h3, _⟩ := Ok.freeze (Ok.perm (rmE_perm hf) hs.ok) hr hn
  exact h g' h1 h3 ac w ⟨hs.env, hs.df, h2⟩
theorem Ok.addNil {g : GH} {h : Hs} {w : World} (hw : Ok g h w) (t : Nat) (T : TypeId) (sz : Nat) : Ok g ((t, .sl none 0 0 T sz []) :: h) w :=
  hw.push (fun _ _ => rfl) (World.ownsRow_nil w 0 T sz) (fun k hk => by cases hk)
/-- An empty slice that will be grown. -/
theorem WO.nil {i : Nat} (t : Nat) (T : TypeId) (sz : Nat) (h : WO P ρ c Q i { s with h := (t, .sl none 0 0 T sz []) :: s.h }) : WO P ρ c Q i s := fun a w hs => h a w ⟨hs.env, hs.df, hs.ok.addNil t T sz⟩
theorem WP.nil (t : Nat) (T : TypeId) (sz : Nat) (h : WP P ρ c Q { s with h := (t, .sl none 0 0 T sz []) :: s.h }) : WP P ρ c Q s := fun a w hs => h a w ⟨hs.env, hs.df, hs.ok.addNil t T sz⟩

/-- An element type that slices are grown and made of. -/
def elOk (P : Program) (T el : TypeId) (sz : Nat) : Bool :=
  match P.underlying T, P.info? el with
  | some (.slice el'), some i => Nat.beq el' el && Nat.beq i.size sz && Nat.ble i.bytes 65536 && Nat.blt 0 sz && (match i.zero with
    | some z => Nat.beq z.cells.toList.length sz
    | none => false)
  | _, _ => false
theorem elOk_spec {P : Program} {T el sz : Nat} (h : elOk P T el sz = true) : P.underlying T = some (.slice el) ∧ ∃ i z, P.info? el = some i ∧ i.size = sz ∧ i.bytes ≤ 65536 ∧ 0 < sz ∧ i.zero = some z ∧ z.cells.size = sz := by
  unfold elOk at h
  split at h <;> try (cases h; done)
  rename_i el' i hT hi
  simp only [Bool.and_eq_true, Nat.beq_eq, Nat.ble_eq, Nat.blt_eq] at h
  obtain ⟨⟨⟨⟨h1, h2⟩, h3⟩, h4⟩, h5⟩ := h
  split at h5 <;> try (cases h5; done)
  rename_i z hz
  subst h1
  exact ⟨hT, i, z, hi, h2, h3, h4, hz, by simpa using Nat.eq_of_beq_eq_true h5⟩

/-- What can be read at a slice. -/
def Reads (g : GH) (h : Hs) (b : Option Addr) (m cc : Nat) (news : List Value) : Prop :=
  ∀ w, Ok g h w → (b = none → m = 0 ∧ cc = 0) ∧ ∀ ad, b = some ad → ∀ j u, news[j]? = some u → w.cell? (ad.add j) = some u
theorem Reads.own {g : GH} {h : Hs} {t : Nat} {b : Option Addr} {m cc : Nat} {T : TypeId} {sz : Nat} {news : List Value} (hf : findE h t = some (.sl b m cc T sz news)) : Reads g h b m cc news := fun w hw => by
  have hh := hw.en _ (findE_mem hf)
  refine ⟨fun e => ?_, fun ad e j u hu => ?_⟩
  · rcases ownsRow_key hh with ⟨_, h2, h3, _⟩ | ⟨b', cur, e', _⟩
    · exact ⟨h2, h3⟩
    · rw [e] at e'; cases e'
  · rcases ownsRow_key hh with ⟨h1, _⟩ | ⟨b', cur, e', h1, h2, h3, h4, h5⟩
    · rw [h1] at e; cases e
    · rw [e] at e'; cases e'
      rw [add_flat, Nat.zero_add]
      have := Ent.cell (e := .sl (some ⟨b', 0, none⟩) m cc T sz news) (by rw [← e]; exact hh) (b := b') (cs := news) rfl hu
      exact this
theorem Reads.gh {α : Type} {d : Kd α} {g : GH} {h : Hs} {b : Option Addr} {m cc : Nat} {xs : List α} (hs : Sl d g b m cc xs) : ∃ news, Rw d g news xs ∧ Reads g h b m cc news := by
  obtain ⟨cs, h1, h2⟩ := hs.cells
  refine ⟨cs, h1, fun w hw => ⟨fun e => ⟨hs.flat.1 e, hs.nil e⟩, fun ad e j u hu => ?_⟩⟩
  subst e
  have := gcell_cell hw (h2 j u hu)
  obtain ⟨b', o, sp⟩ := ad
  rcases hs.flat.2 _ rfl with h0 | h0
  · have hl := hs.len
    have : xs = [] := List.eq_nil_of_length_eq_zero (by omega)
    subst this
    rw [show cs = [] from h1] at hu; simp at hu
  · cases h0
    rw [add_flat]; exact this

def appAt (ops : Array Oper) (i n : Nat) (e : Env) : Option (TypeId × Value × Value × Option Tmp) :=
  match ops[i]? with
  | some o =>
    match o.op, guardOf ops e o with
    | .call { callee := .builtin .append, args := args, argTypes := ats }, some true =>
      match args.toList, ats.toList, known e args.toList && dstOk n o.dst with
      | [x, y], [T, T'], true => bif Nat.beq T T' then some (T, rho e x, rho e y, o.dst) else none
      | _, _, _ => none
    | _, _ => none
  | none => none

theorem Stp.append {i T el sz : Nat} {dst : Option Tmp} {t n cc m cc2 : Nat} {a b : Option Addr} {cs news : List Value} (n' : Nat) (ha : appAt (opsOf c) i s.n s.e = some (T, .slice a n cc, .slice b m cc2, dst)) (hel : elOk P T el sz = true)
    (hf : findE s.h t = some (.sl a n cc el sz cs)) (hr : Reads s.g s.h b m cc2 news) (hl : news.length = m * sz) (h1 : ∀ u ∈ news, u.oneCell' = true) (hn : n + m = n') (hb : n' ≤ 16777216) :
    Stp P ρ (opsOf c) i s (fun _ : Option Addr × Nat => True) (fun x => { s with e := putE s.e dst (.slice x.1 n' x.2), h := updE s.h t (.sl x.1 n' x.2 el sz (cs ++ news)) }) := by
  intro ac w hs R hR Q
  obtain ⟨hT, inf, z, hi, hsz, hby, hpos, hz, hzs⟩ := elOk_spec hel
  unfold appAt at ha
  cases ho : (opsOf c)[i]? with
  | none => rw [ho] at ha; cases ha
  | some o =>
    rw [ho] at ha
    simp only at ha
    split at ha <;> try (cases ha; done)
    rename_i args ats hop hgd
    split at ha <;> try (cases ha; done)
    rename_i x y T1 T2 hxs hts hkn
    cases hTT : Nat.beq T1 T2 with
    | false => rw [hTT] at ha; cases ha
    | true =>
      rw [hTT, cond_true] at ha
      injection ha with ha
      simp only [Prod.mk.injEq] at ha
      obtain ⟨rfl, hx, hy, rfl⟩ := ha
      obtain rfl := Nat.eq_of_beq_eq_true hTT
      simp only [Bool.and_eq_true] at hkn
      unfold wpOpIn
      simp only [ho]
      rw [guardOf_sound hgd hs.env, if_pos rfl]
      have hargs : args.map ac.eval = #[Value.slice a n cc, Value.slice b m cc2] := by
        apply Array.ext'
        rw [Array.toList_map, hxs]
        simp only [List.map_cons, List.map_nil, ← hx, ← hy]
        rw [hs.env.rho hkn.1 x (by rw [hxs]; simp), hs.env.rho hkn.1 y (by rw [hxs]; simp)]
      have hats : ats = #[T1, T1] := Array.ext' (by rw [hts])
      have hexec : ∀ v' w', (Builtin.append_ #[T1, T1] o.type #[.slice a n cc, .slice b m cc2]).run P w = .ok v' w' → (execOp ac.eval o).run P w = .ok (.value v') w' := by
        intro v' w' hrun
        simp only [execOp, hop, resolve, hats, hargs, Sem.run_bind, Sem.run_pure, Result.andThen_ok, invoke, builtin, hrun]
      have hrd := hr w hs.ok
      have hh := hs.ok.en _ (findE_mem hf)
      have hn63 : n + m ≤ maxLen := by rw [hn]; simp only [maxLen]; omega
      have hbytes : (n + m) * inf.bytes ≤ 140737488355328 := by
        rw [hn]
        exact Nat.le_trans (Nat.mul_le_mul hb hby) (by omega)
      have key : ∃ v' w', (Builtin.append_ #[T1, T1] o.type #[.slice a n cc, .slice b m cc2]).run P w = .ok v' w' ∧ w'.ownsRow 0 el sz v' (n + m) (cs ++ news) ∧ w.grownBy w' (Value.slice a n cc).ownBlock ∧ (v'.ownBlock = (Value.slice a n cc).ownBlock ∨ v'.ownBlock = some w.heap.size) := by
        cases b with
        | none =>
          obtain ⟨rfl, rfl⟩ := hrd.1 rfl
          have hnw : news = [] := List.eq_nil_of_length_eq_zero (by simpa using hl)
          subst hnw
          have := run_append_owned_none (P := P) w 0 T1 o.type el inf sz hT hi _ n cs hh
          exact ⟨_, _, this, by simpa using (show w.ownsRow 0 el sz (.slice a n cc) n cs from hh), ⟨rfl, rfl, rfl, Nat.le_refl _, fun _ _ _ => rfl⟩, .inl rfl⟩
        | some ad =>
          obtain ⟨v', w', h1', h2', h3', _, h4'⟩ := run_append_own_at (P := P) w 0 T1 o.type el inf z sz inf.bytes hT hi hz hsz rfl hzs hpos _ n cs hh ad m cc2 news hl (hrd.2 ad rfl) h1 hn63 hbytes (Nat.zero_le _)
          exact ⟨v', w', h1', h2', h3', h4'⟩
      obtain ⟨v', w', hrun, hown, hgrow, hlies⟩ := key
      refine run_op (v := v') ?_ (hexec v' w' hrun) rfl ?_
      · rw [hop]; rfl
      have hform : ∃ a' c', v' = .slice a' n' c' := by
        rw [hn] at hown
        rcases hown.2 with ⟨rfl, h0⟩ | ⟨b', cap, cur, rfl, _⟩
        · exact ⟨none, 0, by rw [h0]⟩
        · exact ⟨_, _, rfl⟩
      obtain ⟨a', c', rfl⟩ := hform
      rw [hn] at hown
      refine hR (a', c') _ _ trivial (hs.put hkn.2 ?_)
      refine hs.ok.upd hf ?_ hown ?_ ⟨hgrow.os, hgrow.tape, hgrow.output⟩
      · intro k hk hne
        refine hgrow.block k hk fun e => hne ?_
        cases a with
        | none => cases e
        | some ad =>
          rcases ownsRow_key hh with ⟨h0, _⟩ | ⟨b', cur, h0, _⟩
          · cases h0
          · cases h0; exact e.symm
      · intro k hk
        rcases ownsRow_key hown with ⟨rfl, _⟩ | ⟨b', cur, rfl, hb', _⟩
        · cases hk
        · cases hk
          rcases hlies with h | h
          · left
            cases a with
            | none => cases h
            | some ad =>
              rcases ownsRow_key hh with ⟨h0, _⟩ | ⟨b2, cur, h0, _⟩
              · cases h0
              · cases h0; exact h.symm
          · right
            have : b' = w.heap.size := by injection h
            rw [this]; exact Nat.le_refl _

def makeAt (ops : Array Oper) (i n : Nat) (e : Env) : Option (TypeId × Value × Value × Option Tmp) :=
  match ops[i]? with
  | some o =>
    match o.op, guardOf ops e o with
    | .makeSlice T x y, some true => bif known e [x, y] && dstOk n o.dst then some (T, rho e x, rho e y, o.dst) else none
    | _, _ => none
  | none => none
def zeroOf (P : Program) (el : TypeId) : List Value :=
  match (P.info? el).bind (·.zero) with
  | some z => z.cells.toList
  | none => []
theorem made_rep (z : Array Value) (n : Nat) (hz : 0 < z.size) : (madeCells z (n * z.size)).toList = (List.replicate n z.toList).flatten := by
  induction n with
  | zero => simp [madeCells]
  | succ n ih =>
    rw [List.replicate_succ', List.flatten_append, ← ih]
    apply List.ext_getElem?
    intro j
    simp only [madeCells, Array.toList_map, Array.toList_range, List.getElem?_map, List.flatten_cons, List.flatten_nil, List.append_nil]
    by_cases h : j < n * z.size
    · rw [List.getElem?_append_left (by simpa using h), List.getElem?_map, List.getElem?_range (by rw [Nat.add_mul]; omega), List.getElem?_range h]
    · rw [List.getElem?_append_right (by simpa using h)]
      simp only [List.length_map, List.length_range]
      by_cases h2 : j < (n + 1) * z.size
      · rw [List.getElem?_range h2]
        have h3 : j - n * z.size < z.size := by rw [Nat.add_mul, Nat.one_mul] at h2; omega
        have h4 : j % z.size = j - n * z.size := by
          have e : j = (j - n * z.size) + n * z.size := by omega
          rw [e, Nat.add_mul_mod_self_right, Nat.mod_eq_of_lt h3]; omega
        simp only [Option.map_some, h4, Array.getElem?_toList]
        rw [getElem!_pos z _ h3, Array.getElem?_eq_getElem h3]
      · have h3 : z.size ≤ j - n * z.size := by rw [Nat.add_mul, Nat.one_mul] at h2; omega
        rw [List.getElem?_eq_none (by simp; omega), List.getElem?_eq_none (by simpa using h3)]
        rfl
theorem Stp.make {i T el sz : Nat} {dst : Option Tmp} {t : Nat} {k k' : IntKind} {z : Int} (ha : makeAt (opsOf c) i s.n s.e = some (T, .int k z, .int k' z, dst)) (hel : elOk P T el sz = true) (h0 : 0 ≤ z) (hb : z ≤ 16777216) :
    Stp P ρ (opsOf c) i s (fun _ : Nat => True) (fun b => { s with e := putE s.e dst (.slice (some ⟨b, 0, none⟩) z.toNat z.toNat), h := (t, .sl (some ⟨b, 0, none⟩) z.toNat z.toNat el sz (List.replicate z.toNat (zeroOf P el)).flatten) :: s.h }) := by
  intro ac w hs R hR Q
  obtain ⟨hT, inf, zv, hi, hsz, hby, hpos, hz, hzs⟩ := elOk_spec hel
  unfold makeAt at ha
  cases ho : (opsOf c)[i]? with
  | none => rw [ho] at ha; cases ha
  | some o =>
    rw [ho] at ha
    simp only at ha
    split at ha <;> try (cases ha; done)
    rename_i T' x y hop hgd
    cases hkd : known s.e [x, y] && dstOk s.n o.dst with
    | false => rw [hkd] at ha; cases ha
    | true =>
      rw [hkd, cond_true] at ha
      injection ha with ha
      simp only [Prod.mk.injEq] at ha
      obtain ⟨rfl, hx, hy, rfl⟩ := ha
      simp only [Bool.and_eq_true] at hkd
      unfold wpOpIn
      simp only [ho]
      rw [guardOf_sound hgd hs.env, if_pos rfl]
      have ex : ac.eval x = .int k z := by rw [← hx]; exact (hs.env.rho hkd.1 x (by simp)).symm
      have ey : ac.eval y = .int k' z := by rw [← hy]; exact (hs.env.rho hkd.1 y (by simp)).symm
      have hzz : (z.toNat : Int) = z := Int.toNat_of_nonneg h0
      have hby2 : inf.bytes * z.toNat ≤ 281474976710656 := Nat.le_trans (Nat.mul_le_mul hby (show z.toNat ≤ 16777216 by omega)) (by omega)
      have h63 : z.toNat ≤ maxLen := by simp only [maxLen]; omega
      have hh := run_make (P := P) w T' el inf zv hT hi hz k k' z z h0 (Int.le_refl _) (by rw [← hzz, ← Int.natCast_mul]; omega) (by omega)
      have hcells : (P.info? el).bind (·.zero) = some zv := by rw [hi]; exact hz
      have hzo : zeroOf P el = zv.cells.toList := by unfold zeroOf; rw [hcells]
      refine run_op (v := .slice (some ⟨w.heap.size, 0, none⟩) z.toNat z.toNat) (nx := .value _) (w' := w.alloc (.cells (madeCells zv.cells (z.toNat * inf.size)) el)) ?_ ?_ rfl ?_
      · rw [hop]; rfl
      · simp only [execOp, hop, ex, ey, Sem.run_bind, hh, Result.andThen_ok, Sem.run_pure]
      · refine hR w.heap.size _ _ trivial (hs.put hkd.2 ?_)
        have hown := World.ownsRow_lit (base := 0) (e := el) (size := sz) w (madeCells zv.cells (z.toNat * inf.size)) z.toNat (Nat.zero_le _) h63 (by rw [size_madeCells, hsz])
        rw [hsz, ← hzs, made_rep _ _ (by rw [hzs]; exact hpos), hzs, ← hzo] at hown
        rw [hsz, ← hzs]
        rw [hzs]
        exact hs.ok.push (fun k hk => heap_alloc_old w _ hk) hown (fun k hk => by cases hk; exact Nat.le_refl _)
end
end Go.Eng
