/- From a row's reading of the arguments to what the walks ask; from a walk to the row. -/
import Derived.Test.YtmkjcahdjphimaaE15
import Derived.Conc.LeavingOf
import Derived.DataReads
import Derived.Below
namespace Go.Eng
open Go Go.RowKit

/-- All that lies in a world, fixed. -/
def gAll (w : World) : GH := fun k => w.heap[k]?
theorem ok_all (w : World) : Ok (gAll w) [(0, .wd w)] w :=
  ⟨fun _ _ h => h, fun p hp => by simp at hp; subst hp; exact ⟨rfl, rfl, rfl⟩, by simp [Ent.key], fun p hp k hk => by simp at hp; subst hp; cases hk⟩
theorem below_all {w w' : World} (hw : Ok (gAll w) [(0, .wd w)] w') : Below w.heap.size w w' := by
  have hs : Same w w' := hw.en (0, .wd w) (by simp)
  have hb : ∀ k, k < w.heap.size → w'.heap[k]? = w.heap[k]? := fun k hk => by
    have e : w.heap[k]? = some w.heap[k] := Array.getElem?_eq_getElem hk
    rw [e]; exact hw.gh k _ e
  refine ⟨hs.1, hs.2.1, hs.2.2, ?_, hb⟩
  rcases Nat.eq_zero_or_pos w.heap.size with h0 | h0
  · rw [h0]; exact Nat.zero_le _
  · have h1 := hb (w.heap.size - 1) (by omega)
    have e1 : w.heap[w.heap.size - 1]? = some w.heap[w.heap.size - 1] := Array.getElem?_eq_getElem (by omega)
    rw [e1] at h1
    have := (Array.getElem?_eq_some_iff.1 h1).1
    omega
theorem gcell_all {w : World} {a : Addr} {v : Value} (h : w.cell? a = some v) : gcell (gAll w) a = some v := by
  unfold World.cell? at h
  unfold gcell gAll
  exact h

section
variable {H : Type} {enc : TypeId × Value → H} {P : Program} {w : World}
/-- A type's readings are told by values of a kind. -/
def Opn {α : Type} (enc : TypeId × Value → H) (P : Program) (w : World) (T : TypeId) (d : Kd α) (ok : α → Prop) : Prop :=
  ∀ base spare fuel cs r, DataW.trod enc P w base spare true fuel T cs = some r → ∃ x, d.R (gAll w) cs x ∧ ok x

theorem opn_int {T : TypeId} {k : IntKind} (hT : P.underlying T = some (.int k)) : Opn enc P w T (Kd.int k) (fun x => (Lit.int k x).wf = true) := by
  intro base spare fuel cs r h
  cases fuel with
  | zero => cases h
  | succ fuel =>
    unfold DataW.trod at h
    rw [hT] at h
    match cs, h with
    | [.int k' n], h =>
      simp only at h
      split at h
      · rename_i hk; exact ⟨n, by rw [hk.1]; rfl, hk.2⟩
      · cases h
theorem opn_bool {T : TypeId} (hT : P.underlying T = some .bool) : Opn enc P w T Kd.bool (fun _ => True) := by
  intro base spare fuel cs r h
  cases fuel with
  | zero => cases h
  | succ fuel =>
    unfold DataW.trod at h
    rw [hT] at h
    match cs, h with
    | [.bool b], h => exact ⟨b, rfl, trivial⟩
theorem opn_str {T : TypeId} (hT : P.underlying T = some .string) : Opn enc P w T Kd.str (fun s => s.size ≤ maxLen) := by
  intro base spare fuel cs r h
  cases fuel with
  | zero => cases h
  | succ fuel =>
    unfold DataW.trod at h
    rw [hT] at h
    match cs, h with
    | [.string s], h =>
      simp only at h
      split at h
      · rename_i hk; exact ⟨s, rfl, hk⟩
      · cases h

/-- The fields of a struct, from one on. -/
def OpnF {α : Type} (enc : TypeId × Value → H) (P : Program) (w : World) (fs : List Field) (off : Nat) (d : Kd α) (ok : α → Prop) : Prop :=
  ∀ base spare fuel (cs : List Value) r, cs.length = off + d.sz → fs.mapM (fun f => DataW.trod enc P w base spare true fuel f.type ((cs.drop f.offset).take (P.cellsOf f.type))) = some r → ∃ x, d.R (gAll w) (cs.drop off) x ∧ ok x
theorem opnF_one {α : Type} {f : Field} {off : Nat} {d : Kd α} {ok : α → Prop} (ho : f.offset = off) (hs : P.cellsOf f.type = d.sz) (h : Opn enc P w f.type d ok) : OpnF enc P w [f] off d ok := by
  intro base spare fuel cs r hl hm
  rw [List.mapM_cons] at hm
  cases h1 : DataW.trod enc P w base spare true fuel f.type ((cs.drop f.offset).take (P.cellsOf f.type)) with
  | none => rw [h1] at hm; cases hm
  | some y =>
    obtain ⟨x, hx, hok⟩ := h base spare fuel _ y h1
    refine ⟨x, ?_, hok⟩
    rw [ho, hs, List.take_of_length_le (by rw [List.length_drop]; omega)] at hx
    exact hx
theorem opnF_cons {α β : Type} {f : Field} {fs : List Field} {off off2 : Nat} {d : Kd α} {d2 : Kd β} {ok : α → Prop} {ok2 : β → Prop} (ho : f.offset = off) (hs : P.cellsOf f.type = d.sz) (he : off + d.sz = off2) (h : Opn enc P w f.type d ok) (h2 : OpnF enc P w fs off2 d2 ok2) :
    OpnF enc P w (f :: fs) off (Kd.pair d d2) (fun x => ok x.1 ∧ ok2 x.2) := by
  subst he
  intro base spare fuel cs r hl hm
  rw [List.mapM_cons] at hm
  cases h1 : DataW.trod enc P w base spare true fuel f.type ((cs.drop f.offset).take (P.cellsOf f.type)) with
  | none => rw [h1] at hm; cases hm
  | some y =>
    rw [h1] at hm
    cases h3 : fs.mapM (fun f => DataW.trod enc P w base spare true fuel f.type ((cs.drop f.offset).take (P.cellsOf f.type))) with
    | none => simp only [h3] at hm; cases hm
    | some ys =>
      obtain ⟨x, hx, hok⟩ := h base spare fuel _ y h1
      have hl' : cs.length = off + d.sz + d2.sz := by rw [hl]; show off + (d.sz + d2.sz) = _; omega
      obtain ⟨x2, hx2, hok2⟩ := h2 base spare fuel cs ys hl' h3
      rw [ho, hs] at hx
      refine ⟨(x, x2), ⟨(cs.drop off).take d.sz, cs.drop (off + d.sz), ?_, hx, hx2⟩, hok, hok2⟩
      rw [← List.drop_drop, List.take_append_drop]
theorem opn_struct {α : Type} {T : TypeId} {fs : Array Field} {d : Kd α} {ok : α → Prop} (hT : P.underlying T = some (.struct fs)) (hs : P.cellsOf T = d.sz) (h : OpnF enc P w fs.toList 0 d ok) : Opn enc P w T d ok := by
  intro base spare fuel cs r hr
  cases fuel with
  | zero => cases hr
  | succ fuel =>
    unfold DataW.trod at hr
    rw [hT] at hr
    have key : cs.length = P.cellsOf T → ∀ y, (fs.toList.mapM fun f => DataW.trod enc P w base spare true fuel f.type ((cs.drop f.offset).take (P.cellsOf f.type))) = some y → ∃ x, d.R (gAll w) cs x ∧ ok x := by
      intro hl y hy
      have := h base spare fuel cs y (by rw [hl, hs, Nat.zero_add]) hy
      simpa using this
    simp only at hr
    split at hr
    · rename_i hl
      cases hm : (fs.toList.mapM fun f => DataW.trod enc P w base spare true fuel f.type ((cs.drop f.offset).take (P.cellsOf f.type))) with
      | none => rw [hm] at hr; cases hr
      | some y => exact key hl y hm
    · cases hr
theorem opn_sl {α : Type} {T e : TypeId} {d : Kd α} {ok : α → Prop} (hT : P.underlying T = some (.slice e)) (hs : P.cellsOf e = d.sz) (h0 : 0 < d.sz) (h : Opn enc P w e d ok) : Opn enc P w T (Kd.sl d) (fun xs => ∀ x ∈ xs, ok x) := by
  intro base spare fuel cs r hr
  cases fuel with
  | zero => cases hr
  | succ fuel =>
    unfold DataW.trod at hr
    rw [hT] at hr
    match cs, hr with
    | [.slice none 0 0], hr => exact ⟨[], ⟨none, 0, rfl, Sl.nil'⟩, fun x hx => by cases hx⟩
    | [.slice (some a) len cap], hr =>
      simp only at hr
      split at hr <;> try (cases hr; done)
      rename_i hb
      cases hm : (List.range len).mapM (fun i => (w.cells? base (a.add (i * P.cellsOf e)) (P.cellsOf e)).bind (DataW.trod enc P w base spare true fuel e)) with
      | none => rw [hm] at hr; cases hr
      | some ys =>
        have hl := mapM_some_length hm
        rw [List.length_range] at hl
        have each : ∀ i, i < len → ∃ cs x, w.cells? base (a.add (i * d.sz)) d.sz = some cs ∧ d.R (gAll w) cs x ∧ ok x := fun i hi => by
          have := mapM_some_get hm i i (by rw [List.getElem?_range hi])
          rw [List.getElem?_eq_getElem (by omega)] at this
          rw [hs] at this
          cases hc : w.cells? base (a.add (i * d.sz)) d.sz with
          | none => rw [hc] at this; cases this
          | some cs =>
            rw [hc] at this
            obtain ⟨x, hx, hok⟩ := h base spare fuel cs _ this
            exact ⟨cs, x, rfl, hx, hok⟩
        have hspot : len = 0 ∨ a.spot = none := by
          rcases Nat.eq_zero_or_pos len with hz | hz
          · exact .inl hz
          · right
            obtain ⟨cs, x, hc, _⟩ := each 0 hz
            have hv := (World.cells?_some hc).2.2 0 h0
            have hcl := (World.cells?_some hc).2.1
            rw [List.getElem?_eq_getElem (by omega)] at hv
            have e1 : (a.add (0 * d.sz)).add 0 = a := by simp [Addr.add]
            rw [e1] at hv
            unfold World.cell? at hv
            cases hh : w.heap[a.block]? with
            | none => rw [hh] at hv; cases hv
            | some o =>
              rw [hh] at hv
              cases o <;> try (cases hv; done)
              simp only at hv
              cases hsp : a.spot with
              | none => rfl
              | some s => rw [hsp] at hv; cases hv
        have row : ∀ m, m ≤ len → ∃ (cs : List Value) (xs : List α), xs.length = m ∧ Rw d (gAll w) cs xs ∧ (∀ x ∈ xs, ok x) ∧ ∀ j u, cs[j]? = some u → w.cell? (a.add j) = some u := by
          intro m
          induction m with
          | zero => intro _; exact ⟨[], [], rfl, rfl, (fun x hx => by cases hx), fun j u hu => by simp at hu⟩
          | succ m ih =>
            intro hm'
            obtain ⟨cs, xs, h1, h2, h3, h4⟩ := ih (by omega)
            obtain ⟨c2, x, hc, hx, hok⟩ := each m (by omega)
            have hl2 : cs.length = m * d.sz := by rw [h2.len, h1]
            refine ⟨cs ++ c2, xs ++ [x], by simp [h1], h2.app (Rw.one1 hx), ?_, ?_⟩
            · intro y hy
              rcases List.mem_append.1 hy with hy | hy
              · exact h3 y hy
              · simp at hy; subst hy; exact hok
            · intro j u hu
              rcases Nat.lt_or_ge j cs.length with hj | hj
              · rw [List.getElem?_append_left hj] at hu; exact h4 j u hu
              · rw [List.getElem?_append_right hj] at hu
                have hj2 : j - cs.length < c2.length := (List.getElem?_eq_some_iff.1 hu).1
                have hsp : a.spot = none := hspot.resolve_left (by omega)
                have hcl := d.len hx
                have hv2 := (World.cells?_some hc).2.2 (j - cs.length) (by omega)
                rw [hu] at hv2
                obtain ⟨b, o, sp⟩ := a
                cases hsp
                rw [add_flat, add_flat] at hv2
                rw [add_flat]
                have hj' : m * d.sz ≤ j := by rw [← hl2]; exact hj
                have e9 : o + m * d.sz + (j - cs.length) = o + j := by rw [hl2]; clear hm each hv2; omega
                rw [← e9]; exact hv2
        obtain ⟨cs, xs, h1, h2, h3, h4⟩ := row len (Nat.le_refl _)
        refine ⟨xs, ⟨some a, cap, by rw [h1], ⟨rfl, by rw [h1]; exact hb.2.1, hb.2.2, ⟨fun e => (by cases e), fun ad e => by cases e; rw [h1]; exact hspot⟩, fun e => (by cases e), cs, h2, ?_⟩⟩, h3⟩
        intro j u hu
        have hj : j < cs.length := (List.getElem?_eq_some_iff.1 hu).1
        rw [h2.len, h1] at hj
        have hlen : len ≠ 0 := fun e => by rw [e] at hj; simp at hj
        have hsp : a.spot = none := hspot.resolve_left hlen
        have := h4 j u hu
        obtain ⟨b, o, sp⟩ := a
        cases hsp
        rw [add_flat] at this
        exact gcell_all this
end

theorem quiet_leaving {P : Program} {m : Machine} (h : m.quiet) : m.OnlyLeaving P :=
  ⟨fun g hg => ⟨0, by have h9 := List.all_eq_true.1 h.1 g hg; exact (by simpa using h9 : g.status = .finished)⟩, h.2⟩
theorem leaves_of_quiet {P : Program} {last : Machine} {w : World} {t : Trace} (h : aloneAtReturn P last w t) : leavingAtReturn P last w t := by
  obtain ⟨hq, ho, he⟩ := h
  exact ⟨ho, quiet_leaving hq, he⟩
theorem leaving_of_handed {a : Assume} {C : Checked} {os : Os} {f : FuncId} {r : Reach} {Pre : World → Array Value → Prop} {Post : World → Array Value → Value → World → Prop} (h : ReturnsInHanded a C os f r Pre Post) : ReturnsInLeavingWide a C os f r Pre Post := fun enter => by
  obtain ⟨h1, h2, h3, h4, h5⟩ := h enter
  refine ⟨h1, h2, h3, h4, fun w tape i hf => ?_⟩
  obtain ⟨n, v, w', b1, b2, b3, b4, ⟨j, last, c1, c2, c3⟩, b6⟩ := h5 w tape i hf
  exact ⟨n, v, w', b1, b2, b3, b4, ⟨j, last, c1, c2, leaves_of_quiet c3⟩, b6⟩
end Go.Eng
