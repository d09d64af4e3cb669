/- One operation, reckoned on what is told of temporaries and of own blocks: what it yields, what it turns, what it asks. -/
import Derived.Test.YtmkjcahdjphimaaE1
namespace Go.Eng
open Go

abbrev Env := List (Nat × Value)
def look (e : Env) (t : Nat) : Option Value :=
  match e with
  | [] => none
  | (t', v) :: r => bif Nat.beq t' t then some v else look r t
def opd (e : Env) : Operand → Option Value
  | .tmp t => look e t
  | .const v => some v
  | .global g => some (.pointer (some ⟨g, 0, none⟩))
  | .func f => some (.func (.func f) #[] #[])
def opds (e : Env) : List Operand → Option (List Value)
  | [] => some []
  | x :: r => (opd e x).bind fun v => (opds e r).map (v :: ·)

structure EnvOk (n : Nat) (e : Env) (a : Act) : Prop where
  sz : a.tmps.size = n
  ev : ∀ t v, look e t = some v → a.tmps[t]? = some v

theorem EnvOk.opd {n : Nat} {e : Env} {a : Act} (h : EnvOk n e a) {x : Operand} {v : Value} (hx : opd e x = some v) : a.eval x = v := by
  cases x with
  | tmp t =>
    have := h.ev t v hx
    simp only [Act.eval, Array.getD_eq_getD_getElem?, this, Option.getD_some]
  | const c => cases hx; rfl
  | global g => cases hx; rfl
  | func f => cases hx; rfl
theorem EnvOk.opds {n : Nat} {e : Env} {a : Act} (h : EnvOk n e a) : ∀ {xs : List Operand} {vs : List Value}, opds e xs = some vs → xs.map a.eval = vs
  | [], vs, hx => by cases hx; rfl
  | x :: r, vs, hx => by
    unfold Eng.opds at hx
    cases hv : Eng.opd e x with
    | none => rw [hv] at hx; cases hx
    | some v =>
      rw [hv] at hx
      cases hr : Eng.opds e r with
      | none => simp [hr] at hx
      | some l =>
        simp [hr] at hx
        subst hx
        rw [List.map_cons, h.opd hv, h.opds hr]

def gcell (g : GH) (a : Addr) : Option Value :=
  match g a.block with
  | some (.cells c _ _) => if a.spot.isSome then none else c[a.off]?
  | _ => none
theorem gcell_cell {g : GH} {h : Hs} {w : World} (hw : Ok g h w) {a : Addr} {v : Value} (e : gcell g a = some v) : w.cell? a = some v := by
  unfold gcell at e
  cases hg : g a.block with
  | none => rw [hg] at e; cases e
  | some o =>
    rw [hg] at e
    have := hw.gh _ _ hg
    unfold World.cell?
    rw [this]
    cases o <;> first | exact e | cases e
/-- What is read at an address of the fixed part. -/
def GLoad (g : GH) (a : Addr) (agg : Bool) (sz : Nat) (v : Value) : Prop :=
  if agg then ∃ cs : List Value, v = .agg cs.toArray ∧ cs.length = sz ∧ ∀ j u, cs[j]? = some u → gcell g (a.add j) = some u else gcell g a = some v

/-- A slice's block and place. -/
def ab (a : Option Addr) : Nat := (a.getD ⟨0, 0, none⟩).block
def ao (a : Option Addr) : Nat := (a.getD ⟨0, 0, none⟩).off
/-- The block and the cells of an own block that is read and written. -/
def Ent.cells : Ent → Option (Nat × List Value)
  | .blk b _ cs => some (b, cs)
  | .sl a _ _ _ _ cs => some (ab a, cs)
  | _ => none
def Ent.setCells (e : Ent) (cs : List Value) : Ent :=
  match e with
  | .blk b T _ => .blk b T cs
  | .sl a n c T sz _ => .sl a n c T sz cs
  | e => e
theorem Ent.cell {w : World} {e : Ent} (hh : e.holds w) {b : Nat} {cs : List Value} (hc : e.cells = some (b, cs)) {off : Nat} {v : Value} (hv : cs[off]? = some v) : w.cell? ⟨b, off, none⟩ = some v := by
  cases e with
  | wd w0 => cases hc
  | blk b' T cs' =>
    cases hc
    have : w.heap[b]? = some (Obj.cells cs.toArray T (0, 0)) := hh
    simp [World.cell?, this, hv]
  | sl a n c T sz cs' =>
    rcases ownsRow_key hh with ⟨rfl, rfl, rfl, rfl⟩ | ⟨b', cur, rfl, h1, h2, h3, h4, h5⟩
    · cases hc; simp at hv
    · cases hc
      have e1 : cur.toList[off]? = some v := by
        rw [← h5, List.getElem?_take] at hv
        split at hv
        · exact hv
        · cases hv
      simp only [World.cell?, ab, Option.getD_some, h1]
      simpa using e1
  | mp b' es => cases hc
  | ob b' o => cases hc

/-- Cells from a place on. -/
def seg (cs : List Value) (off n : Nat) : List Value := (cs.drop off).take n
theorem seg_get {cs : List Value} {off n j : Nat} {u : Value} (h : (seg cs off n)[j]? = some u) : cs[off + j]? = some u := by
  unfold seg at h
  rw [List.getElem?_take] at h
  split at h
  · rw [List.getElem?_drop] at h; exact h
  · cases h
theorem add_flat (b off j : Nat) : (⟨b, off, none⟩ : Addr).add j = ⟨b, off + j, none⟩ := by unfold Addr.add; split <;> simp_all

def splice (cs : List Value) (off : Nat) (vs : List Value) : List Value := cs.take off ++ vs ++ cs.drop (off + vs.length)
theorem splice_one (cs : List Value) (off : Nat) (v : Value) (h : off < cs.length) : splice cs off [v] = cs.set off v := by
  unfold splice
  rw [List.set_eq_take_append_cons_drop, if_pos h]
  simp

/-- A store into an own block. -/
theorem storeCells_own {P : Program} {g : GH} {h : Hs} {w : World} (hw : Ok g h w) {t : Nat} {e : Ent} (hf : findE h t = some e) {b : Nat} {cs : List Value} (hc : e.cells = some (b, cs)) {off : Nat} {vs : List Value}
    (hl : off + vs.length ≤ cs.length) (h1 : ∀ u ∈ vs, u.oneCell' = true) :
    ∃ w', (storeCells ⟨b, off, none⟩ vs).run P w = .ok () w' ∧ Ok g (updE h t (e.setCells (splice cs off vs))) w' := by
  have hh := hw.en _ (findE_mem hf)
  cases e with
  | wd w0 => cases hc
  | blk b' T' cs' =>
    cases hc
    have hb : w.heap[b]? = some (Obj.cells cs.toArray T' (0, 0)) := hh
    have hst := run_storeCells_at P b off T' vs 0 cs.toArray w hb (by simpa using hl) h1
    refine ⟨_, hst, ?_⟩
    refine hw.upd hf ?_ ?_ (fun k hk => .inl hk)
    · intro k _ hk; exact setRow_other w b k _ fun e1 => hk (by rw [e1]; rfl)
    · show (w.setRow b _).heap[b]? = _
      rw [setRow_heap w b _ _ T' (0, 0) hb]
      simp [splice]
  | sl a n c T' sz cs' =>
    rcases ownsRow_key hh with ⟨rfl, rfl, rfl, rfl⟩ | ⟨b', cur, rfl, h2, h3, h4, h5, h6⟩
    · cases hc
      have : vs = [] := List.eq_nil_of_length_eq_zero (by simp only [List.length_nil] at hl; omega)
      subst this
      refine ⟨w, rfl, hw.upd hf (fun _ _ _ => rfl) ?_ (fun k hk => .inl hk)⟩
      show World.ownsRow w 0 T' sz (.slice none 0 0) 0 (splice [] off [])
      simpa [splice] using World.ownsRow_nil w 0 T' sz
    · cases hc
      have hlen : cs.length = n * sz := hh.1
      have hcur : cs.length ≤ cur.size := by rw [← h6, List.length_take]; simp; omega
      have hst := run_storeCells_at P b' off T' vs 0 cur w h2 (by simp at hl ⊢; omega) h1
      refine ⟨_, hst, ?_⟩
      refine hw.upd hf ?_ ?_ (fun k hk => .inl hk)
      · intro k _ hk; exact setRow_other w b' k _ fun e1 => hk (by rw [e1]; rfl)
      · refine ownsRow_mk (cur := _) (setRow_heap w b' _ _ T' (0, 0) h2) h3 h4 ?_ ?_
        · rw [← h5]
          simp only [List.size_toArray, List.length_append, List.length_take, List.length_drop, Array.length_toList]
          omega
        · subst h6
          rw [Nat.add_zero, ← hlen]
          apply List.ext_getElem?
          intro i
          rw [List.length_take, Array.length_toList] at hl hlen
          have hm : min (n * sz) cur.size = n * sz := by
            have : n * sz ≤ c * sz := Nat.mul_le_mul_right _ h3
            omega
          simp only [splice, List.length_take, Array.length_toList, hm] at hl ⊢
          rw [List.getElem?_take]
          have hoff : off + vs.length ≤ n * sz := by simpa using hl
          have hns : n * sz ≤ cur.size := by omega
          by_cases hi : i < n * sz
          · rw [if_pos hi]
            simp only [List.getElem?_append, List.length_append, List.length_take, Array.length_toList, List.getElem?_take, List.getElem?_drop]
            by_cases h7 : i < off
            · rw [if_pos (by omega), if_pos (by omega), if_pos h7, if_pos (by omega), if_pos (by omega), if_pos h7, if_pos hi]
            · by_cases h8 : i < off + vs.length
              · rw [if_pos (by omega), if_neg (by omega), if_pos (by omega), if_neg (by omega)]
                congr 1; omega
              · rw [if_neg (by omega), if_neg (by omega)]
                have e1 : off + vs.length + (i - (min off cur.size + vs.length)) = i := by omega
                have e2 : off + vs.length + (i - (min off (min (n * sz) cur.size) + vs.length)) = i := by omega
                rw [e1, e2, if_pos hi]
          · rw [if_neg hi]
            symm
            simp only [List.getElem?_eq_none_iff, List.length_append, List.length_take, List.length_drop, Array.length_toList]
            omega
  | mp b' es => cases hc
  | ob b' o => cases hc
end Go.Eng
