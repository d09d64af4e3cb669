/- What the printed walks lean on: joins, loops by steps, reads and writes of elements, arrays of numbers. -/
import Derived.Test.YtmkjcahdjphimaaE7
namespace Go.Eng
open Go

section
variable {P : Program} {ρ : Option Nat} {c : Code} {Q : Post} {s : St}

/-- Several ways that go on as one. -/
def Jn (Q : Post) (I : St → Prop) : Post := fun e a w =>
  match e with
  | .normal => ∃ s, I s ∧ s.ok a w
  | e => Q e a w
theorem WP.join (I : St → Prop) (h : WP P ρ c (Jn Q I) s) (hj : ∀ s, I s → PO Q .normal s) : WP P ρ c Q s := fun a w hs =>
  wpIn_mono (h a w hs) fun e a' w' hq => by
    cases e <;> try exact hq
    obtain ⟨s', hI, hs'⟩ := hq
    exact hj s' hI a' w' hs'
theorem PO.jn {I : St → Prop} {s' : St} (hI : I s') (hs : ∀ a w, s.ok a w → s'.ok a w) : PO (Jn Q I) .normal s := fun a w h => ⟨s', hI, hs a w h⟩
theorem PO.jn_exit {I : St → Prop} {id : Nat} (h : PO Q (.exit id) s) : PO (Jn Q I) (.exit id) s := h
theorem PO.jn_ret {I : St → Prop} (h : PO Q .ret s) : PO (Jn Q I) .ret s := h
theorem PO.jn_panic {I : St → Prop} {ch : List PanicEntry} (h : PO Q (.panic ch) s) : PO (Jn Q I) (.panic ch) s := h
theorem WP.loopW (hc : isLoop c = true) (J : Nat → St → Prop) {k : Nat} {s' : St} (h0 : J k s') (hs : ∀ a w, s.ok a w → s'.ok a w) (round : ∀ k s, J k s → WP P ρ c.l (LoopQ J k Q) s) : WP P ρ c Q s :=
  WP.weak hs (WP.loop hc J round h0)
theorem PO.againW {J : Nat → St → Prop} {k k' : Nat} {s' : St} (hJ : J k' s') (hsub : ∀ a w, s.ok a w → s'.ok a w) (hk : k' < k) : PO (LoopQ J k Q) .normal s := PO.again hk hJ hsub
theorem St.ok.to {s' : St} (ts : List Nat) (m : Nat) (is : List (Nat × Nat)) (hn : (is.map (·.2)).all (fun i => (is.map (·.2)).count i == 1) = true) (hN : s.n = s'.n) (he : selE s.e ts = s'.e) (hd : s.d = s'.d) (hg : s.g = s'.g) (hh : pickNT m s.h is = s'.h) :
    ∀ a w, s.ok a w → s'.ok a w := fun a w h => by
  have := (h.sel ts).pickT m is hn
  obtain ⟨n, e, d, g, h'⟩ := s'
  subst hN; subst he; subst hd; subst hg; subst hh
  exact this
theorem Ok.frame {g : GH} {h fr : Hs} {w : World} (m : Nat) (hw : Ok g h w) (hh : h.drop m = fr) : Ok g fr w := by
  rw [← hh]; exact Ok.sub (List.drop_sublist m h) hw
theorem WP.condB {b : Bool} (hl : (condOf c).bind (opd s.e) = some (.bool b)) (hT : b = true → WP P ρ c.l Q s) (hF : b = false → WP P ρ c.r Q s) : WP P ρ c Q s := by
  cases b with
  | true => exact WP.condT hl (hT rfl)
  | false => exact WP.condF hl (hF rfl)
theorem WP.regD (hc : isReg c = true) (h : WO P ρ c Q 0 s) : WP P ρ c Q s := WP.reg hc h
theorem Res.cell {e : Env} {h : Hs} {a T : Nat} {r : List ResultVar} {v : Value} {vs : List Value} (b off t : Nat) (en : Ent) (cs : List Value) (ag : Bool) (sz : Nat) (h1 : look e a = some (.pointer (some ⟨b, off, none⟩))) (h2 : findE h t = some en) (h3 : en.cells = some (b, cs))
    (h4 : pureRun P (isAgg T) = some ag) (h5 : pureRun P (sizeOf T) = some sz) (h6 : OwnRead cs off ag sz v) (hr : Res P e h r vs) : Res P e h (.cell a T :: r) (v :: vs) := ⟨⟨b, off, t, en, cs, ag, sz, h1, h2, h3, h4, h5, h6⟩, hr⟩
theorem Res.tmp {e : Env} {h : Hs} {t : Nat} {r : List ResultVar} {v : Value} {vs : List Value} (h1 : look e t = some v) (hr : Res P e h r vs) : Res P e h (.tmp t :: r) (v :: vs) := ⟨h1, hr⟩
theorem Res.nil {e : Env} {h : Hs} : Res P e h [] [] := trivial
end

/-! ### One operation in a region that draws -/
section
variable {P : Program} {ρ : Option Nat} {c : Code} {Q : Post} {s : St}
theorem seg1_clean {ops : Array Oper} {hs : List (Nat × Hint)} {K : Env → Hs → Prop} {i : Nat} (h : segP P s.g s.n ops hs 1 i s.e s.h K) {a : Act} {w : World} (hok : s.ok a w) :
    Clean ρ P ops i (fun a w => ∃ e h, K e h ∧ ({ s with e := e, h := h } : St).ok a w) a w := by
  intro Q
  unfold segP at h
  unfold wpOpIn
  cases ho : ops[i]? with
  | none => rw [ho] at h; exact h.elim
  | some o =>
    rw [ho] at h
    simp only at h ⊢
    cases hg : guardOf ops s.e o with
    | none => rw [hg] at h; exact h.elim
    | some b =>
      rw [hg] at h
      rw [guardOf_sound hg hok.env]
      cases b with
      | false =>
        simp only at h
        cases hd : dstOk s.n o.dst with
        | false => rw [hd] at h; exact h.elim
        | true =>
          rw [hd] at h
          simp only [Bool.false_eq_true, if_false]
          exact ⟨fun _ _ => trivial, _, _, h, hok.put hd hok.ok⟩
      | true =>
        simp only [if_true]
        have fin : ∀ e h a w, segP P s.g s.n ops hs 0 (i + 1) e h K → ({ s with e := e, h := h } : St).ok a w → (∃ e h, K e h ∧ ({ s with e := e, h := h } : St).ok a w) := fun e h a w hk hok' => ⟨e, h, hk, hok'⟩
        cases hx : hintOf hs i with
        | al t =>
          rw [hx] at h
          exact stepP_sound rfl (h w.heap.size) hok (fun _ => rfl) fin
        | n => rw [hx] at h; exact stepP_sound rfl h hok (fun ⟨_, e⟩ => by cases e) fin
        | ld t => rw [hx] at h; exact stepP_sound rfl h hok (fun ⟨_, e⟩ => by cases e) fin
        | lv t v => rw [hx] at h; exact stepP_sound rfl h hok (fun ⟨_, e⟩ => by cases e) fin
        | lg v => rw [hx] at h; exact stepP_sound rfl h hok (fun ⟨_, e⟩ => by cases e) fin
        | st t => rw [hx] at h; exact stepP_sound rfl h hok (fun ⟨_, e⟩ => by cases e) fin
        | sv t cs => rw [hx] at h; exact stepP_sound rfl h hok (fun ⟨_, e⟩ => by cases e) fin
        | sp v => rw [hx] at h; exact stepP_sound rfl h hok (fun ⟨_, e⟩ => by cases e) fin
        | s => rw [hx] at h; exact stepP_sound rfl h hok (fun ⟨_, e⟩ => by cases e) fin
        | w v => rw [hx] at h; exact stepP_sound rfl h hok (fun ⟨_, e⟩ => by cases e) fin
        | o t => rw [hx] at h; exact stepP_sound rfl h hok (fun ⟨_, e⟩ => by cases e) fin
        | mg t v => rw [hx] at h; exact stepP_sound rfl h hok (fun ⟨_, e⟩ => by cases e) fin
theorem WD.one {C : Cls} {fuel n : Nat} {ls : List Nat} (i : Nat) (ts : List Nat) (hs : List (Nat × Hint)) (X : (Env → Hs → Prop) → Prop) (hX : ∀ K, X K = segP P s.g s.n (opsOf c) hs 1 i s.e s.h (fun e h => K (selE e ts) h))
    (hr : Region.ready .any (opsOf c) (listedOf (opsOf c).size ls) = [i]) (hf : Nat.beq (fuel + 1) n = true) (x : X (fun e h => (∀ w, Ok s.g h w → C.at (listedOf (opsOf c).size (i :: ls)) w) ∧ WD P ρ c Q C fuel (i :: ls) { s with e := e, h := h })) : WD P ρ c Q C n ls s := by
  rw [hX] at x
  obtain rfl := Nat.eq_of_beq_eq_true hf
  intro a w hok hC
  refine ⟨fun h0 => (by rw [hr] at h0; cases h0), ?_⟩
  rw [hr]
  intro j hj
  obtain rfl : j = i := by simpa using hj
  refine (seg1_clean x hok).mono ?_
  rintro a' w' ⟨e, h, ⟨hc, hk⟩, hok'⟩
  exact ⟨hc w' hok'.ok, hk a' w' (hok'.sel ts) (hc w' hok'.ok)⟩
/-- Two that are ready, in either order: each is told by itself. -/
theorem WD.two {C : Cls} {fuel n : Nat} {ls : List Nat} (i j : Nat) (ts us : List Nat) (hs : List (Nat × Hint)) (X Y : (Env → Hs → Prop) → Prop) (hX : ∀ K, X K = segP P s.g s.n (opsOf c) hs 1 i s.e s.h (fun e h => K (selE e ts) h)) (hY : ∀ K, Y K = segP P s.g s.n (opsOf c) hs 1 j s.e s.h (fun e h => K (selE e us) h))
    (hr : Region.ready .any (opsOf c) (listedOf (opsOf c).size ls) = [i, j]) (hf : Nat.beq (fuel + 1) n = true) (x : X (fun e h => (∀ w, Ok s.g h w → C.at (listedOf (opsOf c).size (i :: ls)) w) ∧ WD P ρ c Q C fuel (i :: ls) { s with e := e, h := h }))
    (y : Y (fun e h => (∀ w, Ok s.g h w → C.at (listedOf (opsOf c).size (j :: ls)) w) ∧ WD P ρ c Q C fuel (j :: ls) { s with e := e, h := h })) : WD P ρ c Q C n ls s := by
  rw [hX] at x
  rw [hY] at y
  obtain rfl := Nat.eq_of_beq_eq_true hf
  intro a w hok hC
  refine ⟨fun h0 => (by rw [hr] at h0; cases h0), ?_⟩
  rw [hr]
  intro l hl
  rcases List.mem_cons.1 hl with rfl | hl
  · refine (seg1_clean x hok).mono ?_
    rintro a' w' ⟨e, h, ⟨hc, hk⟩, hok'⟩
    exact ⟨hc w' hok'.ok, hk a' w' (hok'.sel ts) (hc w' hok'.ok)⟩
  · obtain rfl : l = j := by simpa using hl
    refine (seg1_clean y hok).mono ?_
    rintro a' w' ⟨e, h, ⟨hc, hk⟩, hok'⟩
    exact ⟨hc w' hok'.ok, hk a' w' (hok'.sel us) (hc w' hok'.ok)⟩
theorem Ok.pickTo {g g0 : GH} {h h0 : Hs} {w : World} (is : List (Nat × Nat)) (hn : (is.map (·.2)).all (fun i => (is.map (·.2)).count i == 1) = true) (he : pickT h is = h0) (hg : g0.le g) (hw : Ok g h w) : Ok g0 h0 w := by
  have h1 := (hw.pick (is.map (·.2)) (nodupB hn)).retag (h' := h0) (by rw [← he, pickT_map])
  exact h1.gweak hg
theorem PO.nil {x : Exit} (t : Nat) (T : TypeId) (sz : Nat) (h : PO Q x { s with h := (t, .sl none 0 0 T sz []) :: s.h }) : PO Q x s := fun a w hs => h a w ⟨hs.env, hs.df, hs.ok.addNil t T sz⟩
theorem WP.as {t : Nat} {v v' : Value} (hl : look s.e t = some v) (hv : v = v') (h : WP P ρ c Q { s with e := (t, v') :: s.e }) : WP P ρ c Q s := fun a w hs => h a w ⟨⟨hs.env.sz, fun t' u hu => by
  simp only [look] at hu
  cases hb : Nat.beq t t' with
  | true => rw [hb] at hu; cases hu; rw [← Nat.eq_of_beq_eq_true hb, ← hv]; exact hs.env.ev _ _ hl
  | false => rw [hb] at hu; exact hs.env.ev _ _ hu⟩, hs.df, hs.ok⟩
end

theorem OwnRead.agg {cs : List Value} {off m : Nat} {v : Value} (h1 : (seg cs off m).length = m) (h2 : v = .agg (seg cs off m).toArray) : OwnRead cs off true m v := ⟨h1, h2⟩
theorem OwnRead.one {cs : List Value} {off m : Nat} {v : Value} (h : cs[off]? = some v) : OwnRead cs off false m v := h

section
variable {α : Type} {d : Kd α} {g : GH}
theorem own_of_get {cs c : List Value} {b : Nat} (h2 : ∀ j u, c[j]? = some u → cs[b + j]? = some u) {off : Nat} {ag : Bool} {m : Nat} {v : Value} (hor : OwnRead c off ag m v) : OwnRead cs (b + off) ag m v := by
  cases ag with
  | true =>
    obtain ⟨hl, rfl⟩ : (seg c off m).length = m ∧ v = .agg (seg c off m).toArray := hor
    have e1 : seg cs (b + off) m = seg c off m := by
      apply List.ext_getElem?
      intro j
      by_cases hj : j < m
      · have hj' : j < (seg c off m).length := by omega
        rw [List.getElem?_eq_getElem hj']
        have := seg_get (List.getElem?_eq_getElem hj')
        have := h2 _ _ this
        unfold seg
        rw [List.getElem?_take, if_pos hj, List.getElem?_drop, Nat.add_assoc]
        exact this
      · rw [List.getElem?_eq_none (l := seg c off m) (by rw [hl]; omega)]
        unfold seg
        rw [List.getElem?_take, if_neg hj]
    exact OwnRead.agg (by rw [e1]; exact hl) (by rw [e1])
  | false => exact h2 _ _ hor
theorem splice_len {cs vs : List Value} {off : Nat} (h : off + vs.length ≤ cs.length) : (splice cs off vs).length = cs.length := by
  unfold splice
  simp only [List.length_append, List.length_take, List.length_drop]
  omega
/-- A store into an element of an own row: 'c' its cells, 'off' where in them, 'vs' what is stored. -/
theorem Rw.put {cs : List Value} {xs : List α} (h : Rw d g cs xs) {i : Nat} {x : α} (hx : xs[i]? = some x) : ∃ c, d.R g c x ∧ (∀ off ag m v, OwnRead c off ag m v → OwnRead cs (i * d.sz + off) ag m v) ∧ ∀ (off : Nat) (vs : List Value) (x' : α), off + vs.length ≤ d.sz → d.R g (splice c off vs) x' →
    i * d.sz + off + vs.length ≤ cs.length ∧ Rw d g (splice cs (i * d.sz + off) vs) (xs.set i x') := by
  obtain ⟨c, h1, h2⟩ := h.get hx
  refine ⟨c, h1, fun off ag m v hor => own_of_get h2 hor, fun off vs x' hle hr => ?_⟩
  have hlt : i < xs.length := (List.getElem?_eq_some_iff.1 hx).1
  have hcl := d.len h1
  have hrow := Rw.len h
  have hb : i * d.sz + d.sz ≤ cs.length := by
    rw [hrow, ← Nat.succ_mul]; exact Nat.mul_le_mul_right _ hlt
  refine ⟨by omega, ?_⟩
  have := Rw.set h hlt hr
  have e1 : splice cs (i * d.sz + off) vs = splice cs (i * d.sz) (splice c off vs) := by
    apply List.ext_getElem?
    intro j
    have hl2 : (splice c off vs).length = d.sz := by rw [splice_len (by omega), hcl]
    simp only [splice, List.getElem?_append, List.length_append, List.length_take, List.getElem?_take, List.getElem?_drop]
    have hm1 : min (i * d.sz + off) cs.length = i * d.sz + off := by omega
    have hm2 : min (i * d.sz) cs.length = i * d.sz := by omega
    have hm3 : min off c.length = off := by omega
    rw [hm1, hm2, hm3]
    by_cases a1 : j < i * d.sz
    · rw [if_pos (show j < i * d.sz + off + vs.length by omega), if_pos (show j < i * d.sz + off by omega), if_pos (by omega : j < i * d.sz + off), if_pos (by simp only [splice, List.length_append, List.length_take, List.length_drop] at hl2; omega), if_pos a1, if_pos a1]
    · by_cases a2 : j < i * d.sz + d.sz
      · rw [if_pos (show j < i * d.sz + (off + vs.length + (List.drop (off + vs.length) c).length) by rw [List.length_drop]; omega), if_neg a1]
        by_cases a3 : j < i * d.sz + off
        · rw [if_pos (show j < i * d.sz + off + vs.length by omega), if_pos a3, if_pos a3, if_pos (by omega), if_pos (by omega), if_pos (by omega)]
          have hj : j - i * d.sz < c.length := by omega
          have := h2 (j - i * d.sz) _ (List.getElem?_eq_getElem hj)
          rw [List.getElem?_eq_getElem hj, ← this]
          congr 1; omega
        · by_cases a4 : j < i * d.sz + off + vs.length
          · rw [if_pos a4, if_neg a3, if_pos (by omega), if_neg (by omega)]
            congr 1; omega
          · rw [if_neg a4, if_neg (by omega)]
            have hj : j - i * d.sz < c.length := by omega
            have := h2 (j - i * d.sz) _ (List.getElem?_eq_getElem hj)
            have e2 : off + vs.length + (j - i * d.sz - (off + vs.length)) = j - i * d.sz := by omega
            have e3 : i * d.sz + off + vs.length + (j - (i * d.sz + off + vs.length)) = j := by omega
            rw [e2, e3, List.getElem?_eq_getElem hj, ← this]
            congr 1; omega
      · rw [if_neg (by omega), if_neg (by rw [List.length_drop]; omega)]
        congr 1
        rw [List.length_drop]
        omega
  rw [e1]; exact this
theorem Rw.elt {cs : List Value} {xs : List α} (h : Rw d g cs xs) {i : Int} {x : α} (hx : idx xs i = some x) : (0 ≤ i ∧ i < xs.length) ∧ ∃ c, d.R g c x ∧ (∀ off ag m v, OwnRead c off ag m v → OwnRead cs (i.toNat * d.sz + off) ag m v) ∧ ∀ (off : Nat) (vs : List Value) (x' : α), off + vs.length ≤ d.sz → d.R g (splice c off vs) x' →
    i.toNat * d.sz + off + vs.length ≤ cs.length ∧ Rw d g (splice cs (i.toNat * d.sz + off) vs) (xs.set i.toNat x') := by
  obtain ⟨h0, h1, h2⟩ := idx_some hx
  exact ⟨⟨h0, h1⟩, h.put h2⟩

/-- Cells of an array of numbers. -/
def arrC (n : Nat) (k : IntKind) (xs : List Int) : List Value := (List.range n).map fun j => .int k (xs.getD j 0)
theorem arrC_get {n : Nat} {k : IntKind} {xs : List Int} {i : Nat} (h : i < n) : (arrC n k xs)[i]? = some (.int k (xs.getD i 0)) := by
  simp [arrC, h]
def Kd.iarr (n : Nat) (k : IntKind) : Kd (List Int) := ⟨n, fun _ cs xs => xs.length = n ∧ cs = arrC n k xs, fun ⟨_, h⟩ => by rw [h]; simp [arrC], fun ⟨_, h⟩ u hu => by
  rw [h] at hu
  obtain ⟨j, _, rfl⟩ := List.mem_map.1 hu
  rfl, fun _ h => h⟩
end
end Go.Eng
