/- The builtin copy, into an own row; parts of own rows. -/
import Derived.Test.YtmkjcahdjphimaaE14
namespace Go.Eng
open Go

def copyAt (ops : Array Oper) (i n : Nat) (e : Env) : Option (TypeId × Value × Value × Option Tmp) :=
  match ops[i]? with
  | some o =>
    match o.op, guardOf ops e o with
    | .call { callee := .builtin .copy, args := args, argTypes := ats }, some true =>
      match args.toList, ats.toList, known e args.toList && dstOk n o.dst with
      | [x, y], T :: _, true => some (T, rho e x, rho e y, o.dst)
      | _, _, _ => none
    | _, _ => none
  | none => none

theorem splice_nil (cs : List Value) (off : Nat) : splice cs off [] = cs := by simp [splice]

section
variable {P : Program} {ρ : Option Nat} {c : Code} {Q : Post} {n : Nat} {e : Env} {d : List Deferred} {g : GH} {h : Hs}
/-- The part of an own row from 'lo' on: where it lies. -/
def PartAt (a da : Option Addr) (lo m sz : Nat) : Prop := m = 0 ∨ ∃ b, a = some ⟨b, 0, none⟩ ∧ da = some ⟨b, lo * sz, none⟩
theorem U.copy {i T el sz : Nat} {dst : Option Tmp} {t nn cap m c1 k cc bT : Nat} {a da b : Option Addr} {cs news : List Value} (lo K : Nat) (ha : copyAt (opsOf c) i n e = some (T, .slice da m c1, .slice b k cc, dst))
    (hT : P.underlying T = some (.slice el)) (hsz : pureRun P (sizeOf el) = some sz) (hf : findE h t = some (.sl a nn cap bT sz cs)) (hd : ∀ w, Ok g h w → PartAt a da lo m sz) (hm : lo + m ≤ nn) (hcl : cs.length = nn * sz) (hr : Reads g h b k cc news) (hl : news.length = k * sz) (h1 : ∀ u ∈ news, u.oneCell' = true) (hK : Nat.min k m = K) :
    Stp P ρ (opsOf c) i ⟨n, e, d, g, h⟩ (fun _ : Unit => True) (fun _ => ⟨n, putE e dst (.int .i64 (K : Int)), d, g, updE h t (.sl a nn cap bT sz (splice cs (lo * sz) (news.take (K * sz))))⟩) := by
  intro ac w hs R hR Q
  unfold copyAt at ha
  cases ho : (opsOf c)[i]? with
  | none => rw [ho] at ha; cases ha
  | some o =>
    rw [ho] at ha
    simp only at ha
    split at ha <;> try (cases ha; done)
    rename_i args ats hop hgd
    split at ha <;> try (cases ha; done)
    rename_i x y T1 T2 hxs hts hkn
    injection ha with ha
    simp only [Prod.mk.injEq] at ha
    obtain ⟨rfl, hx, hy, rfl⟩ := ha
    simp only [Bool.and_eq_true] at hkn
    unfold wpOpIn
    simp only [ho]
    rw [guardOf_sound hgd hs.env, if_pos rfl]
    have hargs : args.map ac.eval = #[Value.slice da m c1, Value.slice b k cc] := by
      apply Array.ext'
      rw [Array.toList_map, hxs]
      simp only [List.map_cons, List.map_nil, ← hx, ← hy]
      rw [hs.env.rho hkn.1 x (by rw [hxs]; simp), hs.env.rho hkn.1 y (by rw [hxs]; simp)]
    have hat0 : ats[0]? = some T1 := by
      have : ats.toList[0]? = some T1 := by rw [hts]; rfl
      simpa using this
    have hle1 : K ≤ k := by rw [← hK]; exact Nat.min_le_left _ _
    have hle2 : K ≤ m := by rw [← hK]; exact Nat.min_le_right _ _
    have hlen : (news.take (K * sz)).length = K * sz := by
      rw [List.length_take, hl]; exact Nat.min_eq_left (Nat.mul_le_mul_right _ hle1)
    have hload : (Builtin.firstCells sz K (.slice b k cc)).run P w = .ok (news.take (K * sz)).toArray w := by
      have hrd := hr w hs.ok
      cases b with
      | none =>
        obtain ⟨rfl, _⟩ := hrd.1 rfl
        obtain rfl : K = 0 := by omega
        simp [Builtin.firstCells, Sem.run_pure]
      | some ad =>
        have := run_loadCells_list (P := P) (w := w) ad (news.take (K * sz)) (fun j u hu => by
          have hj : j < K * sz := by have := (List.getElem?_eq_some_iff.1 hu).1; rw [hlen] at this; exact this
          rw [List.getElem?_take_of_lt hj] at hu
          exact hrd.2 ad rfl j u hu)
        rw [hlen] at this
        exact this
    have hone : ∀ u ∈ news.take (K * sz), u.oneCell' = true := fun u hu => h1 u (List.mem_of_mem_take hu)
    have hst : ∃ w', ((match da with | some a => storeCells a (news.take (K * sz)) | none => pure ()) : Sem Unit).run P w = .ok () w' ∧ Ok g (updE h t (.sl a nn cap bT sz (splice cs (lo * sz) (news.take (K * sz))))) w' := by
      by_cases hK0 : K = 0
      · subst hK0
        have e0 : news.take (0 * sz) = [] := by simp
        rw [e0, splice_nil]
        refine ⟨w, ?_, ?_⟩
        · cases da <;> rfl
        · have := hs.ok.upd (e' := .sl a nn cap bT sz cs) hf (fun _ _ _ => rfl) (hs.ok.en _ (findE_mem hf)) (fun k hk => .inl hk)
          exact this
      · rcases hd w hs.ok with h0 | ⟨b0, rfl, rfl⟩
        · omega
        · have := storeCells_own (P := P) (e := .sl (some ⟨b0, 0, none⟩) nn cap bT sz cs) (b := b0) (cs := cs) hs.ok hf rfl (off := lo * sz) (vs := news.take (K * sz)) (by rw [hlen, hcl, ← Nat.add_mul]; exact Nat.mul_le_mul_right _ (by omega)) hone
          exact this
    obtain ⟨w', hst1, hst2⟩ := hst
    have hrun : (execOp ac.eval o).run P w = .ok (.value (.int .i64 (K : Int))) w' := by
      simp only [execOp, hop, resolve, hargs, Sem.run_bind, Sem.run_pure, Result.andThen_ok, invoke, builtin, Builtin.copy_, hat0]
      simp only [Array.getElem?_eq_getElem, List.getElem?_toArray, List.getElem?_cons_zero, List.getElem?_cons_succ, Sem.run_bind, run_underlying hT w, Result.andThen_ok, Builtin.lenOf, Sem.run_pure, pureRun_sound hsz w, hK, hload, goInt]
      cases da with
      | none => simp only at hst1; cases hst1; rfl
      | some ad =>
        simp only at hst1
        simp only [Sem.run_bind, hst1, Result.andThen_ok, Sem.run_pure]
    refine run_op (v := .int .i64 (K : Int)) (by rw [hop]; rfl) hrun rfl (hR () _ _ trivial (hs.put hkn.2 hst2))
theorem part_own {t nn cap bT sz : Nat} {a : Option Addr} {cs : List Value} (hf : findE h t = some (.sl a nn cap bT sz cs)) : ∀ w, Ok g h w → PartAt a a 0 nn sz := fun w hw => by
  rcases ownsRow_key (hw.en _ (findE_mem hf)) with ⟨_, h2, _⟩ | ⟨b', cur, rfl, _⟩
  · exact .inl h2
  · exact .inr ⟨b', rfl, by rw [Nat.zero_mul]⟩
theorem own_le {t nn cap bT sz : Nat} {a : Option Addr} {cs : List Value} (hf : findE h t = some (.sl a nn cap bT sz cs)) : ∀ w, Ok g h w → nn ≤ cap := fun w hw => by
  rcases ownsRow_key (hw.en _ (findE_mem hf)) with ⟨_, h2, h3, _⟩ | ⟨b', cur, rfl, _, h3, _⟩
  · omega
  · exact h3
theorem part_sub {t nn cap bT sz : Nat} {a : Option Addr} {cs : List Value} (hf : findE h t = some (.sl a nn cap bT sz cs)) (lo : Nat) : ∀ w, Ok g h w → PartAt a (subA a cap lo sz) lo (nn - lo) sz := fun w hw => by
  have hle := own_le hf w hw
  unfold subA
  split
  · rename_i he; left; omega
  · rcases ownsRow_key (hw.en _ (findE_mem hf)) with ⟨rfl, h2, _⟩ | ⟨b', cur, rfl, _⟩
    · left; omega
    · right; refine ⟨b', rfl, ?_⟩
      rw [Option.map_some, add_flat, Nat.zero_add]
theorem reads_pre {t nn cap bT sz hi : Nat} {a : Option Addr} {cs : List Value} (hf : findE h t = some (.sl a nn cap bT sz cs)) (hh : hi ≤ nn) : Reads g h (subA a cap 0 sz) hi cap (cs.take (hi * sz)) := fun w hw => by
  have hb := hw.en _ (findE_mem hf)
  rcases ownsRow_key hb with ⟨rfl, h2, h3, _⟩ | ⟨b', cur, rfl, h1, h2, h3, h4, h5⟩
  · refine ⟨fun _ => ⟨by omega, h3⟩, fun ad he => ?_⟩
    unfold subA at he
    split at he <;> cases he
  · have hs : subA (some ⟨b', 0, none⟩) cap 0 sz = some ⟨b', 0, none⟩ := by
      unfold subA
      split
      · rfl
      · simp [Addr.add]
    rw [hs]
    refine ⟨fun he => (by cases he), fun ad he j u hu => ?_⟩
    cases he
    have hj : j < hi * sz := by
      have := (List.getElem?_eq_some_iff.1 hu).1
      rw [List.length_take] at this
      omega
    rw [List.getElem?_take_of_lt hj] at hu
    have := Ent.cell (e := .sl (some ⟨b', 0, none⟩) nn cap bT sz cs) hb (b := b') (cs := cs) rfl hu
    rw [add_flat]
    simpa using this
end
section
variable {P : Program} {ρ : Option Nat} {c : Code} {Q : Post} {n : Nat} {e : Env} {d : List Deferred} {g : GH} {h : Hs}
theorem U.selEq {i : Nat} (ts : List Nat) (e' : Env) (h' : Hs) (he : selE e ts = e') (hh : h = h') (k : WO P ρ c Q i ⟨n, e', d, g, h'⟩) : WO P ρ c Q i ⟨n, e, d, g, h⟩ := by
  subst he; subst hh
  exact WO.weak (s' := ⟨n, selE e ts, d, g, h⟩) (fun _ _ hs => hs.sel ts) k
theorem U.selEqD {C : Cls} {N : Nat} {ls : List Nat} (ts : List Nat) (e' : Env) (h' : Hs) (he : selE e ts = e') (hh : h = h') (k : WD P ρ c Q C N ls ⟨n, e', d, g, h'⟩) : WD P ρ c Q C N ls ⟨n, e, d, g, h⟩ := by
  subst he; subst hh
  exact WD.weak (s' := ⟨n, selE e ts, d, g, h⟩) (fun _ _ hs => hs.sel ts) k
theorem U.knowD {C : Cls} {N : Nat} {ls : List Nat} {φ : Prop} (hk : ∀ w, Ok g h w → φ) (k : φ → WD P ρ c Q C N ls ⟨n, e, d, g, h⟩) : WD P ρ c Q C N ls ⟨n, e, d, g, h⟩ := fun a w hs => k (hk w hs.ok) a w hs
end
section
variable {α : Type} {d : Kd α} {g : GH}
theorem Rw.copy {cs news : List Value} {xs ys : List α} (h : Rw d g cs xs) (h' : Rw d g news ys) {l K : Nat} (hl : l ≤ xs.length) (hK : Nat.min ys.length (xs.length - l) = K) : Rw d g (splice cs (l * d.sz) (news.take (K * d.sz))) (lcopy xs l ys) := by
  have h1 : K ≤ ys.length := by rw [← hK]; exact Nat.min_le_left _ _
  have hlen : (news.take (K * d.sz)).length = K * d.sz := by
    rw [List.length_take, Rw.len h']; exact Nat.min_eq_left (Nat.mul_le_mul_right _ h1)
  unfold splice lcopy
  rw [hK, hlen, ← Nat.add_mul, List.append_assoc]
  exact (h.take l).app ((h'.take K).app (h.drop (l + K)))
end
end Go.Eng
