/- Ranges over strings. -/
import Derived.Test.YtmkjcahdjphimaaE12
namespace Go.Eng
open Go

def rangeSAt (ops : Array Oper) (i n : Nat) (e : Env) : Option (TypeId × ByteArray × Option Tmp) :=
  match ops[i]? with
  | some o =>
    match o.op, guardOf ops e o with
    | .range T x, some true =>
      match rho e x, known e [x] && dstOk n o.dst with
      | .string s, true => some (T, s, o.dst)
      | _, _ => none
    | _, _ => none
  | none => none
def nextAt (ops : Array Oper) (i n : Nat) (e : Env) : Option (Nat × Bool × Option Tmp) :=
  match ops[i]? with
  | some o =>
    match o.op, guardOf ops e o with
    | .next x s, some true =>
      match rho e x, known e [x] && dstOk n o.dst with
      | .pointer (some ⟨b, 0, none⟩), true => some (b, s, o.dst)
      | _, _ => none
    | _, _ => none
  | none => none

section
variable {P : Program} {ρ : Option Nat} {c : Code} {Q : Post} {n : Nat} {e : Env} {d : List Deferred} {g : GH} {h : Hs}
theorem U.rangeS {i T : Nat} {dst : Option Tmp} {s : ByteArray} (t : Nat) (ha : rangeSAt (opsOf c) i n e = some (T, s, dst)) (hT : P.underlying T = some .string) :
    Stp P ρ (opsOf c) i ⟨n, e, d, g, h⟩ (fun _ : Nat => True) (fun b => ⟨n, putE e dst (.pointer (some ⟨b, 0, none⟩)), d, g, (t, .ob b (.stringIter s 0)) :: h⟩) := by
  intro a w hs R hR Q
  unfold rangeSAt at ha
  cases ho : (opsOf c)[i]? with
  | none => rw [ho] at ha; cases ha
  | some o =>
    rw [ho] at ha
    simp only at ha
    split at ha <;> try (cases ha; done)
    rename_i T' x hop hgd
    split at ha <;> try (cases ha; done)
    rename_i s' hx hkn
    obtain ⟨rfl, rfl, rfl⟩ : T' = T ∧ s' = s ∧ o.dst = dst := by simpa using ha
    simp only [Bool.and_eq_true] at hkn
    unfold wpOpIn
    simp only [ho]
    rw [guardOf_sound hgd hs.env, if_pos rfl]
    refine ⟨fun _ _ => trivial, ?_⟩
    rw [Oper.semAt_eq _ _ _ (by rw [hop]; intro c e; cases e)]
    have hx' : a.eval x = .string s' := by rw [← hs.env.rho hkn.1 x (by simp)]; exact hx
    have hrun : (execOp a.eval o).run P w = .ok (.value (.pointer (some ⟨w.heap.size, 0, none⟩))) (w.alloc (.stringIter s' 0)) := by
      simp only [execOp, hop, hx', Instr.range, Sem.run_bind, run_underlying hT w, Result.andThen_ok, Sem.run_pure, run_newObj_alloc]
    rw [hrun]
    exact hR w.heap.size _ _ trivial (hs.put hkn.2 (hs.ok.push (fun k hk => heap_alloc_old w _ hk) (World.alloc_heap_new w _) (fun k hk => by cases hk; exact Nat.le_refl _)))
theorem U.nextY {i b t pos : Nat} {dst : Option Tmp} {s : ByteArray} (hlt : pos < s.size) (ha : nextAt (opsOf c) i n e = some (b, true, dst)) (hf : findE h t = some (.ob b (.stringIter s pos))) :
    Stp P ρ (opsOf c) i ⟨n, e, d, g, h⟩ (fun _ : Unit => True) (fun _ => ⟨n, putE e dst (.tuple #[.bool true, .int .i64 (pos : Int), .int .i32 (Utf8.decode s pos).1]), d, g, updE h t (.ob b (.stringIter s (pos + (Utf8.decode s pos).2)))⟩) := by
  intro a w hs R hR Q
  unfold nextAt at ha
  cases ho : (opsOf c)[i]? with
  | none => rw [ho] at ha; cases ha
  | some o =>
    rw [ho] at ha
    simp only at ha
    split at ha <;> try (cases ha; done)
    rename_i x s' hop hgd
    split at ha <;> try (cases ha; done)
    rename_i b' hx hkn
    obtain ⟨rfl, rfl, rfl⟩ : b' = b ∧ s' = true ∧ o.dst = dst := by simpa using ha
    simp only [Bool.and_eq_true] at hkn
    unfold wpOpIn
    simp only [ho]
    rw [guardOf_sound hgd hs.env, if_pos rfl]
    refine ⟨fun _ _ => trivial, ?_⟩
    rw [Oper.semAt_eq _ _ _ (by rw [hop]; intro c e; cases e)]
    have hx' : a.eval x = .pointer (some ⟨b', 0, none⟩) := by rw [← hs.env.rho hkn.1 x (by simp)]; exact hx
    have hb : w.heap[b']? = some (.stringIter s pos) := hs.ok.en _ (findE_mem hf)
    have hg : (getObj b').run P w = .ok (.stringIter s pos) w := by simp [getObj, Sem.run, hb]
    have hset : ∀ o', (setObj b' o').run P w = .ok () (w.putObj b' o') := fun o' => by simp [setObj, Sem.run, hb, World.putObj]
    have hrun : (execOp a.eval o).run P w = .ok (.value (.tuple #[.bool true, .int .i64 (pos : Int), .int .i32 (Utf8.decode s pos).1])) (w.putObj b' (.stringIter s (pos + (Utf8.decode s pos).2))) := by
      simp only [execOp, hop, hx', Instr.next, Sem.run_bind, Result.andThen_ok, hg, hlt, if_true, hset, Sem.run_pure, goInt]
    rw [hrun]
    exact hR () _ _ trivial (hs.put hkn.2 (putObj_ob hs.ok _ hf))
theorem U.nextN {i b t pos : Nat} {dst : Option Tmp} {s : ByteArray} (hlt : ¬ pos < s.size) (ha : nextAt (opsOf c) i n e = some (b, true, dst)) (hf : findE h t = some (.ob b (.stringIter s pos))) :
    Stp P ρ (opsOf c) i ⟨n, e, d, g, h⟩ (fun _ : Unit => True) (fun _ => ⟨n, putE e dst (.tuple #[.bool false]), d, g, h⟩) := by
  intro a w hs R hR Q
  unfold nextAt at ha
  cases ho : (opsOf c)[i]? with
  | none => rw [ho] at ha; cases ha
  | some o =>
    rw [ho] at ha
    simp only at ha
    split at ha <;> try (cases ha; done)
    rename_i x s' hop hgd
    split at ha <;> try (cases ha; done)
    rename_i b' hx hkn
    obtain ⟨rfl, rfl, rfl⟩ : b' = b ∧ s' = true ∧ o.dst = dst := by simpa using ha
    simp only [Bool.and_eq_true] at hkn
    unfold wpOpIn
    simp only [ho]
    rw [guardOf_sound hgd hs.env, if_pos rfl]
    refine ⟨fun _ _ => trivial, ?_⟩
    rw [Oper.semAt_eq _ _ _ (by rw [hop]; intro c e; cases e)]
    have hx' : a.eval x = .pointer (some ⟨b', 0, none⟩) := by rw [← hs.env.rho hkn.1 x (by simp)]; exact hx
    have hb : w.heap[b']? = some (.stringIter s pos) := hs.ok.en _ (findE_mem hf)
    have hg : (getObj b').run P w = .ok (.stringIter s pos) w := by simp [getObj, Sem.run, hb]
    have hrun : (execOp a.eval o).run P w = .ok (.value (.tuple #[.bool false])) w := by
      simp only [execOp, hop, hx', Instr.next, Sem.run_bind, Result.andThen_ok, hg, hlt, if_false, Sem.run_pure]
    rw [hrun]
    exact hR () _ _ trivial (hs.put hkn.2 hs.ok)
end
end Go.Eng
