/- The statement: each course of a coat that is laid is held by a sway as long as the face is wide: as many rods are needed as courses, by how many sways a rod holds, rounded up. For every input, on every schedule: true; the arguments read as they did; no condition. -/
import Derived.Test.YtmkjcahdjphimaaE17
import Derived.Test.YtmkjcahdjphimaaRows
import Derived.Test.YtmkjcahdjphimaaRSP
import Derived.Test.YtmkjcahdjphimaaLS5
namespace Go.Proofs.Ytmkjcahdjphimaa
open Go Go.Eng Go.ChangeShapes Go.WideShapes Go.ChangeAt Go.RowKit

theorem Try.ownK : ownKnob Try.prog.godebug = none := by kernel_rfl
theorem Try.laidK : laidOutB Try.prog = true := by kernel_rfl
set_option maxRecDepth 100000 in
theorem ridgeSways_call {H : Type} {enc : TypeId × Value → H} (W : World) (base : Nat) (args : Array Value) (ds : List (DataW H)) (p : List MemPlace) (hval : ∀ (j : Nat) t v, Try.f3.params[j]? = some t → args[j]? = some v → Value.okWide Try.prog W .any base t v)
    (hA : DataW.TrodAll enc Try.prog W 0 (fun _ => true) true Try.f3.params.toList args.toList ds p) : Calls Try.prog 3 args W (Ret (fun _ : Unit => True) (fun _ => .bool true) (fun _ => gAll W) (fun _ => [(0, .wd W)])) := by
  rw [Try.params3] at hA hval
  obtain ⟨v0, vs0, _, _, _, _, e0, _, _, h0, hA⟩ := trodAll_cons hA
  obtain ⟨v1, vs1, _, _, _, _, rfl, _, _, h1, hA⟩ := trodAll_cons hA
  obtain ⟨v2, vs2, _, _, _, _, rfl, _, _, h2, hA⟩ := trodAll_cons hA
  obtain ⟨v3, vs3, _, _, _, _, rfl, _, _, h3, hA⟩ := trodAll_cons hA
  obtain ⟨v4, vs4, _, _, _, _, rfl, _, _, h4, hA⟩ := trodAll_cons hA
  obtain ⟨rfl, _, _⟩ := trodAll_nil hA
  obtain rfl : args = #[v0, v1, v2, v3, v4] := Array.ext' e0
  have o3 : Opn enc Try.prog W 3 (Kd.int .i64) _ := opn_int Try.underlying3
  have o42 : Opn enc Try.prog W 42 (Kd.pair (Kd.int .i64) (Kd.int .i64)) _ := opn_struct Try.underlying42 (by kernel_rfl) (opnF_cons rfl (by kernel_rfl) rfl o3 (opnF_one rfl (by kernel_rfl) o3))
  obtain ⟨cs0, x0, rfl, r0, k0⟩ := arg_agg (by kernel_rfl) (opn_struct (d := Kd.pair (Kd.sl (Kd.pair (Kd.int .i64) (Kd.int .i64))) (Kd.sl (Kd.pair (Kd.pair (Kd.int .i64) (Kd.int .i64)) (Kd.pair (Kd.int .i64) (Kd.int .i64))))) Try.underlying25 (by kernel_rfl)
    (opnF_cons rfl (by kernel_rfl) rfl (opn_sl Try.underlying22 (by kernel_rfl) (by decide) o42) (opnF_one rfl (by kernel_rfl) (opn_sl Try.underlying23 (by kernel_rfl) (by decide) (opn_struct Try.underlying131 (by kernel_rfl) (opnF_cons rfl (by kernel_rfl) rfl o42 (opnF_one rfl (by kernel_rfl) o42))))))) (hval 0 25 _ rfl rfl) h0
  have o27 : Opn enc Try.prog W 27 (Kd.pair (Kd.int .i64) (Kd.int .i64)) _ := opn_struct Try.underlying27 (by kernel_rfl) (opnF_cons rfl (by kernel_rfl) rfl o3 (opnF_one rfl (by kernel_rfl) o3))
  obtain ⟨cs1, x1, rfl, r1, k1⟩ := arg_agg (by kernel_rfl) (opn_struct Try.underlying29 (by kernel_rfl) (opnF_cons rfl (by kernel_rfl) rfl o3 (opnF_cons rfl (by kernel_rfl) rfl o27 (opnF_cons rfl (by kernel_rfl) rfl o27 (opnF_cons rfl (by kernel_rfl) rfl o3 (opnF_cons rfl (by kernel_rfl) rfl o3 (opnF_one rfl (by kernel_rfl) o3))))))) (hval 1 29 _ rfl rfl) h1
  obtain ⟨cs2, x2, rfl, r2, k2⟩ := arg_agg (by kernel_rfl) (opn_struct Try.underlying31 (by kernel_rfl) (opnF_cons rfl (by kernel_rfl) rfl o3 (opnF_cons rfl (by kernel_rfl) rfl o3 (opnF_cons rfl (by kernel_rfl) rfl o3 (opnF_one rfl (by kernel_rfl) o3))))) (hval 2 31 _ rfl rfl) h2
  obtain ⟨a, rfl, _, _, wa⟩ := open_int Try.underlying32 (hval 3 32 _ rfl rfl) h3
  obtain ⟨b, rfl, _, _, wb⟩ := open_int Try.underlying5 (hval 4 5 _ rfl rfl) h4
  obtain ⟨_, _, rfl, ⟨s1, t1, rfl, u1⟩, s2, t2, rfl, u2⟩ := r0
  obtain ⟨_, _, rfl, rfl, _, _, rfl, ⟨_, _, rfl, rfl, rfl⟩, _, _, rfl, ⟨_, _, rfl, rfl, rfl⟩, _, _, rfl, rfl, _, _, rfl, rfl, rfl⟩ := r1
  obtain ⟨_, _, rfl, rfl, _, _, rfl, rfl, _, _, rfl, rfl, rfl⟩ := r2
  have ha : 0 ≤ a ∧ a ≤ 65535 := by simpa [Lit.wf, IntKind.min, IntKind.max, IntKind.signed, IntKind.bits] using wa
  have hb : 0 ≤ b ∧ b ≤ 255 := by simpa [Lit.wf, IntKind.min, IntKind.max, IntKind.signed, IntKind.bits] using wb
  exact c_f3 2000 x0.1 x0.2 _ _ _ _ _ _ _ _ _ _ _ _ a b s1 t1 s2 t2 u1 u2 (ridgeSways x0.1 x0.2 _ _ _ _ _ _ _ _ _ _ _ _ a b ha hb) (ok_all W)

set_option maxRecDepth 100000 in
theorem ridgeSways_lifted (os : Os) (started : os.Started) (H : Type) (enc : TypeId × Value → H) :
    ReturnsInLeavingWide {} Try.checked os 3 .any (Rows.ridgeSwaysSpec.pre6 enc Try.prog Try.f3 [] false) (Rows.ridgeSwaysSpec.post enc Try.prog Try.f3 false true false false) := by
  refine law_leaving (C := Try.checked) (tb := 4) Try.ownK started (by kernel_rfl) Try.func3 Try.laidK (by kernel_rfl) (by kernel_rfl) Try.underlying4 rfl ?_
    (ChangeSpec.witness6 (enc := enc) (C := Try.checked) false ⟨#[], #[.agg #[.slice none 0 0, .slice none 0 0], .agg #[.int .i64 0, .int .i64 0, .int .i64 0, .int .i64 0, .int .i64 0, .int .i64 0, .int .i64 0, .int .i64 0], .agg #[.int .i64 0, .int .i64 0, .int .i64 0, .int .i64 0], .int .u16 0, .int .u8 0], []⟩ 8 (by kernel_rfl) (by kernel_rfl) (by kernel_rfl) (by kernel_rfl))
    (fun W base args ds p hval hA => ridgeSways_call W base args ds p hval hA)
  intro ds hl
  rw [Try.params3] at hl
  match ds, hl with
  | [d1, d2, d3, d4, d5], _ => rfl

theorem ridgeSways_holds : Rows.RidgeSwaysSaid :=
  OpenClaim.holds_of_wide_leaving 3 Try.f3 rfl rfl rfl rfl rfl rfl rfl ⟨rfl, rfl, rfl, rfl, rfl⟩ rfl rfl rfl rfl rfl (by kernel_rfl) Try.func3 (by kernel_rfl)
    (of_decide_eq_true (by kernel_rfl)) (by unfold Func.isWrapper; first | (rw [if_pos (by decide +kernel)]; kernel_rfl) | (rw [if_neg (by decide +kernel)]; exact ⟨rfl, rfl⟩))
    (fun os started H enc _ => ridgeSways_lifted os started H enc)
#print axioms ridgeSways_holds
end Go.Proofs.Ytmkjcahdjphimaa
