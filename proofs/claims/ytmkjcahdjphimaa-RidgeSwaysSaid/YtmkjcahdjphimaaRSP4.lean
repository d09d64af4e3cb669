/- printed: the walks -/
import Derived.Test.YtmkjcahdjphimaaRSP3
namespace Go.Proofs.Ytmkjcahdjphimaa
open Go Go.Eng
set_option maxRecDepth 100000 in
theorem c_f8 (kk : Nat) (x1 : (List (Int × Int))) (x5 : (List ((Int × Int) × (Int × Int)))) (x9 : Int) (x10 : Int) (x11 : Int) (x12 : Int) (x13 : Int) (x14 : Int) (x15 : Int) (x16 : Int) (x17 : Int) (x18 : Int) (x19 : Int) (x20 : Int) (a2 : Option Addr) (c3 : Nat) (a6 : Option Addr) (c7 : Nat) {g : GH} (h21 : Sl (Kd.pair (Kd.int .i64) (Kd.int .i64)) g a2 (List.length x1) c3 x1) (h22 : Sl (Kd.pair (Kd.pair (Kd.int .i64) (Kd.int .i64)) (Kd.pair (Kd.int .i64) (Kd.int .i64))) g a6 (List.length x5) c7 x5) {r : ((List (Int × (List (Int × Int × Int × Int × Int × Int)))) × Int)} (H : m_f8 kk x1 x5 x9 x10 x11 x12 x13 x14 x15 x16 x17 x18 x19 x20 = some r) {fr : Hs} {w : World} (hw : Ok g (fr) w) :
    Calls Try.prog 8 (List.toArray [Value.agg #[Value.slice a2 (List.length x1) c3, Value.slice a6 (List.length x5) c7], Value.agg #[Value.int .i64 x9, Value.int .i64 x10, Value.int .i64 x11, Value.int .i64 x12, Value.int .i64 x13, Value.int .i64 x14, Value.int .i64 x15, Value.int .i64 x16], Value.agg #[Value.int .i64 x17, Value.int .i64 x18, Value.int .i64 x19, Value.int .i64 x20]]) w (Ret (fun y : (GH) × (Option Addr) × (Nat) => GH.le g y.1 ∧ Sl (Kd.pair (Kd.int .i64) (Kd.sl (Kd.pair (Kd.int .i64) (Kd.pair (Kd.int .i64) (Kd.pair (Kd.int .i64) (Kd.pair (Kd.int .i64) (Kd.pair (Kd.int .i64) (Kd.int .i64)))))))) y.1 y.2.1 (List.length r.1) y.2.2 r.1) (fun y => Value.tuple #[Value.agg #[Value.slice y.2.1 (List.length r.1) y.2.2], Value.int .i64 r.2]) (fun y => y.1) (fun y => (fr))) := by
  refine fn_wp (args := [Value.agg #[Value.slice a2 (List.length x1) c3, Value.slice a6 (List.length x5) c7], Value.agg #[Value.int .i64 x9, Value.int .i64 x10, Value.int .i64 x11, Value.int .i64 x12, Value.int .i64 x13, Value.int .i64 x14, Value.int .i64 x15, Value.int .i64 x16], Value.agg #[Value.int .i64 x17, Value.int .i64 x18, Value.int .i64 x19, Value.int .i64 x20]]) (c := C_8) Try.func8 (by kernel_rfl) Try.ntmps8 (by kernel_rfl) ?_ hw
  unfold m_f8 at H
  refine WP.seq (by kernel_rfl) ?_
  refine WP.reg (by kernel_rfl) ?_
  refine U.seg 5 [3, 4, 5, 6] [(0, .al 1), (1, .al 2), (2, .al 3), (3, .al 4)] (fun K => ∀ b23 : Nat, ∀ b24 : Nat, ∀ b25 : Nat, ∀ b26 : Nat, K [(3, Value.pointer (some ⟨b23, 0, none⟩)), (4, Value.pointer (some ⟨b24, 0, none⟩)), (5, Value.pointer (some ⟨b25, 0, none⟩)), (6, Value.pointer (some ⟨b26, 0, none⟩))] ((4, Ent.blk b26 37 [Value.slice none 0 0]) :: (3, Ent.blk b25 31 [Value.int .i64 x17, Value.int .i64 x18, Value.int .i64 x19, Value.int .i64 x20]) :: (2, Ent.blk b24 29 [Value.int .i64 x9, Value.int .i64 x10, Value.int .i64 x11, Value.int .i64 x12, Value.int .i64 x13, Value.int .i64 x14, Value.int .i64 x15, Value.int .i64 x16]) :: (1, Ent.blk b23 25 [Value.slice a2 (List.length x1) c3, Value.slice a6 (List.length x5) c7]) :: fr)) (fun K => by kernel_rfl) 5 (by kernel_rfl) ?_
  intro b23
  intro b24
  intro b25
  intro b26
  refine WO.done (by kernel_rfl) ?_
  refine PO.nx ?_
  refine WP.seq (by kernel_rfl) ?_
  refine WP.reg (by kernel_rfl) ?_
  refine U.seg 1 [3, 4, 5, 6, 21] [(0, .ld 1)] (fun K => (b23 = b23) ∧ (K [(3, Value.pointer (some ⟨b23, 0, none⟩)), (4, Value.pointer (some ⟨b24, 0, none⟩)), (5, Value.pointer (some ⟨b25, 0, none⟩)), (6, Value.pointer (some ⟨b26, 0, none⟩)), (21, Value.agg #[Value.slice a2 (List.length x1) c3, Value.slice a6 (List.length x5) c7])] ((4, Ent.blk b26 37 [Value.slice none 0 0]) :: (3, Ent.blk b25 31 [Value.int .i64 x17, Value.int .i64 x18, Value.int .i64 x19, Value.int .i64 x20]) :: (2, Ent.blk b24 29 [Value.int .i64 x9, Value.int .i64 x10, Value.int .i64 x11, Value.int .i64 x12, Value.int .i64 x13, Value.int .i64 x14, Value.int .i64 x15, Value.int .i64 x16]) :: (1, Ent.blk b23 25 [Value.slice a2 (List.length x1) c3, Value.slice a6 (List.length x5) c7]) :: fr))) (fun K => by kernel_rfl) 1 (by kernel_rfl) ?_
  refine ⟨rfl, ?_⟩
  obtain ⟨x28, h29, H⟩ := bnd_some H
  refine U.step 2 (by kernel_rfl) (U.call (dst := some 22) (fun w hw => c_f29 kk x1 x5 a2 c3 a6 c7 h21 h22 h29 hw) (by kernel_rfl) (enters_of Try.func29 (by kernel_rfl) rfl)) ?_
  rintro _ _
  refine U.seg 1 [3, 4, 5, 6, 8] [] (fun K => K [(3, Value.pointer (some ⟨b23, 0, none⟩)), (4, Value.pointer (some ⟨b24, 0, none⟩)), (5, Value.pointer (some ⟨b25, 0, none⟩)), (6, Value.pointer (some ⟨b26, 0, none⟩)), (8, Value.int .i64 x28)] ((4, Ent.blk b26 37 [Value.slice none 0 0]) :: (3, Ent.blk b25 31 [Value.int .i64 x17, Value.int .i64 x18, Value.int .i64 x19, Value.int .i64 x20]) :: (2, Ent.blk b24 29 [Value.int .i64 x9, Value.int .i64 x10, Value.int .i64 x11, Value.int .i64 x12, Value.int .i64 x13, Value.int .i64 x14, Value.int .i64 x15, Value.int .i64 x16]) :: (1, Ent.blk b23 25 [Value.slice a2 (List.length x1) c3, Value.slice a6 (List.length x5) c7]) :: fr)) (fun K => by kernel_rfl) 3 (by kernel_rfl) ?_
  refine WO.done (by kernel_rfl) ?_
  refine PO.nx ?_
  refine WP.seq (by kernel_rfl) ?_
  refine WP.seq (by kernel_rfl) ?_
  refine WP.reg (by kernel_rfl) ?_
  refine U.seg 2 [3, 4, 5, 6, 8, 24] [] (fun K => K [(3, Value.pointer (some ⟨b23, 0, none⟩)), (4, Value.pointer (some ⟨b24, 0, none⟩)), (5, Value.pointer (some ⟨b25, 0, none⟩)), (6, Value.pointer (some ⟨b26, 0, none⟩)), (8, Value.int .i64 x28), (24, Value.bool (x28 == 0))] ((4, Ent.blk b26 37 [Value.slice none 0 0]) :: (3, Ent.blk b25 31 [Value.int .i64 x17, Value.int .i64 x18, Value.int .i64 x19, Value.int .i64 x20]) :: (2, Ent.blk b24 29 [Value.int .i64 x9, Value.int .i64 x10, Value.int .i64 x11, Value.int .i64 x12, Value.int .i64 x13, Value.int .i64 x14, Value.int .i64 x15, Value.int .i64 x16]) :: (1, Ent.blk b23 25 [Value.slice a2 (List.length x1) c3, Value.slice a6 (List.length x5) c7]) :: fr)) (fun K => by kernel_rfl) 2 (by kernel_rfl) ?_
  refine WO.done (by kernel_rfl) ?_
  refine PO.nx ?_
  refine WP.join (fun s => ∃ (x33 : Int), f8_j1 kk x33 x17 x18 x19 x20 x9 x13 x12 x11 x10 x1 x14 x15 = some r ∧ s = { n := 183, e := [(3, Value.pointer (some ⟨b23, 0, none⟩)), (4, Value.pointer (some ⟨b24, 0, none⟩)), (5, Value.pointer (some ⟨b25, 0, none⟩)), (6, Value.pointer (some ⟨b26, 0, none⟩)), (8, Value.int .i64 x33)], d := [], g := g, h := ((1, Ent.blk b23 25 [Value.slice a2 (List.length x1) c3, Value.slice a6 (List.length x5) c7]) :: (2, Ent.blk b24 29 [Value.int .i64 x9, Value.int .i64 x10, Value.int .i64 x11, Value.int .i64 x12, Value.int .i64 x13, Value.int .i64 x14, Value.int .i64 x15, Value.int .i64 x16]) :: (3, Ent.blk b25 31 [Value.int .i64 x17, Value.int .i64 x18, Value.int .i64 x19, Value.int .i64 x20]) :: (4, Ent.blk b26 37 [Value.slice none 0 0]) :: fr) }) ?_ ?_
  · rcases cond_some H with ⟨h30, H⟩ | ⟨h30, H⟩
    · refine U.asW (t := 24) (congrArg Value.bool h30) (by kernel_rfl) ?_
      refine WP.condT (by kernel_rfl) ?_
      refine WP.reg (by kernel_rfl) ?_
      refine U.seg 1 [3, 4, 5, 6, 25] [(0, .ld 2)] (fun K => (b24 = b24) ∧ (K [(3, Value.pointer (some ⟨b23, 0, none⟩)), (4, Value.pointer (some ⟨b24, 0, none⟩)), (5, Value.pointer (some ⟨b25, 0, none⟩)), (6, Value.pointer (some ⟨b26, 0, none⟩)), (25, Value.agg #[Value.int .i64 x9, Value.int .i64 x10, Value.int .i64 x11, Value.int .i64 x12, Value.int .i64 x13, Value.int .i64 x14, Value.int .i64 x15, Value.int .i64 x16])] ((4, Ent.blk b26 37 [Value.slice none 0 0]) :: (3, Ent.blk b25 31 [Value.int .i64 x17, Value.int .i64 x18, Value.int .i64 x19, Value.int .i64 x20]) :: (2, Ent.blk b24 29 [Value.int .i64 x9, Value.int .i64 x10, Value.int .i64 x11, Value.int .i64 x12, Value.int .i64 x13, Value.int .i64 x14, Value.int .i64 x15, Value.int .i64 x16]) :: (1, Ent.blk b23 25 [Value.slice a2 (List.length x1) c3, Value.slice a6 (List.length x5) c7]) :: fr))) (fun K => by kernel_rfl) 1 (by kernel_rfl) ?_
      refine ⟨rfl, ?_⟩
      obtain ⟨x31, h32, H⟩ := bnd_some H
      refine U.step 2 (by kernel_rfl) (U.call (dst := some 26) (fun w hw => c_f30 kk x9 x10 x11 x12 x13 x14 x15 x16 h32 hw) (by kernel_rfl) (enters_of Try.func30 (by kernel_rfl) rfl)) ?_
      rintro _ _
      refine U.seg 1 [3, 4, 5, 6, 8] [] (fun K => K [(3, Value.pointer (some ⟨b23, 0, none⟩)), (4, Value.pointer (some ⟨b24, 0, none⟩)), (5, Value.pointer (some ⟨b25, 0, none⟩)), (6, Value.pointer (some ⟨b26, 0, none⟩)), (8, Value.int .i64 x31)] ((4, Ent.blk b26 37 [Value.slice none 0 0]) :: (3, Ent.blk b25 31 [Value.int .i64 x17, Value.int .i64 x18, Value.int .i64 x19, Value.int .i64 x20]) :: (2, Ent.blk b24 29 [Value.int .i64 x9, Value.int .i64 x10, Value.int .i64 x11, Value.int .i64 x12, Value.int .i64 x13, Value.int .i64 x14, Value.int .i64 x15, Value.int .i64 x16]) :: (1, Ent.blk b23 25 [Value.slice a2 (List.length x1) c3, Value.slice a6 (List.length x5) c7]) :: fr)) (fun K => by kernel_rfl) 3 (by kernel_rfl) ?_
      refine WO.done (by kernel_rfl) ?_
      refine PO.jn ⟨x31, H, rfl⟩ ?_
      exact (St.ok.to [3, 4, 5, 6, 8] 4 [(1, 3), (2, 2), (3, 1), (4, 0)] (by kernel_rfl) rfl (by kernel_rfl) rfl rfl (by kernel_rfl))
    · refine U.asW (t := 24) (congrArg Value.bool h30) (by kernel_rfl) ?_
      refine WP.condF (by kernel_rfl) ?_
      refine WP.skip (by kernel_rfl) ?_
      refine PO.jn ⟨x28, H, rfl⟩ ?_
      exact (St.ok.to [3, 4, 5, 6, 8] 4 [(1, 3), (2, 2), (3, 1), (4, 0)] (by kernel_rfl) rfl (by kernel_rfl) rfl rfl (by kernel_rfl))
  · rintro _ ⟨x33, H, rfl⟩
    unfold f8_j1 at H
    refine PO.nx ?_
    refine WP.seq (by kernel_rfl) ?_
    refine WP.reg (by kernel_rfl) ?_
    refine U.seg 11 [3, 4, 5, 6, 8, 9] [(1, .ld 3), (3, .ld 3), (5, .ld 3), (7, .ld 3), (9, .al 5), (10, .st 5)] (fun K => (b25 = b25) ∧ ((b25 = b25) ∧ ((b25 = b25) ∧ ((b25 = b25) ∧ (∀ b35 : Nat, (b35 = b35) ∧ (K [(3, Value.pointer (some ⟨b23, 0, none⟩)), (4, Value.pointer (some ⟨b24, 0, none⟩)), (5, Value.pointer (some ⟨b25, 0, none⟩)), (6, Value.pointer (some ⟨b26, 0, none⟩)), (8, Value.int .i64 x33), (9, Value.pointer (some ⟨b35, 0, none⟩))] ((5, Ent.blk b35 90 [Value.int .i64 0, Value.int .i64 x17, Value.int .i64 x18, Value.int .i64 0, Value.int .i64 x19, Value.int .i64 x20]) :: (1, Ent.blk b23 25 [Value.slice a2 (List.length x1) c3, Value.slice a6 (List.length x5) c7]) :: (2, Ent.blk b24 29 [Value.int .i64 x9, Value.int .i64 x10, Value.int .i64 x11, Value.int .i64 x12, Value.int .i64 x13, Value.int .i64 x14, Value.int .i64 x15, Value.int .i64 x16]) :: (3, Ent.blk b25 31 [Value.int .i64 x17, Value.int .i64 x18, Value.int .i64 x19, Value.int .i64 x20]) :: (4, Ent.blk b26 37 [Value.slice none 0 0]) :: fr))))))) (fun K => by kernel_rfl) 11 (by kernel_rfl) ?_
    refine ⟨rfl, ?_⟩
    refine ⟨rfl, ?_⟩
    refine ⟨rfl, ?_⟩
    refine ⟨rfl, ?_⟩
    intro b35
    refine ⟨rfl, ?_⟩
    refine WO.done (by kernel_rfl) ?_
    refine PO.nx ?_
    refine WP.seq (by kernel_rfl) ?_
    refine WP.seq (by kernel_rfl) ?_
    refine WP.join (fun s => ∃ (x39 : Bool), f8_j2 kk x39 x9 x13 x18 x12 x11 x10 x1 x17 x19 x20 x14 x15 x33 = some r ∧ s = { n := 183, e := [(3, Value.pointer (some ⟨b23, 0, none⟩)), (4, Value.pointer (some ⟨b24, 0, none⟩)), (5, Value.pointer (some ⟨b25, 0, none⟩)), (6, Value.pointer (some ⟨b26, 0, none⟩)), (8, Value.int .i64 x33), (9, Value.pointer (some ⟨b35, 0, none⟩)), (42, Value.bool x39)], d := [], g := g, h := ((1, Ent.blk b23 25 [Value.slice a2 (List.length x1) c3, Value.slice a6 (List.length x5) c7]) :: (2, Ent.blk b24 29 [Value.int .i64 x9, Value.int .i64 x10, Value.int .i64 x11, Value.int .i64 x12, Value.int .i64 x13, Value.int .i64 x14, Value.int .i64 x15, Value.int .i64 x16]) :: (3, Ent.blk b25 31 [Value.int .i64 x17, Value.int .i64 x18, Value.int .i64 x19, Value.int .i64 x20]) :: (4, Ent.blk b26 37 [Value.slice none 0 0]) :: (5, Ent.blk b35 90 [Value.int .i64 0, Value.int .i64 x17, Value.int .i64 x18, Value.int .i64 0, Value.int .i64 x19, Value.int .i64 x20]) :: fr) }) ?_ ?_
    · refine WP.reg (by kernel_rfl) ?_
      refine U.seg 3 [3, 4, 5, 6, 8, 9, 38] [] (fun K => K [(3, Value.pointer (some ⟨b23, 0, none⟩)), (4, Value.pointer (some ⟨b24, 0, none⟩)), (5, Value.pointer (some ⟨b25, 0, none⟩)), (6, Value.pointer (some ⟨b26, 0, none⟩)), (8, Value.int .i64 x33), (9, Value.pointer (some ⟨b35, 0, none⟩)), (38, Value.bool (x33 == 0))] ((5, Ent.blk b35 90 [Value.int .i64 0, Value.int .i64 x17, Value.int .i64 x18, Value.int .i64 0, Value.int .i64 x19, Value.int .i64 x20]) :: (1, Ent.blk b23 25 [Value.slice a2 (List.length x1) c3, Value.slice a6 (List.length x5) c7]) :: (2, Ent.blk b24 29 [Value.int .i64 x9, Value.int .i64 x10, Value.int .i64 x11, Value.int .i64 x12, Value.int .i64 x13, Value.int .i64 x14, Value.int .i64 x15, Value.int .i64 x16]) :: (3, Ent.blk b25 31 [Value.int .i64 x17, Value.int .i64 x18, Value.int .i64 x19, Value.int .i64 x20]) :: (4, Ent.blk b26 37 [Value.slice none 0 0]) :: fr)) (fun K => by kernel_rfl) 3 (by kernel_rfl) ?_
      rcases cond_some H with ⟨h36, H⟩ | ⟨h36, H⟩
      · refine U.as (t := 38) (congrArg Value.bool h36) (by kernel_rfl) ?_
        refine U.seg 1 [3, 4, 5, 6, 8, 9, 38, 39] [(3, .ld 5)] (fun K => (b35 = b35) ∧ (K [(3, Value.pointer (some ⟨b23, 0, none⟩)), (4, Value.pointer (some ⟨b24, 0, none⟩)), (5, Value.pointer (some ⟨b25, 0, none⟩)), (6, Value.pointer (some ⟨b26, 0, none⟩)), (8, Value.int .i64 x33), (9, Value.pointer (some ⟨b35, 0, none⟩)), (38, Value.bool true), (39, Value.agg #[Value.int .i64 0, Value.int .i64 x17, Value.int .i64 x18, Value.int .i64 0, Value.int .i64 x19, Value.int .i64 x20])] ((5, Ent.blk b35 90 [Value.int .i64 0, Value.int .i64 x17, Value.int .i64 x18, Value.int .i64 0, Value.int .i64 x19, Value.int .i64 x20]) :: (1, Ent.blk b23 25 [Value.slice a2 (List.length x1) c3, Value.slice a6 (List.length x5) c7]) :: (2, Ent.blk b24 29 [Value.int .i64 x9, Value.int .i64 x10, Value.int .i64 x11, Value.int .i64 x12, Value.int .i64 x13, Value.int .i64 x14, Value.int .i64 x15, Value.int .i64 x16]) :: (3, Ent.blk b25 31 [Value.int .i64 x17, Value.int .i64 x18, Value.int .i64 x19, Value.int .i64 x20]) :: (4, Ent.blk b26 37 [Value.slice none 0 0]) :: fr))) (fun K => by kernel_rfl) 4 (by kernel_rfl) ?_
        refine ⟨rfl, ?_⟩
        obtain ⟨x37, h38, H⟩ := bnd_some H
        refine U.step 5 (by kernel_rfl) (U.call (dst := some 40) (fun w hw => c_f31 kk 0 x17 x18 0 x19 x20 h38 hw) (by kernel_rfl) (enters_of Try.func31 (by kernel_rfl) rfl)) ?_
        rintro _ _
        refine U.seg 2 [3, 4, 5, 6, 8, 9, 42] [] (fun K => K [(3, Value.pointer (some ⟨b23, 0, none⟩)), (4, Value.pointer (some ⟨b24, 0, none⟩)), (5, Value.pointer (some ⟨b25, 0, none⟩)), (6, Value.pointer (some ⟨b26, 0, none⟩)), (8, Value.int .i64 x33), (9, Value.pointer (some ⟨b35, 0, none⟩)), (42, Value.bool (!x37))] ((5, Ent.blk b35 90 [Value.int .i64 0, Value.int .i64 x17, Value.int .i64 x18, Value.int .i64 0, Value.int .i64 x19, Value.int .i64 x20]) :: (1, Ent.blk b23 25 [Value.slice a2 (List.length x1) c3, Value.slice a6 (List.length x5) c7]) :: (2, Ent.blk b24 29 [Value.int .i64 x9, Value.int .i64 x10, Value.int .i64 x11, Value.int .i64 x12, Value.int .i64 x13, Value.int .i64 x14, Value.int .i64 x15, Value.int .i64 x16]) :: (3, Ent.blk b25 31 [Value.int .i64 x17, Value.int .i64 x18, Value.int .i64 x19, Value.int .i64 x20]) :: (4, Ent.blk b26 37 [Value.slice none 0 0]) :: fr)) (fun K => by kernel_rfl) 7 (by kernel_rfl) ?_
        refine WO.done (by kernel_rfl) ?_
        refine PO.jn ⟨(!x37), H, rfl⟩ ?_
        exact (St.ok.to [3, 4, 5, 6, 8, 9, 42] 5 [(1, 1), (2, 2), (3, 3), (4, 4), (5, 0)] (by kernel_rfl) rfl (by kernel_rfl) rfl rfl (by kernel_rfl))
      · refine U.as (t := 38) (congrArg Value.bool h36) (by kernel_rfl) ?_
        refine U.seg 4 [3, 4, 5, 6, 8, 9, 42] [] (fun K => K [(3, Value.pointer (some ⟨b23, 0, none⟩)), (4, Value.pointer (some ⟨b24, 0, none⟩)), (5, Value.pointer (some ⟨b25, 0, none⟩)), (6, Value.pointer (some ⟨b26, 0, none⟩)), (8, Value.int .i64 x33), (9, Value.pointer (some ⟨b35, 0, none⟩)), (42, Value.bool false)] ((5, Ent.blk b35 90 [Value.int .i64 0, Value.int .i64 x17, Value.int .i64 x18, Value.int .i64 0, Value.int .i64 x19, Value.int .i64 x20]) :: (1, Ent.blk b23 25 [Value.slice a2 (List.length x1) c3, Value.slice a6 (List.length x5) c7]) :: (2, Ent.blk b24 29 [Value.int .i64 x9, Value.int .i64 x10, Value.int .i64 x11, Value.int .i64 x12, Value.int .i64 x13, Value.int .i64 x14, Value.int .i64 x15, Value.int .i64 x16]) :: (3, Ent.blk b25 31 [Value.int .i64 x17, Value.int .i64 x18, Value.int .i64 x19, Value.int .i64 x20]) :: (4, Ent.blk b26 37 [Value.slice none 0 0]) :: fr)) (fun K => by kernel_rfl) 7 (by kernel_rfl) ?_
        refine WO.done (by kernel_rfl) ?_
        refine PO.jn ⟨false, H, rfl⟩ ?_
        exact (St.ok.to [3, 4, 5, 6, 8, 9, 42] 5 [(1, 1), (2, 2), (3, 3), (4, 4), (5, 0)] (by kernel_rfl) rfl (by kernel_rfl) rfl rfl (by kernel_rfl))
    · rintro _ ⟨x39, H, rfl⟩
      unfold f8_j2 at H
      refine PO.nx ?_
      refine WP.join (fun s => ∃ (x42 : Int), f8_j3 kk x42 x9 x13 x18 x12 x11 x10 x1 x17 x19 x20 x14 x15 = some r ∧ s = { n := 183, e := [(3, Value.pointer (some ⟨b23, 0, none⟩)), (4, Value.pointer (some ⟨b24, 0, none⟩)), (5, Value.pointer (some ⟨b25, 0, none⟩)), (6, Value.pointer (some ⟨b26, 0, none⟩)), (8, Value.int .i64 x42), (9, Value.pointer (some ⟨b35, 0, none⟩))], d := [], g := g, h := ((1, Ent.blk b23 25 [Value.slice a2 (List.length x1) c3, Value.slice a6 (List.length x5) c7]) :: (2, Ent.blk b24 29 [Value.int .i64 x9, Value.int .i64 x10, Value.int .i64 x11, Value.int .i64 x12, Value.int .i64 x13, Value.int .i64 x14, Value.int .i64 x15, Value.int .i64 x16]) :: (3, Ent.blk b25 31 [Value.int .i64 x17, Value.int .i64 x18, Value.int .i64 x19, Value.int .i64 x20]) :: (4, Ent.blk b26 37 [Value.slice none 0 0]) :: (5, Ent.blk b35 90 [Value.int .i64 0, Value.int .i64 x17, Value.int .i64 x18, Value.int .i64 0, Value.int .i64 x19, Value.int .i64 x20]) :: fr) }) ?_ ?_
      · rcases cond_some H with ⟨h41, H⟩ | ⟨h41, H⟩
        · refine U.asW (t := 42) (congrArg Value.bool h41) (by kernel_rfl) ?_
          refine WP.condT (by kernel_rfl) ?_
          refine WP.reg (by kernel_rfl) ?_
          refine U.seg 1 [3, 4, 5, 6, 8, 9] [] (fun K => K [(3, Value.pointer (some ⟨b23, 0, none⟩)), (4, Value.pointer (some ⟨b24, 0, none⟩)), (5, Value.pointer (some ⟨b25, 0, none⟩)), (6, Value.pointer (some ⟨b26, 0, none⟩)), (8, Value.int .i64 1), (9, Value.pointer (some ⟨b35, 0, none⟩))] ((1, Ent.blk b23 25 [Value.slice a2 (List.length x1) c3, Value.slice a6 (List.length x5) c7]) :: (2, Ent.blk b24 29 [Value.int .i64 x9, Value.int .i64 x10, Value.int .i64 x11, Value.int .i64 x12, Value.int .i64 x13, Value.int .i64 x14, Value.int .i64 x15, Value.int .i64 x16]) :: (3, Ent.blk b25 31 [Value.int .i64 x17, Value.int .i64 x18, Value.int .i64 x19, Value.int .i64 x20]) :: (4, Ent.blk b26 37 [Value.slice none 0 0]) :: (5, Ent.blk b35 90 [Value.int .i64 0, Value.int .i64 x17, Value.int .i64 x18, Value.int .i64 0, Value.int .i64 x19, Value.int .i64 x20]) :: fr)) (fun K => by kernel_rfl) 1 (by kernel_rfl) ?_
          refine WO.done (by kernel_rfl) ?_
          refine PO.jn ⟨1, H, rfl⟩ ?_
          exact (St.ok.to [3, 4, 5, 6, 8, 9] 5 [(1, 0), (2, 1), (3, 2), (4, 3), (5, 4)] (by kernel_rfl) rfl (by kernel_rfl) rfl rfl (by kernel_rfl))
        · refine U.asW (t := 42) (congrArg Value.bool h41) (by kernel_rfl) ?_
          refine WP.condF (by kernel_rfl) ?_
          refine WP.skip (by kernel_rfl) ?_
          refine PO.jn ⟨x33, H, rfl⟩ ?_
          exact (St.ok.to [3, 4, 5, 6, 8, 9] 5 [(1, 0), (2, 1), (3, 2), (4, 3), (5, 4)] (by kernel_rfl) rfl (by kernel_rfl) rfl rfl (by kernel_rfl))
      · rintro _ ⟨x42, H, rfl⟩
        unfold f8_j3 at H
        refine PO.nx ?_
        refine WP.seq (by kernel_rfl) ?_
        refine WP.seq (by kernel_rfl) ?_
        refine WP.reg (by kernel_rfl) ?_
        refine U.seg 2 [3, 4, 5, 6, 8, 9, 44] [] (fun K => K [(3, Value.pointer (some ⟨b23, 0, none⟩)), (4, Value.pointer (some ⟨b24, 0, none⟩)), (5, Value.pointer (some ⟨b25, 0, none⟩)), (6, Value.pointer (some ⟨b26, 0, none⟩)), (8, Value.int .i64 x42), (9, Value.pointer (some ⟨b35, 0, none⟩)), (44, Value.bool (x42 != 0))] ((1, Ent.blk b23 25 [Value.slice a2 (List.length x1) c3, Value.slice a6 (List.length x5) c7]) :: (2, Ent.blk b24 29 [Value.int .i64 x9, Value.int .i64 x10, Value.int .i64 x11, Value.int .i64 x12, Value.int .i64 x13, Value.int .i64 x14, Value.int .i64 x15, Value.int .i64 x16]) :: (3, Ent.blk b25 31 [Value.int .i64 x17, Value.int .i64 x18, Value.int .i64 x19, Value.int .i64 x20]) :: (4, Ent.blk b26 37 [Value.slice none 0 0]) :: (5, Ent.blk b35 90 [Value.int .i64 0, Value.int .i64 x17, Value.int .i64 x18, Value.int .i64 0, Value.int .i64 x19, Value.int .i64 x20]) :: fr)) (fun K => by kernel_rfl) 2 (by kernel_rfl) ?_
        refine WO.done (by kernel_rfl) ?_
        refine PO.nx ?_
        rcases cond_some H with ⟨h44, H⟩ | ⟨h44, H⟩
        · refine U.asW (t := 44) (congrArg Value.bool h44) (by kernel_rfl) ?_
          refine WP.condT (by kernel_rfl) ?_
          refine WP.seq (by kernel_rfl) ?_
          refine WP.reg (by kernel_rfl) ?_
          refine U.seg 4 [6, 7] [(2, .st 4)] (fun K => (b26 = b26) ∧ (K [(6, Value.pointer (some ⟨b26, 0, none⟩)), (7, Value.int .i64 x42)] ((1, Ent.blk b23 25 [Value.slice a2 (List.length x1) c3, Value.slice a6 (List.length x5) c7]) :: (2, Ent.blk b24 29 [Value.int .i64 x9, Value.int .i64 x10, Value.int .i64 x11, Value.int .i64 x12, Value.int .i64 x13, Value.int .i64 x14, Value.int .i64 x15, Value.int .i64 x16]) :: (3, Ent.blk b25 31 [Value.int .i64 x17, Value.int .i64 x18, Value.int .i64 x19, Value.int .i64 x20]) :: (4, Ent.blk b26 37 [Value.slice none 0 0]) :: (5, Ent.blk b35 90 [Value.int .i64 0, Value.int .i64 x17, Value.int .i64 x18, Value.int .i64 0, Value.int .i64 x19, Value.int .i64 x20]) :: fr))) (fun K => by kernel_rfl) 4 (by kernel_rfl) ?_
          refine ⟨rfl, ?_⟩
          refine WO.done (by kernel_rfl) ?_
          refine PO.nx ?_
          refine WP.ret (by kernel_rfl) ?_
          refine PO.nx_ret ?_
          have hr := Option.some.inj H
          subst hr
          refine PO.body [Value.agg #[Value.slice none 0 0], Value.int .i64 x42] ((1, Ent.blk b23 25 [Value.slice a2 (List.length x1) c3, Value.slice a6 (List.length x5) c7]) :: (2, Ent.blk b24 29 [Value.int .i64 x9, Value.int .i64 x10, Value.int .i64 x11, Value.int .i64 x12, Value.int .i64 x13, Value.int .i64 x14, Value.int .i64 x15, Value.int .i64 x16]) :: (3, Ent.blk b25 31 [Value.int .i64 x17, Value.int .i64 x18, Value.int .i64 x19, Value.int .i64 x20]) :: (4, Ent.blk b26 37 [Value.slice none 0 0]) :: (5, Ent.blk b35 90 [Value.int .i64 0, Value.int .i64 x17, Value.int .i64 x18, Value.int .i64 0, Value.int .i64 x19, Value.int .i64 x20]) :: fr) rfl (Res.cell b26 0 4 (Ent.blk b26 37 [Value.slice none 0 0]) [Value.slice none 0 0] true 1 (by kernel_rfl) (by kernel_rfl) (by kernel_rfl) (by kernel_rfl) (by kernel_rfl) (OwnRead.agg rfl rfl) (Res.tmp (by kernel_rfl) Res.nil)) ?_
          exact fun w hw => Ret.mk (g, none, 0) ⟨(GH.le_refl _), Sl.nil'⟩ rfl (okNT 5 [] (by kernel_rfl) rfl hw)
        · refine U.asW (t := 44) (congrArg Value.bool h44) (by kernel_rfl) ?_
          refine WP.condF (by kernel_rfl) ?_
          refine WP.skip (by kernel_rfl) ?_
          refine PO.nx ?_
          refine WP.seq (by kernel_rfl) ?_
          refine U.draw [] g [(1, Ent.blk b23 25 [Value.slice a2 (List.length x1) c3, Value.slice a6 (List.length x5) c7]), (2, Ent.blk b24 29 [Value.int .i64 x9, Value.int .i64 x10, Value.int .i64 x11, Value.int .i64 x12, Value.int .i64 x13, Value.int .i64 x14, Value.int .i64 x15, Value.int .i64 x16]), (3, Ent.blk b25 31 [Value.int .i64 x17, Value.int .i64 x18, Value.int .i64 x19, Value.int .i64 x20]), (4, Ent.blk b26 37 [Value.slice none 0 0]), (5, Ent.blk b35 90 [Value.int .i64 0, Value.int .i64 x17, Value.int .i64 x18, Value.int .i64 0, Value.int .i64 x19, Value.int .i64 x20])] (by kernel_rfl) (by kernel_rfl) 10 (by kernel_rfl) (fun w hw => Ok.pickTo [(1, 0), (2, 1), (3, 2), (4, 3), (5, 4)] (by kernel_rfl) (by kernel_rfl) (GH.le_refl _) hw) ?_
          obtain ⟨h47, H⟩ := grd_some H
          refine U.take 0 [0, 1, 2, 3, 4, 5, 6, 7, 8, 9] [3, 4, 5, 6, 9, 10] [9, 8, 7, 6, 5, 4, 3, 2, 1, 0] [(2, .ld 2), (4, .ld 3), (6, .ld 2), (7, .s)] (fun K => (b24 = b24) ∧ ((b25 = b25) ∧ ((b24 = b24) ∧ ((x9 ≠ (0 : Int)) ∧ (K [(3, Value.pointer (some ⟨b23, 0, none⟩)), (4, Value.pointer (some ⟨b24, 0, none⟩)), (5, Value.pointer (some ⟨b25, 0, none⟩)), (6, Value.pointer (some ⟨b26, 0, none⟩)), (9, Value.pointer (some ⟨b35, 0, none⟩)), (10, Value.int .i64 (imin x13 (w64 (Int.tdiv x18 x9))))]))))) (fun K => by kernel_rfl) (by kernel_rfl) (by kernel_rfl) (by kernel_rfl) ?_
          refine ⟨rfl, ?_⟩
          refine ⟨rfl, ?_⟩
          refine ⟨rfl, ?_⟩
          refine ⟨h47, ?_⟩
          refine WD.done (by kernel_rfl) ?_
          refine PO.nx ?_
          refine WP.seq (by kernel_rfl) ?_
          refine WP.reg (by kernel_rfl) ?_
          refine U.seg 10 [3, 4, 5, 6, 9, 10, 11] [(1, .ld 3), (3, .ld 2), (5, .ld 3)] (fun K => (b25 = b25) ∧ ((b24 = b24) ∧ ((b25 = b25) ∧ (K [(3, Value.pointer (some ⟨b23, 0, none⟩)), (4, Value.pointer (some ⟨b24, 0, none⟩)), (5, Value.pointer (some ⟨b25, 0, none⟩)), (6, Value.pointer (some ⟨b26, 0, none⟩)), (9, Value.pointer (some ⟨b35, 0, none⟩)), (10, Value.int .i64 (imin x13 (w64 (Int.tdiv x18 x9)))), (11, Value.int .i64 (w64 (x17 - (imax x14 (w64 (2 * x19))))))] ((1, Ent.blk b23 25 [Value.slice a2 (List.length x1) c3, Value.slice a6 (List.length x5) c7]) :: (2, Ent.blk b24 29 [Value.int .i64 x9, Value.int .i64 x10, Value.int .i64 x11, Value.int .i64 x12, Value.int .i64 x13, Value.int .i64 x14, Value.int .i64 x15, Value.int .i64 x16]) :: (3, Ent.blk b25 31 [Value.int .i64 x17, Value.int .i64 x18, Value.int .i64 x19, Value.int .i64 x20]) :: (4, Ent.blk b26 37 [Value.slice none 0 0]) :: (5, Ent.blk b35 90 [Value.int .i64 0, Value.int .i64 x17, Value.int .i64 x18, Value.int .i64 0, Value.int .i64 x19, Value.int .i64 x20]) :: fr))))) (fun K => by kernel_rfl) 10 (by kernel_rfl) ?_
          refine ⟨rfl, ?_⟩
          refine ⟨rfl, ?_⟩
          refine ⟨rfl, ?_⟩
          refine WO.done (by kernel_rfl) ?_
          refine PO.nx ?_
          refine WP.seq (by kernel_rfl) ?_
          refine WP.reg (by kernel_rfl) ?_
          refine U.seg 3 [3, 4, 5, 6, 9, 10, 11, 12] [(1, .s)] (fun K => (2 ≠ (0 : Int)) ∧ (K [(3, Value.pointer (some ⟨b23, 0, none⟩)), (4, Value.pointer (some ⟨b24, 0, none⟩)), (5, Value.pointer (some ⟨b25, 0, none⟩)), (6, Value.pointer (some ⟨b26, 0, none⟩)), (9, Value.pointer (some ⟨b35, 0, none⟩)), (10, Value.int .i64 (imin x13 (w64 (Int.tdiv x18 x9)))), (11, Value.int .i64 (w64 (x17 - (imax x14 (w64 (2 * x19)))))), (12, Value.int .i64 (w64 (Int.tdiv (w64 (x17 - (imax x14 (w64 (2 * x19))))) 2)))] ((1, Ent.blk b23 25 [Value.slice a2 (List.length x1) c3, Value.slice a6 (List.length x5) c7]) :: (2, Ent.blk b24 29 [Value.int .i64 x9, Value.int .i64 x10, Value.int .i64 x11, Value.int .i64 x12, Value.int .i64 x13, Value.int .i64 x14, Value.int .i64 x15, Value.int .i64 x16]) :: (3, Ent.blk b25 31 [Value.int .i64 x17, Value.int .i64 x18, Value.int .i64 x19, Value.int .i64 x20]) :: (4, Ent.blk b26 37 [Value.slice none 0 0]) :: (5, Ent.blk b35 90 [Value.int .i64 0, Value.int .i64 x17, Value.int .i64 x18, Value.int .i64 0, Value.int .i64 x19, Value.int .i64 x20]) :: fr))) (fun K => by kernel_rfl) 3 (by kernel_rfl) ?_
          refine ⟨(by decide), ?_⟩
          refine WO.done (by kernel_rfl) ?_
          refine PO.nx ?_
          refine WP.seq (by kernel_rfl) ?_
          refine WP.seq (by kernel_rfl) ?_
          refine WP.join (fun s => ∃ (x50 : Bool), f8_j4 kk x50 x11 x9 x13 x18 x10 x1 x17 x19 x20 x14 = some r ∧ s = { n := 183, e := [(3, Value.pointer (some ⟨b23, 0, none⟩)), (4, Value.pointer (some ⟨b24, 0, none⟩)), (5, Value.pointer (some ⟨b25, 0, none⟩)), (6, Value.pointer (some ⟨b26, 0, none⟩)), (9, Value.pointer (some ⟨b35, 0, none⟩)), (10, Value.int .i64 (imin x13 (w64 (Int.tdiv x18 x9)))), (11, Value.int .i64 (w64 (x17 - (imax x14 (w64 (2 * x19)))))), (12, Value.int .i64 (w64 (Int.tdiv (w64 (x17 - (imax x14 (w64 (2 * x19))))) 2))), (81, Value.bool x50)], d := [], g := g, h := ((1, Ent.blk b23 25 [Value.slice a2 (List.length x1) c3, Value.slice a6 (List.length x5) c7]) :: (2, Ent.blk b24 29 [Value.int .i64 x9, Value.int .i64 x10, Value.int .i64 x11, Value.int .i64 x12, Value.int .i64 x13, Value.int .i64 x14, Value.int .i64 x15, Value.int .i64 x16]) :: (3, Ent.blk b25 31 [Value.int .i64 x17, Value.int .i64 x18, Value.int .i64 x19, Value.int .i64 x20]) :: (4, Ent.blk b26 37 [Value.slice none 0 0]) :: (5, Ent.blk b35 90 [Value.int .i64 0, Value.int .i64 x17, Value.int .i64 x18, Value.int .i64 0, Value.int .i64 x19, Value.int .i64 x20]) :: fr) }) ?_ ?_
          · refine WP.reg (by kernel_rfl) ?_
            refine U.seg 6 [3, 4, 5, 6, 9, 10, 11, 12, 72] [(3, .ld 2)] (fun K => (b24 = b24) ∧ (K [(3, Value.pointer (some ⟨b23, 0, none⟩)), (4, Value.pointer (some ⟨b24, 0, none⟩)), (5, Value.pointer (some ⟨b25, 0, none⟩)), (6, Value.pointer (some ⟨b26, 0, none⟩)), (9, Value.pointer (some ⟨b35, 0, none⟩)), (10, Value.int .i64 (imin x13 (w64 (Int.tdiv x18 x9)))), (11, Value.int .i64 (w64 (x17 - (imax x14 (w64 (2 * x19)))))), (12, Value.int .i64 (w64 (Int.tdiv (w64 (x17 - (imax x14 (w64 (2 * x19))))) 2))), (72, Value.bool (decide ((imin x13 (w64 (Int.tdiv x18 x9))) < x12)))] ((1, Ent.blk b23 25 [Value.slice a2 (List.length x1) c3, Value.slice a6 (List.length x5) c7]) :: (2, Ent.blk b24 29 [Value.int .i64 x9, Value.int .i64 x10, Value.int .i64 x11, Value.int .i64 x12, Value.int .i64 x13, Value.int .i64 x14, Value.int .i64 x15, Value.int .i64 x16]) :: (3, Ent.blk b25 31 [Value.int .i64 x17, Value.int .i64 x18, Value.int .i64 x19, Value.int .i64 x20]) :: (4, Ent.blk b26 37 [Value.slice none 0 0]) :: (5, Ent.blk b35 90 [Value.int .i64 0, Value.int .i64 x17, Value.int .i64 x18, Value.int .i64 0, Value.int .i64 x19, Value.int .i64 x20]) :: fr))) (fun K => by kernel_rfl) 6 (by kernel_rfl) ?_
            refine ⟨rfl, ?_⟩
            rcases cond_some H with ⟨h48, H⟩ | ⟨h48, H⟩
            · refine U.as (t := 72) (congrArg Value.bool h48) (by kernel_rfl) ?_
              refine U.seg 9 [3, 4, 5, 6, 9, 10, 11, 12, 81] [] (fun K => K [(3, Value.pointer (some ⟨b23, 0, none⟩)), (4, Value.pointer (some ⟨b24, 0, none⟩)), (5, Value.pointer (some ⟨b25, 0, none⟩)), (6, Value.pointer (some ⟨b26, 0, none⟩)), (9, Value.pointer (some ⟨b35, 0, none⟩)), (10, Value.int .i64 (imin x13 (w64 (Int.tdiv x18 x9)))), (11, Value.int .i64 (w64 (x17 - (imax x14 (w64 (2 * x19)))))), (12, Value.int .i64 (w64 (Int.tdiv (w64 (x17 - (imax x14 (w64 (2 * x19))))) 2))), (81, Value.bool true)] ((1, Ent.blk b23 25 [Value.slice a2 (List.length x1) c3, Value.slice a6 (List.length x5) c7]) :: (2, Ent.blk b24 29 [Value.int .i64 x9, Value.int .i64 x10, Value.int .i64 x11, Value.int .i64 x12, Value.int .i64 x13, Value.int .i64 x14, Value.int .i64 x15, Value.int .i64 x16]) :: (3, Ent.blk b25 31 [Value.int .i64 x17, Value.int .i64 x18, Value.int .i64 x19, Value.int .i64 x20]) :: (4, Ent.blk b26 37 [Value.slice none 0 0]) :: (5, Ent.blk b35 90 [Value.int .i64 0, Value.int .i64 x17, Value.int .i64 x18, Value.int .i64 0, Value.int .i64 x19, Value.int .i64 x20]) :: fr)) (fun K => by kernel_rfl) 15 (by kernel_rfl) ?_
              refine WO.done (by kernel_rfl) ?_
              refine PO.jn ⟨true, H, rfl⟩ ?_
              exact (St.ok.to [3, 4, 5, 6, 9, 10, 11, 12, 81] 5 [(1, 0), (2, 1), (3, 2), (4, 3), (5, 4)] (by kernel_rfl) rfl (by kernel_rfl) rfl rfl (by kernel_rfl))
            · refine U.as (t := 72) (congrArg Value.bool h48) (by kernel_rfl) ?_
              refine U.seg 4 [3, 4, 5, 6, 9, 10, 11, 12, 76] [] (fun K => K [(3, Value.pointer (some ⟨b23, 0, none⟩)), (4, Value.pointer (some ⟨b24, 0, none⟩)), (5, Value.pointer (some ⟨b25, 0, none⟩)), (6, Value.pointer (some ⟨b26, 0, none⟩)), (9, Value.pointer (some ⟨b35, 0, none⟩)), (10, Value.int .i64 (imin x13 (w64 (Int.tdiv x18 x9)))), (11, Value.int .i64 (w64 (x17 - (imax x14 (w64 (2 * x19)))))), (12, Value.int .i64 (w64 (Int.tdiv (w64 (x17 - (imax x14 (w64 (2 * x19))))) 2))), (76, Value.bool (decide ((w64 (x17 - (imax x14 (w64 (2 * x19))))) < 1)))] ((1, Ent.blk b23 25 [Value.slice a2 (List.length x1) c3, Value.slice a6 (List.length x5) c7]) :: (2, Ent.blk b24 29 [Value.int .i64 x9, Value.int .i64 x10, Value.int .i64 x11, Value.int .i64 x12, Value.int .i64 x13, Value.int .i64 x14, Value.int .i64 x15, Value.int .i64 x16]) :: (3, Ent.blk b25 31 [Value.int .i64 x17, Value.int .i64 x18, Value.int .i64 x19, Value.int .i64 x20]) :: (4, Ent.blk b26 37 [Value.slice none 0 0]) :: (5, Ent.blk b35 90 [Value.int .i64 0, Value.int .i64 x17, Value.int .i64 x18, Value.int .i64 0, Value.int .i64 x19, Value.int .i64 x20]) :: fr)) (fun K => by kernel_rfl) 10 (by kernel_rfl) ?_
              rcases cond_some H with ⟨h49, H⟩ | ⟨h49, H⟩
              · refine U.as (t := 76) (congrArg Value.bool h49) (by kernel_rfl) ?_
                refine U.seg 5 [3, 4, 5, 6, 9, 10, 11, 12, 81] [] (fun K => K [(3, Value.pointer (some ⟨b23, 0, none⟩)), (4, Value.pointer (some ⟨b24, 0, none⟩)), (5, Value.pointer (some ⟨b25, 0, none⟩)), (6, Value.pointer (some ⟨b26, 0, none⟩)), (9, Value.pointer (some ⟨b35, 0, none⟩)), (10, Value.int .i64 (imin x13 (w64 (Int.tdiv x18 x9)))), (11, Value.int .i64 (w64 (x17 - (imax x14 (w64 (2 * x19)))))), (12, Value.int .i64 (w64 (Int.tdiv (w64 (x17 - (imax x14 (w64 (2 * x19))))) 2))), (81, Value.bool true)] ((1, Ent.blk b23 25 [Value.slice a2 (List.length x1) c3, Value.slice a6 (List.length x5) c7]) :: (2, Ent.blk b24 29 [Value.int .i64 x9, Value.int .i64 x10, Value.int .i64 x11, Value.int .i64 x12, Value.int .i64 x13, Value.int .i64 x14, Value.int .i64 x15, Value.int .i64 x16]) :: (3, Ent.blk b25 31 [Value.int .i64 x17, Value.int .i64 x18, Value.int .i64 x19, Value.int .i64 x20]) :: (4, Ent.blk b26 37 [Value.slice none 0 0]) :: (5, Ent.blk b35 90 [Value.int .i64 0, Value.int .i64 x17, Value.int .i64 x18, Value.int .i64 0, Value.int .i64 x19, Value.int .i64 x20]) :: fr)) (fun K => by kernel_rfl) 15 (by kernel_rfl) ?_
                refine WO.done (by kernel_rfl) ?_
                refine PO.jn ⟨true, H, rfl⟩ ?_
                exact (St.ok.to [3, 4, 5, 6, 9, 10, 11, 12, 81] 5 [(1, 0), (2, 1), (3, 2), (4, 3), (5, 4)] (by kernel_rfl) rfl (by kernel_rfl) rfl rfl (by kernel_rfl))
              · refine U.as (t := 76) (congrArg Value.bool h49) (by kernel_rfl) ?_
                refine U.seg 5 [3, 4, 5, 6, 9, 10, 11, 12, 81] [(12, .ld 2)] (fun K => (b24 = b24) ∧ (K [(3, Value.pointer (some ⟨b23, 0, none⟩)), (4, Value.pointer (some ⟨b24, 0, none⟩)), (5, Value.pointer (some ⟨b25, 0, none⟩)), (6, Value.pointer (some ⟨b26, 0, none⟩)), (9, Value.pointer (some ⟨b35, 0, none⟩)), (10, Value.int .i64 (imin x13 (w64 (Int.tdiv x18 x9)))), (11, Value.int .i64 (w64 (x17 - (imax x14 (w64 (2 * x19)))))), (12, Value.int .i64 (w64 (Int.tdiv (w64 (x17 - (imax x14 (w64 (2 * x19))))) 2))), (81, Value.bool (decide ((w64 (Int.tdiv (w64 (x17 - (imax x14 (w64 (2 * x19))))) 2)) < x15)))] ((1, Ent.blk b23 25 [Value.slice a2 (List.length x1) c3, Value.slice a6 (List.length x5) c7]) :: (2, Ent.blk b24 29 [Value.int .i64 x9, Value.int .i64 x10, Value.int .i64 x11, Value.int .i64 x12, Value.int .i64 x13, Value.int .i64 x14, Value.int .i64 x15, Value.int .i64 x16]) :: (3, Ent.blk b25 31 [Value.int .i64 x17, Value.int .i64 x18, Value.int .i64 x19, Value.int .i64 x20]) :: (4, Ent.blk b26 37 [Value.slice none 0 0]) :: (5, Ent.blk b35 90 [Value.int .i64 0, Value.int .i64 x17, Value.int .i64 x18, Value.int .i64 0, Value.int .i64 x19, Value.int .i64 x20]) :: fr))) (fun K => by kernel_rfl) 15 (by kernel_rfl) ?_
                refine ⟨rfl, ?_⟩
                refine WO.done (by kernel_rfl) ?_
                refine PO.jn ⟨(decide ((w64 (Int.tdiv (w64 (x17 - (imax x14 (w64 (2 * x19))))) 2)) < x15)), H, rfl⟩ ?_
                exact (St.ok.to [3, 4, 5, 6, 9, 10, 11, 12, 81] 5 [(1, 0), (2, 1), (3, 2), (4, 3), (5, 4)] (by kernel_rfl) rfl (by kernel_rfl) rfl rfl (by kernel_rfl))
          · rintro _ ⟨x50, H, rfl⟩
            unfold f8_j4 at H
            refine PO.nx ?_
            rcases cond_some H with ⟨h52, H⟩ | ⟨h52, H⟩
            · refine U.asW (t := 81) (congrArg Value.bool h52) (by kernel_rfl) ?_
              refine WP.condT (by kernel_rfl) ?_
              refine WP.seq (by kernel_rfl) ?_
              refine WP.reg (by kernel_rfl) ?_
              refine U.seg 3 [6, 7] [(1, .st 4)] (fun K => (b26 = b26) ∧ (K [(6, Value.pointer (some ⟨b26, 0, none⟩)), (7, Value.int .i64 9)] ((1, Ent.blk b23 25 [Value.slice a2 (List.length x1) c3, Value.slice a6 (List.length x5) c7]) :: (2, Ent.blk b24 29 [Value.int .i64 x9, Value.int .i64 x10, Value.int .i64 x11, Value.int .i64 x12, Value.int .i64 x13, Value.int .i64 x14, Value.int .i64 x15, Value.int .i64 x16]) :: (3, Ent.blk b25 31 [Value.int .i64 x17, Value.int .i64 x18, Value.int .i64 x19, Value.int .i64 x20]) :: (4, Ent.blk b26 37 [Value.slice none 0 0]) :: (5, Ent.blk b35 90 [Value.int .i64 0, Value.int .i64 x17, Value.int .i64 x18, Value.int .i64 0, Value.int .i64 x19, Value.int .i64 x20]) :: fr))) (fun K => by kernel_rfl) 3 (by kernel_rfl) ?_
              refine ⟨rfl, ?_⟩
              refine WO.done (by kernel_rfl) ?_
              refine PO.nx ?_
              refine WP.ret (by kernel_rfl) ?_
              refine PO.nx_ret ?_
              have hr := Option.some.inj H
              subst hr
              refine PO.body [Value.agg #[Value.slice none 0 0], Value.int .i64 9] ((1, Ent.blk b23 25 [Value.slice a2 (List.length x1) c3, Value.slice a6 (List.length x5) c7]) :: (2, Ent.blk b24 29 [Value.int .i64 x9, Value.int .i64 x10, Value.int .i64 x11, Value.int .i64 x12, Value.int .i64 x13, Value.int .i64 x14, Value.int .i64 x15, Value.int .i64 x16]) :: (3, Ent.blk b25 31 [Value.int .i64 x17, Value.int .i64 x18, Value.int .i64 x19, Value.int .i64 x20]) :: (4, Ent.blk b26 37 [Value.slice none 0 0]) :: (5, Ent.blk b35 90 [Value.int .i64 0, Value.int .i64 x17, Value.int .i64 x18, Value.int .i64 0, Value.int .i64 x19, Value.int .i64 x20]) :: fr) rfl (Res.cell b26 0 4 (Ent.blk b26 37 [Value.slice none 0 0]) [Value.slice none 0 0] true 1 (by kernel_rfl) (by kernel_rfl) (by kernel_rfl) (by kernel_rfl) (by kernel_rfl) (OwnRead.agg rfl rfl) (Res.tmp (by kernel_rfl) Res.nil)) ?_
              exact fun w hw => Ret.mk (g, none, 0) ⟨(GH.le_refl _), Sl.nil'⟩ rfl (okNT 5 [] (by kernel_rfl) rfl hw)
            · refine U.asW (t := 81) (congrArg Value.bool h52) (by kernel_rfl) ?_
              refine WP.condF (by kernel_rfl) ?_
              refine WP.skip (by kernel_rfl) ?_
              refine PO.nx ?_
              refine WP.seq (by kernel_rfl) ?_
              refine WP.reg (by kernel_rfl) ?_
              refine U.seg 11 [3, 4, 5, 6, 9, 10, 11, 12, 13] [(2, .ld 2), (4, .ld 2)] (fun K => (b24 = b24) ∧ ((b24 = b24) ∧ (K [(3, Value.pointer (some ⟨b23, 0, none⟩)), (4, Value.pointer (some ⟨b24, 0, none⟩)), (5, Value.pointer (some ⟨b25, 0, none⟩)), (6, Value.pointer (some ⟨b26, 0, none⟩)), (9, Value.pointer (some ⟨b35, 0, none⟩)), (10, Value.int .i64 (imin x13 (w64 (Int.tdiv x18 x9)))), (11, Value.int .i64 (w64 (x17 - (imax x14 (w64 (2 * x19)))))), (12, Value.int .i64 (w64 (Int.tdiv (w64 (x17 - (imax x14 (w64 (2 * x19))))) 2))), (13, Value.int .i64 (imin x11 (w64 ((w64 (0 - (w64 (x9 - 1)))) * (imin x13 (w64 (Int.tdiv x18 x9)))))))] ((1, Ent.blk b23 25 [Value.slice a2 (List.length x1) c3, Value.slice a6 (List.length x5) c7]) :: (2, Ent.blk b24 29 [Value.int .i64 x9, Value.int .i64 x10, Value.int .i64 x11, Value.int .i64 x12, Value.int .i64 x13, Value.int .i64 x14, Value.int .i64 x15, Value.int .i64 x16]) :: (3, Ent.blk b25 31 [Value.int .i64 x17, Value.int .i64 x18, Value.int .i64 x19, Value.int .i64 x20]) :: (4, Ent.blk b26 37 [Value.slice none 0 0]) :: (5, Ent.blk b35 90 [Value.int .i64 0, Value.int .i64 x17, Value.int .i64 x18, Value.int .i64 0, Value.int .i64 x19, Value.int .i64 x20]) :: fr)))) (fun K => by kernel_rfl) 11 (by kernel_rfl) ?_
              refine ⟨rfl, ?_⟩
              refine ⟨rfl, ?_⟩
              refine WO.done (by kernel_rfl) ?_
              refine PO.nx ?_
              refine WP.seq (by kernel_rfl) ?_
              refine WP.seq (by kernel_rfl) ?_
              refine WP.reg (by kernel_rfl) ?_
              refine U.seg 5 [3, 5, 6, 9, 10, 11, 12, 13, 97] [(3, .ld 2)] (fun K => (b24 = b24) ∧ (K [(3, Value.pointer (some ⟨b23, 0, none⟩)), (5, Value.pointer (some ⟨b25, 0, none⟩)), (6, Value.pointer (some ⟨b26, 0, none⟩)), (9, Value.pointer (some ⟨b35, 0, none⟩)), (10, Value.int .i64 (imin x13 (w64 (Int.tdiv x18 x9)))), (11, Value.int .i64 (w64 (x17 - (imax x14 (w64 (2 * x19)))))), (12, Value.int .i64 (w64 (Int.tdiv (w64 (x17 - (imax x14 (w64 (2 * x19))))) 2))), (13, Value.int .i64 (imin x11 (w64 ((w64 (0 - (w64 (x9 - 1)))) * (imin x13 (w64 (Int.tdiv x18 x9))))))), (97, Value.bool (decide ((imin x11 (w64 ((w64 (0 - (w64 (x9 - 1)))) * (imin x13 (w64 (Int.tdiv x18 x9)))))) < x10)))] ((1, Ent.blk b23 25 [Value.slice a2 (List.length x1) c3, Value.slice a6 (List.length x5) c7]) :: (2, Ent.blk b24 29 [Value.int .i64 x9, Value.int .i64 x10, Value.int .i64 x11, Value.int .i64 x12, Value.int .i64 x13, Value.int .i64 x14, Value.int .i64 x15, Value.int .i64 x16]) :: (3, Ent.blk b25 31 [Value.int .i64 x17, Value.int .i64 x18, Value.int .i64 x19, Value.int .i64 x20]) :: (4, Ent.blk b26 37 [Value.slice none 0 0]) :: (5, Ent.blk b35 90 [Value.int .i64 0, Value.int .i64 x17, Value.int .i64 x18, Value.int .i64 0, Value.int .i64 x19, Value.int .i64 x20]) :: fr))) (fun K => by kernel_rfl) 5 (by kernel_rfl) ?_
              refine ⟨rfl, ?_⟩
              refine WO.done (by kernel_rfl) ?_
              refine PO.nx ?_
              rcases cond_some H with ⟨h54, H⟩ | ⟨h54, H⟩
              · refine U.asW (t := 97) (congrArg Value.bool h54) (by kernel_rfl) ?_
                refine WP.condT (by kernel_rfl) ?_
                refine WP.seq (by kernel_rfl) ?_
                refine WP.reg (by kernel_rfl) ?_
                refine U.seg 3 [6, 7] [(1, .st 4)] (fun K => (b26 = b26) ∧ (K [(6, Value.pointer (some ⟨b26, 0, none⟩)), (7, Value.int .i64 9)] ((1, Ent.blk b23 25 [Value.slice a2 (List.length x1) c3, Value.slice a6 (List.length x5) c7]) :: (2, Ent.blk b24 29 [Value.int .i64 x9, Value.int .i64 x10, Value.int .i64 x11, Value.int .i64 x12, Value.int .i64 x13, Value.int .i64 x14, Value.int .i64 x15, Value.int .i64 x16]) :: (3, Ent.blk b25 31 [Value.int .i64 x17, Value.int .i64 x18, Value.int .i64 x19, Value.int .i64 x20]) :: (4, Ent.blk b26 37 [Value.slice none 0 0]) :: (5, Ent.blk b35 90 [Value.int .i64 0, Value.int .i64 x17, Value.int .i64 x18, Value.int .i64 0, Value.int .i64 x19, Value.int .i64 x20]) :: fr))) (fun K => by kernel_rfl) 3 (by kernel_rfl) ?_
                refine ⟨rfl, ?_⟩
                refine WO.done (by kernel_rfl) ?_
                refine PO.nx ?_
                refine WP.ret (by kernel_rfl) ?_
                refine PO.nx_ret ?_
                have hr := Option.some.inj H
                subst hr
                refine PO.body [Value.agg #[Value.slice none 0 0], Value.int .i64 9] ((1, Ent.blk b23 25 [Value.slice a2 (List.length x1) c3, Value.slice a6 (List.length x5) c7]) :: (2, Ent.blk b24 29 [Value.int .i64 x9, Value.int .i64 x10, Value.int .i64 x11, Value.int .i64 x12, Value.int .i64 x13, Value.int .i64 x14, Value.int .i64 x15, Value.int .i64 x16]) :: (3, Ent.blk b25 31 [Value.int .i64 x17, Value.int .i64 x18, Value.int .i64 x19, Value.int .i64 x20]) :: (4, Ent.blk b26 37 [Value.slice none 0 0]) :: (5, Ent.blk b35 90 [Value.int .i64 0, Value.int .i64 x17, Value.int .i64 x18, Value.int .i64 0, Value.int .i64 x19, Value.int .i64 x20]) :: fr) rfl (Res.cell b26 0 4 (Ent.blk b26 37 [Value.slice none 0 0]) [Value.slice none 0 0] true 1 (by kernel_rfl) (by kernel_rfl) (by kernel_rfl) (by kernel_rfl) (by kernel_rfl) (OwnRead.agg rfl rfl) (Res.tmp (by kernel_rfl) Res.nil)) ?_
                exact fun w hw => Ret.mk (g, none, 0) ⟨(GH.le_refl _), Sl.nil'⟩ rfl (okNT 5 [] (by kernel_rfl) rfl hw)
              · refine U.asW (t := 97) (congrArg Value.bool h54) (by kernel_rfl) ?_
                refine WP.condF (by kernel_rfl) ?_
                refine WP.skip (by kernel_rfl) ?_
                refine PO.nx ?_
                refine WP.seq (by kernel_rfl) ?_
                refine WP.reg (by kernel_rfl) ?_
                refine U.seg 1 [3, 5, 6, 9, 10, 11, 12, 13, 14] [(0, .al 6)] (fun K => ∀ b56 : Nat, K [(3, Value.pointer (some ⟨b23, 0, none⟩)), (5, Value.pointer (some ⟨b25, 0, none⟩)), (6, Value.pointer (some ⟨b26, 0, none⟩)), (9, Value.pointer (some ⟨b35, 0, none⟩)), (10, Value.int .i64 (imin x13 (w64 (Int.tdiv x18 x9)))), (11, Value.int .i64 (w64 (x17 - (imax x14 (w64 (2 * x19)))))), (12, Value.int .i64 (w64 (Int.tdiv (w64 (x17 - (imax x14 (w64 (2 * x19))))) 2))), (13, Value.int .i64 (imin x11 (w64 ((w64 (0 - (w64 (x9 - 1)))) * (imin x13 (w64 (Int.tdiv x18 x9))))))), (14, Value.pointer (some ⟨b56, 0, none⟩))] ((6, Ent.blk b56 42 [Value.int .i64 0, Value.int .i64 0]) :: (1, Ent.blk b23 25 [Value.slice a2 (List.length x1) c3, Value.slice a6 (List.length x5) c7]) :: (2, Ent.blk b24 29 [Value.int .i64 x9, Value.int .i64 x10, Value.int .i64 x11, Value.int .i64 x12, Value.int .i64 x13, Value.int .i64 x14, Value.int .i64 x15, Value.int .i64 x16]) :: (3, Ent.blk b25 31 [Value.int .i64 x17, Value.int .i64 x18, Value.int .i64 x19, Value.int .i64 x20]) :: (4, Ent.blk b26 37 [Value.slice none 0 0]) :: (5, Ent.blk b35 90 [Value.int .i64 0, Value.int .i64 x17, Value.int .i64 x18, Value.int .i64 0, Value.int .i64 x19, Value.int .i64 x20]) :: fr)) (fun K => by kernel_rfl) 1 (by kernel_rfl) ?_
                intro b56
                refine WO.done (by kernel_rfl) ?_
                refine PO.nx ?_
                refine WP.seq (by kernel_rfl) ?_
                refine WP.seq (by kernel_rfl) ?_
                refine WP.reg (by kernel_rfl) ?_
                refine U.seg 4 [5, 6, 9, 10, 11, 12, 13, 14, 100, 101, 102] [(1, .ld 1)] (fun K => (b23 = b23) ∧ (K [(5, Value.pointer (some ⟨b25, 0, none⟩)), (6, Value.pointer (some ⟨b26, 0, none⟩)), (9, Value.pointer (some ⟨b35, 0, none⟩)), (10, Value.int .i64 (imin x13 (w64 (Int.tdiv x18 x9)))), (11, Value.int .i64 (w64 (x17 - (imax x14 (w64 (2 * x19)))))), (12, Value.int .i64 (w64 (Int.tdiv (w64 (x17 - (imax x14 (w64 (2 * x19))))) 2))), (13, Value.int .i64 (imin x11 (w64 ((w64 (0 - (w64 (x9 - 1)))) * (imin x13 (w64 (Int.tdiv x18 x9))))))), (14, Value.pointer (some ⟨b56, 0, none⟩)), (100, Value.slice a2 (List.length x1) c3), (101, Value.int .i64 ((List.length x1) : Int)), (102, Value.int .i64 0)] ((6, Ent.blk b56 42 [Value.int .i64 0, Value.int .i64 0]) :: (1, Ent.blk b23 25 [Value.slice a2 (List.length x1) c3, Value.slice a6 (List.length x5) c7]) :: (2, Ent.blk b24 29 [Value.int .i64 x9, Value.int .i64 x10, Value.int .i64 x11, Value.int .i64 x12, Value.int .i64 x13, Value.int .i64 x14, Value.int .i64 x15, Value.int .i64 x16]) :: (3, Ent.blk b25 31 [Value.int .i64 x17, Value.int .i64 x18, Value.int .i64 x19, Value.int .i64 x20]) :: (4, Ent.blk b26 37 [Value.slice none 0 0]) :: (5, Ent.blk b35 90 [Value.int .i64 0, Value.int .i64 x17, Value.int .i64 x18, Value.int .i64 0, Value.int .i64 x19, Value.int .i64 x20]) :: fr))) (fun K => by kernel_rfl) 4 (by kernel_rfl) ?_
                refine ⟨rfl, ?_⟩
                refine WO.done (by kernel_rfl) ?_
                refine PO.nx ?_
                refine WP.join (fun s => ∃ (x115 : Int) (x116 : Int), f8_j6 kk x116 x17 x18 x19 x20 x115 x13 x9 x14 x11 = some r ∧ s = { n := 183, e := [(5, Value.pointer (some ⟨b25, 0, none⟩)), (6, Value.pointer (some ⟨b26, 0, none⟩)), (9, Value.pointer (some ⟨b35, 0, none⟩)), (10, Value.int .i64 (imin x13 (w64 (Int.tdiv x18 x9)))), (11, Value.int .i64 (w64 (x17 - (imax x14 (w64 (2 * x19)))))), (12, Value.int .i64 (w64 (Int.tdiv (w64 (x17 - (imax x14 (w64 (2 * x19))))) 2))), (13, Value.int .i64 (imin x11 (w64 ((w64 (0 - (w64 (x9 - 1)))) * (imin x13 (w64 (Int.tdiv x18 x9))))))), (14, Value.pointer (some ⟨b56, 0, none⟩))], d := [], g := g, h := ((3, Ent.blk b25 31 [Value.int .i64 x17, Value.int .i64 x18, Value.int .i64 x19, Value.int .i64 x20]) :: (4, Ent.blk b26 37 [Value.slice none 0 0]) :: (5, Ent.blk b35 90 [Value.int .i64 0, Value.int .i64 x17, Value.int .i64 x18, Value.int .i64 0, Value.int .i64 x19, Value.int .i64 x20]) :: (6, Ent.blk b56 42 [Value.int .i64 x115, Value.int .i64 x116]) :: fr) }) ?_ ?_
                · refine WP.block (id := 0) (by kernel_rfl) ?_
                  obtain ⟨o92, h114, h95⟩ := bnd_some H
                  refine WP.loopW (by kernel_rfl) (fun n s => ∃ (x88 : Int) (x89 : Int) (x90 : Int), iter (fun y : (Int × Int × Int) => f8_l5 kk y.1 y.2.1 y.2.2 x1 x17 x18 x19 x20 x13 x9 x14 x11) n (x88, x89, x90) = some o92 ∧ s = { n := 183, e := [(5, Value.pointer (some ⟨b25, 0, none⟩)), (6, Value.pointer (some ⟨b26, 0, none⟩)), (9, Value.pointer (some ⟨b35, 0, none⟩)), (10, Value.int .i64 (imin x13 (w64 (Int.tdiv x18 x9)))), (11, Value.int .i64 (w64 (x17 - (imax x14 (w64 (2 * x19)))))), (12, Value.int .i64 (w64 (Int.tdiv (w64 (x17 - (imax x14 (w64 (2 * x19))))) 2))), (13, Value.int .i64 (imin x11 (w64 ((w64 (0 - (w64 (x9 - 1)))) * (imin x13 (w64 (Int.tdiv x18 x9))))))), (14, Value.pointer (some ⟨b56, 0, none⟩)), (100, Value.slice a2 (List.length x1) c3), (101, Value.int .i64 ((List.length x1) : Int)), (102, Value.int .i64 x88)], d := [], g := g, h := ((3, Ent.blk b25 31 [Value.int .i64 x17, Value.int .i64 x18, Value.int .i64 x19, Value.int .i64 x20]) :: (4, Ent.blk b26 37 [Value.slice none 0 0]) :: (5, Ent.blk b35 90 [Value.int .i64 0, Value.int .i64 x17, Value.int .i64 x18, Value.int .i64 0, Value.int .i64 x19, Value.int .i64 x20]) :: (6, Ent.blk b56 42 [Value.int .i64 x89, Value.int .i64 x90]) :: fr) }) (k := kk) ⟨0, 0, 0, h114, rfl⟩ (St.ok.to [5, 6, 9, 10, 11, 12, 13, 14, 100, 101, 102] 6 [(3, 3), (4, 4), (5, 5), (6, 0)] (by kernel_rfl) rfl (by kernel_rfl) rfl rfl (by kernel_rfl)) ?_
                  intro n109 s
                  rintro ⟨x88, x89, x90, h110, rfl⟩
                  obtain ⟨n96, q93, h112, h113, h94⟩ := iter_some h110
                  subst h112
                  have H : f8_l5 kk x88 x89 x90 x1 x17 x18 x19 x20 x13 x9 x14 x11 = some q93 := h113
                  unfold f8_l5 at H
                  refine WP.seq (by kernel_rfl) ?_
                  refine WP.reg (by kernel_rfl) ?_
                  refine U.seg 1 [5, 6, 9, 10, 11, 12, 13, 14, 100, 101, 102, 103] [] (fun K => K [(5, Value.pointer (some ⟨b25, 0, none⟩)), (6, Value.pointer (some ⟨b26, 0, none⟩)), (9, Value.pointer (some ⟨b35, 0, none⟩)), (10, Value.int .i64 (imin x13 (w64 (Int.tdiv x18 x9)))), (11, Value.int .i64 (w64 (x17 - (imax x14 (w64 (2 * x19)))))), (12, Value.int .i64 (w64 (Int.tdiv (w64 (x17 - (imax x14 (w64 (2 * x19))))) 2))), (13, Value.int .i64 (imin x11 (w64 ((w64 (0 - (w64 (x9 - 1)))) * (imin x13 (w64 (Int.tdiv x18 x9))))))), (14, Value.pointer (some ⟨b56, 0, none⟩)), (100, Value.slice a2 (List.length x1) c3), (101, Value.int .i64 ((List.length x1) : Int)), (102, Value.int .i64 x88), (103, Value.bool (decide (x88 < ((List.length x1) : Int))))] ((3, Ent.blk b25 31 [Value.int .i64 x17, Value.int .i64 x18, Value.int .i64 x19, Value.int .i64 x20]) :: (4, Ent.blk b26 37 [Value.slice none 0 0]) :: (5, Ent.blk b35 90 [Value.int .i64 0, Value.int .i64 x17, Value.int .i64 x18, Value.int .i64 0, Value.int .i64 x19, Value.int .i64 x20]) :: (6, Ent.blk b56 42 [Value.int .i64 x89, Value.int .i64 x90]) :: fr)) (fun K => by kernel_rfl) 1 (by kernel_rfl) ?_
                  refine WO.done (by kernel_rfl) ?_
                  refine PO.nx ?_
                  refine WP.seq (by kernel_rfl) ?_
                  rcases cond_some H with ⟨h97, H⟩ | ⟨h97, H⟩
                  · refine U.asW (t := 103) (congrArg Value.bool h97) (by kernel_rfl) ?_
                    refine WP.condT (by kernel_rfl) ?_
                    refine WP.skip (by kernel_rfl) ?_
                    refine PO.nx ?_
                    refine WP.seq (by kernel_rfl) ?_
                    refine WP.block (id := 1) (by kernel_rfl) ?_
                    refine WP.seq (by kernel_rfl) ?_
                    refine WP.reg (by kernel_rfl) ?_
                    obtain ⟨x98, h99, H⟩ := bnd_some H
                    obtain ⟨h100, s101, h102, h103⟩ := Sl.at' (d := (Kd.pair (Kd.int .i64) (Kd.int .i64))) h21 h99
                    obtain ⟨_, _, rfl, rfl, rfl⟩ := h102
                    refine U.seg 4 [5, 6, 9, 10, 11, 12, 13, 14, 16, 100, 101, 102] [(0, .s), (1, .lg (Value.agg #[Value.int .i64 x98.1, Value.int .i64 x98.2])), (2, .al 9), (3, .st 9)] (fun K => ((0 : Int) ≤ x88 ∧ x88 < ((List.length x1) : Nat) ∧ FlatA a2 (List.length x1)) ∧ ((GLoad g ⟨ab a2, ao a2 + (Int.toNat (x88)) * 2, none⟩ true 2 (Value.agg #[Value.int .i64 x98.1, Value.int .i64 x98.2])) ∧ (∀ b104 : Nat, (b104 = b104) ∧ (K [(5, Value.pointer (some ⟨b25, 0, none⟩)), (6, Value.pointer (some ⟨b26, 0, none⟩)), (9, Value.pointer (some ⟨b35, 0, none⟩)), (10, Value.int .i64 (imin x13 (w64 (Int.tdiv x18 x9)))), (11, Value.int .i64 (w64 (x17 - (imax x14 (w64 (2 * x19)))))), (12, Value.int .i64 (w64 (Int.tdiv (w64 (x17 - (imax x14 (w64 (2 * x19))))) 2))), (13, Value.int .i64 (imin x11 (w64 ((w64 (0 - (w64 (x9 - 1)))) * (imin x13 (w64 (Int.tdiv x18 x9))))))), (14, Value.pointer (some ⟨b56, 0, none⟩)), (16, Value.pointer (some ⟨b104, 0, none⟩)), (100, Value.slice a2 (List.length x1) c3), (101, Value.int .i64 ((List.length x1) : Int)), (102, Value.int .i64 x88)] ((9, Ent.blk b104 42 [Value.int .i64 x98.1, Value.int .i64 x98.2]) :: (3, Ent.blk b25 31 [Value.int .i64 x17, Value.int .i64 x18, Value.int .i64 x19, Value.int .i64 x20]) :: (4, Ent.blk b26 37 [Value.slice none 0 0]) :: (5, Ent.blk b35 90 [Value.int .i64 0, Value.int .i64 x17, Value.int .i64 x18, Value.int .i64 0, Value.int .i64 x19, Value.int .i64 x20]) :: (6, Ent.blk b56 42 [Value.int .i64 x89, Value.int .i64 x90]) :: fr))))) (fun K => by kernel_rfl) 4 (by kernel_rfl) ?_
                    refine ⟨h100, ?_⟩
                    refine ⟨(h103 _ 0 _ _ _ rfl rfl rfl (OwnRead.agg rfl rfl)), ?_⟩
                    intro b104
                    refine ⟨rfl, ?_⟩
                    refine WO.done (by kernel_rfl) ?_
                    refine PO.nx ?_
                    refine WP.reg (by kernel_rfl) ?_
                    refine U.seg 12 [5, 6, 9, 10, 11, 12, 13, 14, 100, 101, 102] [(1, .ld 6), (3, .ld 9), (6, .ld 6), (8, .ld 9), (11, .st 6)] (fun K => (b56 = b56) ∧ ((b104 = b104) ∧ ((b56 = b56) ∧ ((b104 = b104) ∧ ((b56 = b56) ∧ (K [(5, Value.pointer (some ⟨b25, 0, none⟩)), (6, Value.pointer (some ⟨b26, 0, none⟩)), (9, Value.pointer (some ⟨b35, 0, none⟩)), (10, Value.int .i64 (imin x13 (w64 (Int.tdiv x18 x9)))), (11, Value.int .i64 (w64 (x17 - (imax x14 (w64 (2 * x19)))))), (12, Value.int .i64 (w64 (Int.tdiv (w64 (x17 - (imax x14 (w64 (2 * x19))))) 2))), (13, Value.int .i64 (imin x11 (w64 ((w64 (0 - (w64 (x9 - 1)))) * (imin x13 (w64 (Int.tdiv x18 x9))))))), (14, Value.pointer (some ⟨b56, 0, none⟩)), (100, Value.slice a2 (List.length x1) c3), (101, Value.int .i64 ((List.length x1) : Int)), (102, Value.int .i64 x88)] ((9, Ent.blk b104 42 [Value.int .i64 x98.1, Value.int .i64 x98.2]) :: (3, Ent.blk b25 31 [Value.int .i64 x17, Value.int .i64 x18, Value.int .i64 x19, Value.int .i64 x20]) :: (4, Ent.blk b26 37 [Value.slice none 0 0]) :: (5, Ent.blk b35 90 [Value.int .i64 0, Value.int .i64 x17, Value.int .i64 x18, Value.int .i64 0, Value.int .i64 x19, Value.int .i64 x20]) :: (6, Ent.blk b56 42 [Value.int .i64 (imax x89 x98.1), Value.int .i64 (imax x90 x98.2)]) :: fr))))))) (fun K => by kernel_rfl) 12 (by kernel_rfl) ?_
                    refine ⟨rfl, ?_⟩
                    refine ⟨rfl, ?_⟩
                    refine ⟨rfl, ?_⟩
                    refine ⟨rfl, ?_⟩
                    refine ⟨rfl, ?_⟩
                    refine WO.done (by kernel_rfl) ?_
                    refine PO.blk_normal ?_
                    refine PO.nx ?_
                    refine WP.reg (by kernel_rfl) ?_
                    refine U.seg 2 [5, 6, 9, 10, 11, 12, 13, 14, 100, 101, 102] [] (fun K => K [(5, Value.pointer (some ⟨b25, 0, none⟩)), (6, Value.pointer (some ⟨b26, 0, none⟩)), (9, Value.pointer (some ⟨b35, 0, none⟩)), (10, Value.int .i64 (imin x13 (w64 (Int.tdiv x18 x9)))), (11, Value.int .i64 (w64 (x17 - (imax x14 (w64 (2 * x19)))))), (12, Value.int .i64 (w64 (Int.tdiv (w64 (x17 - (imax x14 (w64 (2 * x19))))) 2))), (13, Value.int .i64 (imin x11 (w64 ((w64 (0 - (w64 (x9 - 1)))) * (imin x13 (w64 (Int.tdiv x18 x9))))))), (14, Value.pointer (some ⟨b56, 0, none⟩)), (100, Value.slice a2 (List.length x1) c3), (101, Value.int .i64 ((List.length x1) : Int)), (102, Value.int .i64 (w64 (x88 + 1)))] ((9, Ent.blk b104 42 [Value.int .i64 x98.1, Value.int .i64 x98.2]) :: (3, Ent.blk b25 31 [Value.int .i64 x17, Value.int .i64 x18, Value.int .i64 x19, Value.int .i64 x20]) :: (4, Ent.blk b26 37 [Value.slice none 0 0]) :: (5, Ent.blk b35 90 [Value.int .i64 0, Value.int .i64 x17, Value.int .i64 x18, Value.int .i64 0, Value.int .i64 x19, Value.int .i64 x20]) :: (6, Ent.blk b56 42 [Value.int .i64 (imax x89 x98.1), Value.int .i64 (imax x90 x98.2)]) :: fr)) (fun K => by kernel_rfl) 2 (by kernel_rfl) ?_
                    refine WO.done (by kernel_rfl) ?_
                    have hq := Option.some.inj H
                    subst hq
                    refine PO.againW ⟨(w64 (x88 + 1)), (imax x89 x98.1), (imax x90 x98.2), h94, rfl⟩ ?_ (Nat.lt_succ_self _)
                    exact (St.ok.to [5, 6, 9, 10, 11, 12, 13, 14, 100, 101, 102] 5 [(3, 1), (4, 2), (5, 3), (6, 4)] (by kernel_rfl) rfl (by kernel_rfl) rfl rfl (by kernel_rfl))
                  · refine U.asW (t := 103) (congrArg Value.bool h97) (by kernel_rfl) ?_
                    refine WP.condF (by kernel_rfl) ?_
                    refine WP.exit (id := 0) (by kernel_rfl) ?_
                    refine PO.nx_exit ?_
                    refine PO.lp_exit ?_
                    refine PO.blk_exit ?_
                    have hq := Option.some.inj H
                    subst hq
                    have H := h95
                    rw [← (show _ = o92 from h94)] at H
                    have H : f8_j6 kk x90 x17 x18 x19 x20 x89 x13 x9 x14 x11 = some r := H
                    refine PO.jn ⟨x89, x90, H, rfl⟩ ?_
                    exact (St.ok.to [5, 6, 9, 10, 11, 12, 13, 14] 4 [(3, 0), (4, 1), (5, 2), (6, 3)] (by kernel_rfl) rfl (by kernel_rfl) rfl rfl (by kernel_rfl))
                · rintro _ ⟨x115, x116, H, rfl⟩
                  unfold f8_j6 at H
                  refine PO.nx ?_
                  refine WP.seq (by kernel_rfl) ?_
                  refine WP.reg (by kernel_rfl) ?_
                  refine U.seg 1 [5, 6, 9, 10, 11, 12, 13, 14, 17] [(0, .al 10)] (fun K => ∀ b118 : Nat, K [(5, Value.pointer (some ⟨b25, 0, none⟩)), (6, Value.pointer (some ⟨b26, 0, none⟩)), (9, Value.pointer (some ⟨b35, 0, none⟩)), (10, Value.int .i64 (imin x13 (w64 (Int.tdiv x18 x9)))), (11, Value.int .i64 (w64 (x17 - (imax x14 (w64 (2 * x19)))))), (12, Value.int .i64 (w64 (Int.tdiv (w64 (x17 - (imax x14 (w64 (2 * x19))))) 2))), (13, Value.int .i64 (imin x11 (w64 ((w64 (0 - (w64 (x9 - 1)))) * (imin x13 (w64 (Int.tdiv x18 x9))))))), (14, Value.pointer (some ⟨b56, 0, none⟩)), (17, Value.pointer (some ⟨b118, 0, none⟩))] ((10, Ent.blk b118 37 [Value.slice none 0 0]) :: (3, Ent.blk b25 31 [Value.int .i64 x17, Value.int .i64 x18, Value.int .i64 x19, Value.int .i64 x20]) :: (4, Ent.blk b26 37 [Value.slice none 0 0]) :: (5, Ent.blk b35 90 [Value.int .i64 0, Value.int .i64 x17, Value.int .i64 x18, Value.int .i64 0, Value.int .i64 x19, Value.int .i64 x20]) :: (6, Ent.blk b56 42 [Value.int .i64 x115, Value.int .i64 x116]) :: fr)) (fun K => by kernel_rfl) 1 (by kernel_rfl) ?_
                  intro b118
                  refine WO.done (by kernel_rfl) ?_
                  refine PO.nx ?_
                  refine WP.seq (by kernel_rfl) ?_
                  refine WP.reg (by kernel_rfl) ?_
                  refine U.seg 1 [5, 6, 9, 10, 11, 12, 13, 14, 17, 18] [] (fun K => K [(5, Value.pointer (some ⟨b25, 0, none⟩)), (6, Value.pointer (some ⟨b26, 0, none⟩)), (9, Value.pointer (some ⟨b35, 0, none⟩)), (10, Value.int .i64 (imin x13 (w64 (Int.tdiv x18 x9)))), (11, Value.int .i64 (w64 (x17 - (imax x14 (w64 (2 * x19)))))), (12, Value.int .i64 (w64 (Int.tdiv (w64 (x17 - (imax x14 (w64 (2 * x19))))) 2))), (13, Value.int .i64 (imin x11 (w64 ((w64 (0 - (w64 (x9 - 1)))) * (imin x13 (w64 (Int.tdiv x18 x9))))))), (14, Value.pointer (some ⟨b56, 0, none⟩)), (17, Value.pointer (some ⟨b118, 0, none⟩)), (18, Value.int .i64 0)] ((10, Ent.blk b118 37 [Value.slice none 0 0]) :: (3, Ent.blk b25 31 [Value.int .i64 x17, Value.int .i64 x18, Value.int .i64 x19, Value.int .i64 x20]) :: (4, Ent.blk b26 37 [Value.slice none 0 0]) :: (5, Ent.blk b35 90 [Value.int .i64 0, Value.int .i64 x17, Value.int .i64 x18, Value.int .i64 0, Value.int .i64 x19, Value.int .i64 x20]) :: (6, Ent.blk b56 42 [Value.int .i64 x115, Value.int .i64 x116]) :: fr)) (fun K => by kernel_rfl) 1 (by kernel_rfl) ?_
                  refine WO.done (by kernel_rfl) ?_
                  refine PO.nx ?_
                  refine WP.seq (by kernel_rfl) ?_
                  refine WP.seq (by kernel_rfl) ?_
                  refine WP.reg (by kernel_rfl) ?_
                  refine U.seg 2 [5, 6, 9, 10, 11, 12, 14, 17, 18, 19] [] (fun K => K [(5, Value.pointer (some ⟨b25, 0, none⟩)), (6, Value.pointer (some ⟨b26, 0, none⟩)), (9, Value.pointer (some ⟨b35, 0, none⟩)), (10, Value.int .i64 (imin x13 (w64 (Int.tdiv x18 x9)))), (11, Value.int .i64 (w64 (x17 - (imax x14 (w64 (2 * x19)))))), (12, Value.int .i64 (w64 (Int.tdiv (w64 (x17 - (imax x14 (w64 (2 * x19))))) 2))), (14, Value.pointer (some ⟨b56, 0, none⟩)), (17, Value.pointer (some ⟨b118, 0, none⟩)), (18, Value.int .i64 0), (19, Value.int .i64 (imin x11 (w64 ((w64 (0 - (w64 (x9 - 1)))) * (imin x13 (w64 (Int.tdiv x18 x9)))))))] ((10, Ent.blk b118 37 [Value.slice none 0 0]) :: (3, Ent.blk b25 31 [Value.int .i64 x17, Value.int .i64 x18, Value.int .i64 x19, Value.int .i64 x20]) :: (4, Ent.blk b26 37 [Value.slice none 0 0]) :: (5, Ent.blk b35 90 [Value.int .i64 0, Value.int .i64 x17, Value.int .i64 x18, Value.int .i64 0, Value.int .i64 x19, Value.int .i64 x20]) :: (6, Ent.blk b56 42 [Value.int .i64 x115, Value.int .i64 x116]) :: fr)) (fun K => by kernel_rfl) 2 (by kernel_rfl) ?_
                  refine WO.done (by kernel_rfl) ?_
                  refine PO.nx ?_
                  refine WP.join (fun s => ∃ (x538 : (List (Int × (List (Int × Int × Int × Int × Int × Int))))) (g531 : GH) (a535 : Option Addr) (c536 : Nat) (s539 : List Value), GH.le g g531 ∧ Rw (Kd.pair (Kd.int .i64) (Kd.sl (Kd.pair (Kd.int .i64) (Kd.pair (Kd.int .i64) (Kd.pair (Kd.int .i64) (Kd.pair (Kd.int .i64) (Kd.pair (Kd.int .i64) (Kd.int .i64)))))))) g531 s539 x538 ∧ f8_j17 kk x538 = some r ∧ s = { n := 183, e := [(6, Value.pointer (some ⟨b26, 0, none⟩)), (17, Value.pointer (some ⟨b118, 0, none⟩))], d := [], g := g531, h := ((4, Ent.blk b26 37 [Value.slice none 0 0]) :: (10, Ent.blk b118 37 [Value.slice a535 (List.length x538) c536]) :: (57, Ent.sl a535 (List.length x538) c536 88 2 s539) :: fr) }) ?_ ?_
                  · refine WP.block (id := 2) (by kernel_rfl) ?_
                    obtain ⟨o393, h530, h396⟩ := bnd_some H
                    refine U.nilW 56 88 2 ?_
                    refine WP.loopW (by kernel_rfl) (fun n s => ∃ (x383 : Int) (x384 : Int) (x385 : Int) (x391 : (List (Int × (List (Int × Int × Int × Int × Int × Int))))) (g381 : GH) (a388 : Option Addr) (c389 : Nat) (s392 : List Value), GH.le g g381 ∧ Rw (Kd.pair (Kd.int .i64) (Kd.sl (Kd.pair (Kd.int .i64) (Kd.pair (Kd.int .i64) (Kd.pair (Kd.int .i64) (Kd.pair (Kd.int .i64) (Kd.pair (Kd.int .i64) (Kd.int .i64)))))))) g381 s392 x391 ∧ iter (fun y : (Int × Int × Int × (List (Int × (List (Int × Int × Int × Int × Int × Int))))) => f8_l13 kk y.1 y.2.1 y.2.2.1 y.2.2.2 x116 x17 x18 x19 x20 x115 x13 x9 x14) n (x383, x384, x385, x391) = some o393 ∧ s = { n := 183, e := [(5, Value.pointer (some ⟨b25, 0, none⟩)), (6, Value.pointer (some ⟨b26, 0, none⟩)), (9, Value.pointer (some ⟨b35, 0, none⟩)), (10, Value.int .i64 (imin x13 (w64 (Int.tdiv x18 x9)))), (11, Value.int .i64 (w64 (x17 - (imax x14 (w64 (2 * x19)))))), (12, Value.int .i64 (w64 (Int.tdiv (w64 (x17 - (imax x14 (w64 (2 * x19))))) 2))), (14, Value.pointer (some ⟨b56, 0, none⟩)), (17, Value.pointer (some ⟨b118, 0, none⟩)), (18, Value.int .i64 x383), (19, Value.int .i64 x384)], d := [], g := g381, h := ((3, Ent.blk b25 31 [Value.int .i64 x17, Value.int .i64 x18, Value.int .i64 x19, Value.int .i64 x20]) :: (4, Ent.blk b26 37 [Value.slice none 0 0]) :: (5, Ent.blk b35 90 [Value.int .i64 x385, Value.int .i64 x17, Value.int .i64 x18, Value.int .i64 0, Value.int .i64 x19, Value.int .i64 x20]) :: (6, Ent.blk b56 42 [Value.int .i64 x115, Value.int .i64 x116]) :: (10, Ent.blk b118 37 [Value.slice a388 (List.length x391) c389]) :: (40, Ent.sl a388 (List.length x391) c389 88 2 s392) :: fr) }) (k := kk) ⟨0, (imin x11 (w64 ((w64 (0 - (w64 (x9 - 1)))) * (imin x13 (w64 (Int.tdiv x18 x9)))))), 0, [], g, none, 0, [], (GH.le_refl _), Rw.nil, h530, rfl⟩ (St.ok.to [5, 6, 9, 10, 11, 12, 14, 17, 18, 19] 6 [(3, 2), (4, 3), (5, 4), (6, 5), (10, 1), (40, 0)] (by kernel_rfl) rfl (by kernel_rfl) rfl rfl (by kernel_rfl)) ?_
                    intro n525 s
                    rintro ⟨x383, x384, x385, x391, g381, a388, c389, s392, h382, h390, h526, rfl⟩
                    obtain ⟨n397, q394, h528, h529, h395⟩ := iter_some h526
                    subst h528
                    have H : f8_l13 kk x383 x384 x385 x391 x116 x17 x18 x19 x20 x115 x13 x9 x14 = some q394 := h529
                    unfold f8_l13 at H
                    refine WP.seq (by kernel_rfl) ?_
                    refine WP.seq (by kernel_rfl) ?_
                    refine WP.reg (by kernel_rfl) ?_
                    refine U.seg 4 [5, 6, 9, 10, 11, 12, 14, 17, 18, 19, 122] [(2, .ld 6)] (fun K => (b56 = b56) ∧ (K [(5, Value.pointer (some ⟨b25, 0, none⟩)), (6, Value.pointer (some ⟨b26, 0, none⟩)), (9, Value.pointer (some ⟨b35, 0, none⟩)), (10, Value.int .i64 (imin x13 (w64 (Int.tdiv x18 x9)))), (11, Value.int .i64 (w64 (x17 - (imax x14 (w64 (2 * x19)))))), (12, Value.int .i64 (w64 (Int.tdiv (w64 (x17 - (imax x14 (w64 (2 * x19))))) 2))), (14, Value.pointer (some ⟨b56, 0, none⟩)), (17, Value.pointer (some ⟨b118, 0, none⟩)), (18, Value.int .i64 x383), (19, Value.int .i64 x384), (122, Value.bool (decide (x384 ≤ x116)))] ((3, Ent.blk b25 31 [Value.int .i64 x17, Value.int .i64 x18, Value.int .i64 x19, Value.int .i64 x20]) :: (4, Ent.blk b26 37 [Value.slice none 0 0]) :: (5, Ent.blk b35 90 [Value.int .i64 x385, Value.int .i64 x17, Value.int .i64 x18, Value.int .i64 0, Value.int .i64 x19, Value.int .i64 x20]) :: (6, Ent.blk b56 42 [Value.int .i64 x115, Value.int .i64 x116]) :: (10, Ent.blk b118 37 [Value.slice a388 (List.length x391) c389]) :: (40, Ent.sl a388 (List.length x391) c389 88 2 s392) :: fr))) (fun K => by kernel_rfl) 4 (by kernel_rfl) ?_
                    refine ⟨rfl, ?_⟩
                    refine WO.done (by kernel_rfl) ?_
                    refine PO.nx ?_
                    rcases cond_some H with ⟨h398, H⟩ | ⟨h398, H⟩
                    · refine U.asW (t := 122) (congrArg Value.bool h398) (by kernel_rfl) ?_
                      refine WP.condT (by kernel_rfl) ?_
                      refine WP.skip (by kernel_rfl) ?_
                      refine PO.nx ?_
                      refine WP.seq (by kernel_rfl) ?_
                      refine WP.block (id := 3) (by kernel_rfl) ?_
                      refine WP.seq (by kernel_rfl) ?_
                      refine WP.reg (by kernel_rfl) ?_
                      refine U.seg 4 [5, 6, 9, 10, 11, 12, 14, 17, 18, 19, 20] [(2, .al 42), (3, .st 42)] (fun K => ∀ b400 : Nat, (b400 = b400) ∧ (K [(5, Value.pointer (some ⟨b25, 0, none⟩)), (6, Value.pointer (some ⟨b26, 0, none⟩)), (9, Value.pointer (some ⟨b35, 0, none⟩)), (10, Value.int .i64 (imin x13 (w64 (Int.tdiv x18 x9)))), (11, Value.int .i64 (w64 (x17 - (imax x14 (w64 (2 * x19)))))), (12, Value.int .i64 (w64 (Int.tdiv (w64 (x17 - (imax x14 (w64 (2 * x19))))) 2))), (14, Value.pointer (some ⟨b56, 0, none⟩)), (17, Value.pointer (some ⟨b118, 0, none⟩)), (18, Value.int .i64 x383), (19, Value.int .i64 x384), (20, Value.pointer (some ⟨b400, 0, none⟩))] ((42, Ent.blk b400 88 [Value.int .i64 x384, Value.slice none 0 0]) :: (3, Ent.blk b25 31 [Value.int .i64 x17, Value.int .i64 x18, Value.int .i64 x19, Value.int .i64 x20]) :: (4, Ent.blk b26 37 [Value.slice none 0 0]) :: (5, Ent.blk b35 90 [Value.int .i64 x385, Value.int .i64 x17, Value.int .i64 x18, Value.int .i64 0, Value.int .i64 x19, Value.int .i64 x20]) :: (6, Ent.blk b56 42 [Value.int .i64 x115, Value.int .i64 x116]) :: (10, Ent.blk b118 37 [Value.slice a388 (List.length x391) c389]) :: (40, Ent.sl a388 (List.length x391) c389 88 2 s392) :: fr))) (fun K => by kernel_rfl) 4 (by kernel_rfl) ?_
                      intro b400
                      refine ⟨rfl, ?_⟩
                      refine WO.done (by kernel_rfl) ?_
                      refine PO.nx ?_
                      refine WP.seq (by kernel_rfl) ?_
                      refine WP.reg (by kernel_rfl) ?_
                      refine U.seg 5 [5, 6, 9, 10, 11, 12, 14, 17, 18, 19, 20] [(1, .ld 3), (4, .st 5)] (fun K => (b25 = b25) ∧ ((b35 = b35) ∧ (K [(5, Value.pointer (some ⟨b25, 0, none⟩)), (6, Value.pointer (some ⟨b26, 0, none⟩)), (9, Value.pointer (some ⟨b35, 0, none⟩)), (10, Value.int .i64 (imin x13 (w64 (Int.tdiv x18 x9)))), (11, Value.int .i64 (w64 (x17 - (imax x14 (w64 (2 * x19)))))), (12, Value.int .i64 (w64 (Int.tdiv (w64 (x17 - (imax x14 (w64 (2 * x19))))) 2))), (14, Value.pointer (some ⟨b56, 0, none⟩)), (17, Value.pointer (some ⟨b118, 0, none⟩)), (18, Value.int .i64 x383), (19, Value.int .i64 x384), (20, Value.pointer (some ⟨b400, 0, none⟩))] ((42, Ent.blk b400 88 [Value.int .i64 x384, Value.slice none 0 0]) :: (3, Ent.blk b25 31 [Value.int .i64 x17, Value.int .i64 x18, Value.int .i64 x19, Value.int .i64 x20]) :: (4, Ent.blk b26 37 [Value.slice none 0 0]) :: (5, Ent.blk b35 90 [Value.int .i64 (w64 (0 - x19)), Value.int .i64 x17, Value.int .i64 x18, Value.int .i64 0, Value.int .i64 x19, Value.int .i64 x20]) :: (6, Ent.blk b56 42 [Value.int .i64 x115, Value.int .i64 x116]) :: (10, Ent.blk b118 37 [Value.slice a388 (List.length x391) c389]) :: (40, Ent.sl a388 (List.length x391) c389 88 2 s392) :: fr)))) (fun K => by kernel_rfl) 5 (by kernel_rfl) ?_
                      refine ⟨rfl, ?_⟩
                      refine ⟨rfl, ?_⟩
                      refine WO.done (by kernel_rfl) ?_
                      refine PO.nx ?_
                      refine WP.seq (by kernel_rfl) ?_
                      refine WP.seq (by kernel_rfl) ?_
                      refine WP.reg (by kernel_rfl) ?_
                      refine U.seg 5 [5, 6, 9, 10, 11, 12, 14, 17, 18, 19, 20, 136] [(1, .ld 10), (3, .s)] (fun K => (b118 = b118) ∧ ((2 ≠ (0 : Int)) ∧ (K [(5, Value.pointer (some ⟨b25, 0, none⟩)), (6, Value.pointer (some ⟨b26, 0, none⟩)), (9, Value.pointer (some ⟨b35, 0, none⟩)), (10, Value.int .i64 (imin x13 (w64 (Int.tdiv x18 x9)))), (11, Value.int .i64 (w64 (x17 - (imax x14 (w64 (2 * x19)))))), (12, Value.int .i64 (w64 (Int.tdiv (w64 (x17 - (imax x14 (w64 (2 * x19))))) 2))), (14, Value.pointer (some ⟨b56, 0, none⟩)), (17, Value.pointer (some ⟨b118, 0, none⟩)), (18, Value.int .i64 x383), (19, Value.int .i64 x384), (20, Value.pointer (some ⟨b400, 0, none⟩)), (136, Value.bool ((Int.tmod ((List.length x391) : Int) 2) == 1))] ((42, Ent.blk b400 88 [Value.int .i64 x384, Value.slice none 0 0]) :: (3, Ent.blk b25 31 [Value.int .i64 x17, Value.int .i64 x18, Value.int .i64 x19, Value.int .i64 x20]) :: (4, Ent.blk b26 37 [Value.slice none 0 0]) :: (5, Ent.blk b35 90 [Value.int .i64 (w64 (0 - x19)), Value.int .i64 x17, Value.int .i64 x18, Value.int .i64 0, Value.int .i64 x19, Value.int .i64 x20]) :: (6, Ent.blk b56 42 [Value.int .i64 x115, Value.int .i64 x116]) :: (10, Ent.blk b118 37 [Value.slice a388 (List.length x391) c389]) :: (40, Ent.sl a388 (List.length x391) c389 88 2 s392) :: fr)))) (fun K => by kernel_rfl) 5 (by kernel_rfl) ?_
                      refine ⟨rfl, ?_⟩
                      refine ⟨(by decide), ?_⟩
                      refine WO.done (by kernel_rfl) ?_
                      refine PO.nx ?_
                      refine WP.join (fun s => ∃ (x403 : Int), f8_j14 kk x17 x18 x19 x20 x115 x391 x384 x13 x9 x14 x383 x403 = some q394 ∧ s = { n := 183, e := [(5, Value.pointer (some ⟨b25, 0, none⟩)), (6, Value.pointer (some ⟨b26, 0, none⟩)), (9, Value.pointer (some ⟨b35, 0, none⟩)), (10, Value.int .i64 (imin x13 (w64 (Int.tdiv x18 x9)))), (11, Value.int .i64 (w64 (x17 - (imax x14 (w64 (2 * x19)))))), (12, Value.int .i64 (w64 (Int.tdiv (w64 (x17 - (imax x14 (w64 (2 * x19))))) 2))), (14, Value.pointer (some ⟨b56, 0, none⟩)), (17, Value.pointer (some ⟨b118, 0, none⟩)), (18, Value.int .i64 x383), (19, Value.int .i64 x384), (20, Value.pointer (some ⟨b400, 0, none⟩))], d := [], g := g381, h := ((3, Ent.blk b25 31 [Value.int .i64 x17, Value.int .i64 x18, Value.int .i64 x19, Value.int .i64 x20]) :: (4, Ent.blk b26 37 [Value.slice none 0 0]) :: (5, Ent.blk b35 90 [Value.int .i64 x403, Value.int .i64 x17, Value.int .i64 x18, Value.int .i64 0, Value.int .i64 x19, Value.int .i64 x20]) :: (6, Ent.blk b56 42 [Value.int .i64 x115, Value.int .i64 x116]) :: (10, Ent.blk b118 37 [Value.slice a388 (List.length x391) c389]) :: (40, Ent.sl a388 (List.length x391) c389 88 2 s392) :: (42, Ent.blk b400 88 [Value.int .i64 x384, Value.slice none 0 0]) :: fr) }) ?_ ?_
                      · rcases cond_some H with ⟨h402, H⟩ | ⟨h402, H⟩
                        · refine U.asW (t := 136) (congrArg Value.bool h402) (by kernel_rfl) ?_
                          refine WP.condT (by kernel_rfl) ?_
                          refine WP.reg (by kernel_rfl) ?_
                          refine U.seg 8 [5, 6, 9, 10, 11, 12, 14, 17, 18, 19, 20] [(1, .ld 5), (7, .st 5)] (fun K => (b35 = b35) ∧ ((b35 = b35) ∧ (K [(5, Value.pointer (some ⟨b25, 0, none⟩)), (6, Value.pointer (some ⟨b26, 0, none⟩)), (9, Value.pointer (some ⟨b35, 0, none⟩)), (10, Value.int .i64 (imin x13 (w64 (Int.tdiv x18 x9)))), (11, Value.int .i64 (w64 (x17 - (imax x14 (w64 (2 * x19)))))), (12, Value.int .i64 (w64 (Int.tdiv (w64 (x17 - (imax x14 (w64 (2 * x19))))) 2))), (14, Value.pointer (some ⟨b56, 0, none⟩)), (17, Value.pointer (some ⟨b118, 0, none⟩)), (18, Value.int .i64 x383), (19, Value.int .i64 x384), (20, Value.pointer (some ⟨b400, 0, none⟩))] ((42, Ent.blk b400 88 [Value.int .i64 x384, Value.slice none 0 0]) :: (3, Ent.blk b25 31 [Value.int .i64 x17, Value.int .i64 x18, Value.int .i64 x19, Value.int .i64 x20]) :: (4, Ent.blk b26 37 [Value.slice none 0 0]) :: (5, Ent.blk b35 90 [Value.int .i64 (w64 ((w64 (0 - x19)) + (w64 ((w64 (Int.tdiv (w64 (x17 - (imax x14 (w64 (2 * x19))))) 2)) - (w64 (x17 - (imax x14 (w64 (2 * x19))))))))), Value.int .i64 x17, Value.int .i64 x18, Value.int .i64 0, Value.int .i64 x19, Value.int .i64 x20]) :: (6, Ent.blk b56 42 [Value.int .i64 x115, Value.int .i64 x116]) :: (10, Ent.blk b118 37 [Value.slice a388 (List.length x391) c389]) :: (40, Ent.sl a388 (List.length x391) c389 88 2 s392) :: fr)))) (fun K => by kernel_rfl) 8 (by kernel_rfl) ?_
                          refine ⟨rfl, ?_⟩
                          refine ⟨rfl, ?_⟩
                          refine WO.done (by kernel_rfl) ?_
                          refine PO.jn ⟨(w64 ((w64 (0 - x19)) + (w64 ((w64 (Int.tdiv (w64 (x17 - (imax x14 (w64 (2 * x19))))) 2)) - (w64 (x17 - (imax x14 (w64 (2 * x19))))))))), H, rfl⟩ ?_
                          exact (St.ok.to [5, 6, 9, 10, 11, 12, 14, 17, 18, 19, 20] 7 [(3, 1), (4, 2), (5, 3), (6, 4), (10, 5), (40, 6), (42, 0)] (by kernel_rfl) rfl (by kernel_rfl) rfl rfl (by kernel_rfl))
                        · refine U.asW (t := 136) (congrArg Value.bool h402) (by kernel_rfl) ?_
                          refine WP.condF (by kernel_rfl) ?_
                          refine WP.skip (by kernel_rfl) ?_
                          refine PO.jn ⟨(w64 (0 - x19)), H, rfl⟩ ?_
                          exact (St.ok.to [5, 6, 9, 10, 11, 12, 14, 17, 18, 19, 20] 7 [(3, 1), (4, 2), (5, 3), (6, 4), (10, 5), (40, 6), (42, 0)] (by kernel_rfl) rfl (by kernel_rfl) rfl rfl (by kernel_rfl))
                      · rintro _ ⟨x403, H, rfl⟩
                        unfold f8_j14 at H
                        refine PO.nx ?_
                        refine WP.seq (by kernel_rfl) ?_
                        refine WP.join (fun s => ∃ (x490 : Int) (x491 : Int) (x497 : (List (Int × Int × Int × Int × Int × Int))) (a494 : Option Addr) (c495 : Nat) (s498 : List Value), Rw (Kd.pair (Kd.int .i64) (Kd.pair (Kd.int .i64) (Kd.pair (Kd.int .i64) (Kd.pair (Kd.int .i64) (Kd.pair (Kd.int .i64) (Kd.int .i64)))))) g381 s498 x497 ∧ f8_j16 kk x391 x384 x497 x490 x13 x18 x9 x491 = some q394 ∧ s = { n := 183, e := [(5, Value.pointer (some ⟨b25, 0, none⟩)), (6, Value.pointer (some ⟨b26, 0, none⟩)), (9, Value.pointer (some ⟨b35, 0, none⟩)), (10, Value.int .i64 (imin x13 (w64 (Int.tdiv x18 x9)))), (11, Value.int .i64 (w64 (x17 - (imax x14 (w64 (2 * x19)))))), (12, Value.int .i64 (w64 (Int.tdiv (w64 (x17 - (imax x14 (w64 (2 * x19))))) 2))), (14, Value.pointer (some ⟨b56, 0, none⟩)), (17, Value.pointer (some ⟨b118, 0, none⟩)), (18, Value.int .i64 x490), (19, Value.int .i64 x384), (20, Value.pointer (some ⟨b400, 0, none⟩))], d := [], g := g381, h := ((3, Ent.blk b25 31 [Value.int .i64 x17, Value.int .i64 x18, Value.int .i64 x19, Value.int .i64 x20]) :: (4, Ent.blk b26 37 [Value.slice none 0 0]) :: (5, Ent.blk b35 90 [Value.int .i64 x491, Value.int .i64 x17, Value.int .i64 x18, Value.int .i64 0, Value.int .i64 x19, Value.int .i64 x20]) :: (6, Ent.blk b56 42 [Value.int .i64 x115, Value.int .i64 x116]) :: (10, Ent.blk b118 37 [Value.slice a388 (List.length x391) c389]) :: (40, Ent.sl a388 (List.length x391) c389 88 2 s392) :: (42, Ent.blk b400 88 [Value.int .i64 x384, Value.slice a494 (List.length x497) c495]) :: (53, Ent.sl a494 (List.length x497) c495 90 6 s498) :: fr) }) ?_ ?_
                        · refine WP.block (id := 4) (by kernel_rfl) ?_
                          obtain ⟨o459, h489, h462⟩ := bnd_some H
                          refine U.nilW 52 90 6 ?_
                          refine WP.loopW (by kernel_rfl) (fun n s => ∃ (x450 : Int) (x451 : Int) (x457 : (List (Int × Int × Int × Int × Int × Int))) (a454 : Option Addr) (c455 : Nat) (s458 : List Value), Rw (Kd.pair (Kd.int .i64) (Kd.pair (Kd.int .i64) (Kd.pair (Kd.int .i64) (Kd.pair (Kd.int .i64) (Kd.pair (Kd.int .i64) (Kd.int .i64)))))) g381 s458 x457 ∧ iter (fun y : (Int × Int × (List (Int × Int × Int × Int × Int × Int))) => f8_l15 kk y.1 y.2.1 y.2.2 x17 x18 x19 x20 x115 x391 x384 x13 x9 x14) n (x450, x451, x457) = some o459 ∧ s = { n := 183, e := [(5, Value.pointer (some ⟨b25, 0, none⟩)), (6, Value.pointer (some ⟨b26, 0, none⟩)), (9, Value.pointer (some ⟨b35, 0, none⟩)), (10, Value.int .i64 (imin x13 (w64 (Int.tdiv x18 x9)))), (11, Value.int .i64 (w64 (x17 - (imax x14 (w64 (2 * x19)))))), (12, Value.int .i64 (w64 (Int.tdiv (w64 (x17 - (imax x14 (w64 (2 * x19))))) 2))), (14, Value.pointer (some ⟨b56, 0, none⟩)), (17, Value.pointer (some ⟨b118, 0, none⟩)), (18, Value.int .i64 x450), (19, Value.int .i64 x384), (20, Value.pointer (some ⟨b400, 0, none⟩))], d := [], g := g381, h := ((3, Ent.blk b25 31 [Value.int .i64 x17, Value.int .i64 x18, Value.int .i64 x19, Value.int .i64 x20]) :: (4, Ent.blk b26 37 [Value.slice none 0 0]) :: (5, Ent.blk b35 90 [Value.int .i64 x451, Value.int .i64 x17, Value.int .i64 x18, Value.int .i64 0, Value.int .i64 x19, Value.int .i64 x20]) :: (6, Ent.blk b56 42 [Value.int .i64 x115, Value.int .i64 x116]) :: (10, Ent.blk b118 37 [Value.slice a388 (List.length x391) c389]) :: (40, Ent.sl a388 (List.length x391) c389 88 2 s392) :: (42, Ent.blk b400 88 [Value.int .i64 x384, Value.slice a454 (List.length x457) c455]) :: (48, Ent.sl a454 (List.length x457) c455 90 6 s458) :: fr) }) (k := kk) ⟨x383, x403, [], none, 0, [], Rw.nil, h489, rfl⟩ (St.ok.to [5, 6, 9, 10, 11, 12, 14, 17, 18, 19, 20] 8 [(3, 1), (4, 2), (5, 3), (6, 4), (10, 5), (40, 6), (42, 7), (48, 0)] (by kernel_rfl) rfl (by kernel_rfl) rfl rfl (by kernel_rfl)) ?_
                          intro n484 s
                          rintro ⟨x450, x451, x457, a454, c455, s458, h456, h485, rfl⟩
                          obtain ⟨n463, q460, h487, h488, h461⟩ := iter_some h485
                          subst h487
                          have H : f8_l15 kk x450 x451 x457 x17 x18 x19 x20 x115 x391 x384 x13 x9 x14 = some q460 := h488
                          unfold f8_l15 at H
                          refine WP.block (id := 5) (by kernel_rfl) ?_
                          refine WP.seq (by kernel_rfl) ?_
                          refine WP.reg (by kernel_rfl) ?_
                          have h465 : Rw (Kd.pair (Kd.int .i64) (Kd.pair (Kd.int .i64) (Kd.pair (Kd.int .i64) (Kd.pair (Kd.int .i64) (Kd.pair (Kd.int .i64) (Kd.int .i64)))))) g381 [Value.int .i64 x451, Value.int .i64 x17, Value.int .i64 x18, Value.int .i64 0, Value.int .i64 x19, Value.int .i64 x20] [(x451, (x17, (x18, (0, (x19, x20)))))] := ⟨[Value.int .i64 x451, Value.int .i64 x17, Value.int .i64 x18, Value.int .i64 0, Value.int .i64 x19, Value.int .i64 x20], [], rfl, ⟨[Value.int .i64 x451], ([Value.int .i64 x17] ++ ([Value.int .i64 x18] ++ ([Value.int .i64 0] ++ ([Value.int .i64 x19] ++ [Value.int .i64 x20])))), rfl, rfl, ⟨[Value.int .i64 x17], ([Value.int .i64 x18] ++ ([Value.int .i64 0] ++ ([Value.int .i64 x19] ++ [Value.int .i64 x20]))), rfl, rfl, ⟨[Value.int .i64 x18], ([Value.int .i64 0] ++ ([Value.int .i64 x19] ++ [Value.int .i64 x20])), rfl, rfl, ⟨[Value.int .i64 0], ([Value.int .i64 x19] ++ [Value.int .i64 x20]), rfl, rfl, ⟨[Value.int .i64 x19], [Value.int .i64 x20], rfl, rfl, rfl⟩⟩⟩⟩⟩, rfl⟩
                          refine U.seg 4 [5, 6, 9, 10, 11, 12, 14, 17, 18, 19, 20, 145, 147] [(1, .ld 42), (2, .ld 5), (3, .al 50)] (fun K => (b400 = b400) ∧ ((b35 = b35) ∧ (∀ b464 : Nat, K [(5, Value.pointer (some ⟨b25, 0, none⟩)), (6, Value.pointer (some ⟨b26, 0, none⟩)), (9, Value.pointer (some ⟨b35, 0, none⟩)), (10, Value.int .i64 (imin x13 (w64 (Int.tdiv x18 x9)))), (11, Value.int .i64 (w64 (x17 - (imax x14 (w64 (2 * x19)))))), (12, Value.int .i64 (w64 (Int.tdiv (w64 (x17 - (imax x14 (w64 (2 * x19))))) 2))), (14, Value.pointer (some ⟨b56, 0, none⟩)), (17, Value.pointer (some ⟨b118, 0, none⟩)), (18, Value.int .i64 x450), (19, Value.int .i64 x384), (20, Value.pointer (some ⟨b400, 0, none⟩)), (145, Value.slice a454 (List.length x457) c455), (147, Value.slice (some ⟨b464, 0, none⟩ : Option Addr) 1 1)] ((50, Ent.sl (some ⟨b464, 0, none⟩ : Option Addr) 1 1 90 6 [Value.int .i64 x451, Value.int .i64 x17, Value.int .i64 x18, Value.int .i64 0, Value.int .i64 x19, Value.int .i64 x20]) :: (3, Ent.blk b25 31 [Value.int .i64 x17, Value.int .i64 x18, Value.int .i64 x19, Value.int .i64 x20]) :: (4, Ent.blk b26 37 [Value.slice none 0 0]) :: (5, Ent.blk b35 90 [Value.int .i64 x451, Value.int .i64 x17, Value.int .i64 x18, Value.int .i64 0, Value.int .i64 x19, Value.int .i64 x20]) :: (6, Ent.blk b56 42 [Value.int .i64 x115, Value.int .i64 x116]) :: (10, Ent.blk b118 37 [Value.slice a388 (List.length x391) c389]) :: (40, Ent.sl a388 (List.length x391) c389 88 2 s392) :: (42, Ent.blk b400 88 [Value.int .i64 x384, Value.slice a454 (List.length x457) c455]) :: (48, Ent.sl a454 (List.length x457) c455 90 6 s458) :: fr)))) (fun K => by kernel_rfl) 4 (by kernel_rfl) ?_
                          refine ⟨rfl, ?_⟩
                          refine ⟨rfl, ?_⟩
                          intro b464
                          obtain ⟨h467, H⟩ := grd_some H
                          have h470 : Rw (Kd.pair (Kd.int .i64) (Kd.pair (Kd.int .i64) (Kd.pair (Kd.int .i64) (Kd.pair (Kd.int .i64) (Kd.pair (Kd.int .i64) (Kd.int .i64)))))) g381 (s458 ++ [Value.int .i64 x451, Value.int .i64 x17, Value.int .i64 x18, Value.int .i64 0, Value.int .i64 x19, Value.int .i64 x20]) (x457 ++ [(x451, (x17, (x18, (0, (x19, x20)))))]) := Rw.app h456 h465
                          refine U.step 5 (by kernel_rfl) (U.append (T := 86) (el := 90) (sz := 6) (dst := some 148) (t := 48) (n1 := (List.length x457)) (m := 1) (a := a454) (cc := c455) (b := (some ⟨b464, 0, none⟩ : Option Addr)) (cc2 := 1) (cs := s458) (news := [Value.int .i64 x451, Value.int .i64 x17, Value.int .i64 x18, Value.int .i64 0, Value.int .i64 x19, Value.int .i64 x20]) (List.length (x457 ++ [(x451, (x17, (x18, (0, (x19, x20)))))])) (by kernel_rfl) (by kernel_rfl) (by kernel_rfl) (Reads.own (t := 50) (T := 90) (sz := 6) (by kernel_rfl)) (Rw.len h465) (Rw.one h465) (by simp) h467) ?_
                          rintro ⟨a468, c469⟩ _
                          refine U.seg 2 [5, 6, 9, 10, 11, 12, 14, 17, 18, 19, 20] [(6, .st 42)] (fun K => (b400 = b400) ∧ (K [(5, Value.pointer (some ⟨b25, 0, none⟩)), (6, Value.pointer (some ⟨b26, 0, none⟩)), (9, Value.pointer (some ⟨b35, 0, none⟩)), (10, Value.int .i64 (imin x13 (w64 (Int.tdiv x18 x9)))), (11, Value.int .i64 (w64 (x17 - (imax x14 (w64 (2 * x19)))))), (12, Value.int .i64 (w64 (Int.tdiv (w64 (x17 - (imax x14 (w64 (2 * x19))))) 2))), (14, Value.pointer (some ⟨b56, 0, none⟩)), (17, Value.pointer (some ⟨b118, 0, none⟩)), (18, Value.int .i64 x450), (19, Value.int .i64 x384), (20, Value.pointer (some ⟨b400, 0, none⟩))] ((50, Ent.sl (some ⟨b464, 0, none⟩ : Option Addr) 1 1 90 6 [Value.int .i64 x451, Value.int .i64 x17, Value.int .i64 x18, Value.int .i64 0, Value.int .i64 x19, Value.int .i64 x20]) :: (3, Ent.blk b25 31 [Value.int .i64 x17, Value.int .i64 x18, Value.int .i64 x19, Value.int .i64 x20]) :: (4, Ent.blk b26 37 [Value.slice none 0 0]) :: (5, Ent.blk b35 90 [Value.int .i64 x451, Value.int .i64 x17, Value.int .i64 x18, Value.int .i64 0, Value.int .i64 x19, Value.int .i64 x20]) :: (6, Ent.blk b56 42 [Value.int .i64 x115, Value.int .i64 x116]) :: (10, Ent.blk b118 37 [Value.slice a388 (List.length x391) c389]) :: (40, Ent.sl a388 (List.length x391) c389 88 2 s392) :: (42, Ent.blk b400 88 ([Value.int .i64 x384, Value.slice a468 (List.length (x457 ++ [(x451, (x17, (x18, (0, (x19, x20)))))])) c469])) :: (48, Ent.sl a468 (List.length (x457 ++ [(x451, (x17, (x18, (0, (x19, x20)))))])) c469 90 6 (s458 ++ [Value.int .i64 x451, Value.int .i64 x17, Value.int .i64 x18, Value.int .i64 0, Value.int .i64 x19, Value.int .i64 x20])) :: fr))) (fun K => by kernel_rfl) 7 (by kernel_rfl) ?_
                          refine ⟨rfl, ?_⟩
                          refine WO.done (by kernel_rfl) ?_
                          refine PO.nx ?_
                          refine WP.seq (by kernel_rfl) ?_
                          refine WP.seq (by kernel_rfl) ?_
                          refine WP.reg (by kernel_rfl) ?_
                          refine U.seg 3 [5, 6, 9, 10, 11, 12, 14, 17, 18, 19, 20] [] (fun K => K [(5, Value.pointer (some ⟨b25, 0, none⟩)), (6, Value.pointer (some ⟨b26, 0, none⟩)), (9, Value.pointer (some ⟨b35, 0, none⟩)), (10, Value.int .i64 (imin x13 (w64 (Int.tdiv x18 x9)))), (11, Value.int .i64 (w64 (x17 - (imax x14 (w64 (2 * x19)))))), (12, Value.int .i64 (w64 (Int.tdiv (w64 (x17 - (imax x14 (w64 (2 * x19))))) 2))), (14, Value.pointer (some ⟨b56, 0, none⟩)), (17, Value.pointer (some ⟨b118, 0, none⟩)), (18, Value.int .i64 (w64 (x450 + 1))), (19, Value.int .i64 x384), (20, Value.pointer (some ⟨b400, 0, none⟩))] ((50, Ent.sl (some ⟨b464, 0, none⟩ : Option Addr) 1 1 90 6 [Value.int .i64 x451, Value.int .i64 x17, Value.int .i64 x18, Value.int .i64 0, Value.int .i64 x19, Value.int .i64 x20]) :: (3, Ent.blk b25 31 [Value.int .i64 x17, Value.int .i64 x18, Value.int .i64 x19, Value.int .i64 x20]) :: (4, Ent.blk b26 37 [Value.slice none 0 0]) :: (5, Ent.blk b35 90 [Value.int .i64 x451, Value.int .i64 x17, Value.int .i64 x18, Value.int .i64 0, Value.int .i64 x19, Value.int .i64 x20]) :: (6, Ent.blk b56 42 [Value.int .i64 x115, Value.int .i64 x116]) :: (10, Ent.blk b118 37 [Value.slice a388 (List.length x391) c389]) :: (40, Ent.sl a388 (List.length x391) c389 88 2 s392) :: (42, Ent.blk b400 88 ([Value.int .i64 x384, Value.slice a468 (List.length (x457 ++ [(x451, (x17, (x18, (0, (x19, x20)))))])) c469])) :: (48, Ent.sl a468 (List.length (x457 ++ [(x451, (x17, (x18, (0, (x19, x20)))))])) c469 90 6 (s458 ++ [Value.int .i64 x451, Value.int .i64 x17, Value.int .i64 x18, Value.int .i64 0, Value.int .i64 x19, Value.int .i64 x20])) :: fr)) (fun K => by kernel_rfl) 3 (by kernel_rfl) ?_
                          refine WO.done (by kernel_rfl) ?_
                          refine PO.nx ?_
                          refine WP.seq (by kernel_rfl) ?_
                          refine WP.reg (by kernel_rfl) ?_
                          refine U.seg 2 [5, 6, 9, 10, 11, 12, 14, 17, 18, 19, 20, 153] [] (fun K => K [(5, Value.pointer (some ⟨b25, 0, none⟩)), (6, Value.pointer (some ⟨b26, 0, none⟩)), (9, Value.pointer (some ⟨b35, 0, none⟩)), (10, Value.int .i64 (imin x13 (w64 (Int.tdiv x18 x9)))), (11, Value.int .i64 (w64 (x17 - (imax x14 (w64 (2 * x19)))))), (12, Value.int .i64 (w64 (Int.tdiv (w64 (x17 - (imax x14 (w64 (2 * x19))))) 2))), (14, Value.pointer (some ⟨b56, 0, none⟩)), (17, Value.pointer (some ⟨b118, 0, none⟩)), (18, Value.int .i64 (w64 (x450 + 1))), (19, Value.int .i64 x384), (20, Value.pointer (some ⟨b400, 0, none⟩)), (153, Value.bool (decide ((w64 (x450 + 1)) > 96)))] ((50, Ent.sl (some ⟨b464, 0, none⟩ : Option Addr) 1 1 90 6 [Value.int .i64 x451, Value.int .i64 x17, Value.int .i64 x18, Value.int .i64 0, Value.int .i64 x19, Value.int .i64 x20]) :: (3, Ent.blk b25 31 [Value.int .i64 x17, Value.int .i64 x18, Value.int .i64 x19, Value.int .i64 x20]) :: (4, Ent.blk b26 37 [Value.slice none 0 0]) :: (5, Ent.blk b35 90 [Value.int .i64 x451, Value.int .i64 x17, Value.int .i64 x18, Value.int .i64 0, Value.int .i64 x19, Value.int .i64 x20]) :: (6, Ent.blk b56 42 [Value.int .i64 x115, Value.int .i64 x116]) :: (10, Ent.blk b118 37 [Value.slice a388 (List.length x391) c389]) :: (40, Ent.sl a388 (List.length x391) c389 88 2 s392) :: (42, Ent.blk b400 88 ([Value.int .i64 x384, Value.slice a468 (List.length (x457 ++ [(x451, (x17, (x18, (0, (x19, x20)))))])) c469])) :: (48, Ent.sl a468 (List.length (x457 ++ [(x451, (x17, (x18, (0, (x19, x20)))))])) c469 90 6 (s458 ++ [Value.int .i64 x451, Value.int .i64 x17, Value.int .i64 x18, Value.int .i64 0, Value.int .i64 x19, Value.int .i64 x20])) :: fr)) (fun K => by kernel_rfl) 2 (by kernel_rfl) ?_
                          refine WO.done (by kernel_rfl) ?_
                          refine PO.nx ?_
                          rcases cond_some H with ⟨h472, H⟩ | ⟨h472, H⟩
                          · refine U.asW (t := 153) (congrArg Value.bool h472) (by kernel_rfl) ?_
                            refine WP.condT (by kernel_rfl) ?_
                            refine WP.seq (by kernel_rfl) ?_
                            refine WP.reg (by kernel_rfl) ?_
                            refine U.seg 3 [6, 7] [(1, .st 4)] (fun K => (b26 = b26) ∧ (K [(6, Value.pointer (some ⟨b26, 0, none⟩)), (7, Value.int .i64 3)] ((50, Ent.sl (some ⟨b464, 0, none⟩ : Option Addr) 1 1 90 6 [Value.int .i64 x451, Value.int .i64 x17, Value.int .i64 x18, Value.int .i64 0, Value.int .i64 x19, Value.int .i64 x20]) :: (3, Ent.blk b25 31 [Value.int .i64 x17, Value.int .i64 x18, Value.int .i64 x19, Value.int .i64 x20]) :: (4, Ent.blk b26 37 [Value.slice none 0 0]) :: (5, Ent.blk b35 90 [Value.int .i64 x451, Value.int .i64 x17, Value.int .i64 x18, Value.int .i64 0, Value.int .i64 x19, Value.int .i64 x20]) :: (6, Ent.blk b56 42 [Value.int .i64 x115, Value.int .i64 x116]) :: (10, Ent.blk b118 37 [Value.slice a388 (List.length x391) c389]) :: (40, Ent.sl a388 (List.length x391) c389 88 2 s392) :: (42, Ent.blk b400 88 ([Value.int .i64 x384, Value.slice a468 (List.length (x457 ++ [(x451, (x17, (x18, (0, (x19, x20)))))])) c469])) :: (48, Ent.sl a468 (List.length (x457 ++ [(x451, (x17, (x18, (0, (x19, x20)))))])) c469 90 6 (s458 ++ [Value.int .i64 x451, Value.int .i64 x17, Value.int .i64 x18, Value.int .i64 0, Value.int .i64 x19, Value.int .i64 x20])) :: fr))) (fun K => by kernel_rfl) 3 (by kernel_rfl) ?_
                            refine ⟨rfl, ?_⟩
                            refine WO.done (by kernel_rfl) ?_
                            refine PO.nx ?_
                            refine WP.ret (by kernel_rfl) ?_
                            refine PO.nx_ret ?_
                            refine PO.blk_ret ?_
                            refine PO.lp_ret ?_
                            refine PO.blk_ret ?_
                            refine PO.jn_ret ?_
                            refine PO.nx_ret ?_
                            refine PO.blk_ret ?_
                            refine PO.nx_ret ?_
                            refine PO.lp_ret ?_
                            refine PO.blk_ret ?_
                            refine PO.jn_ret ?_
                            refine PO.nx_ret ?_
                            have hq := Option.some.inj H
                            subst hq
                            have H := h462
                            rw [← (show _ = o459 from h461)] at H
                            have H : some (Sum.inl (Sum.inl ([], 3))) = some q394 := H
                            have hq := Option.some.inj H
                            subst hq
                            have H := h396
                            rw [← (show _ = o393 from h395)] at H
                            have H : some ([], 3) = some r := H
                            have hr := Option.some.inj H
                            subst hr
                            refine PO.body [Value.agg #[Value.slice none 0 0], Value.int .i64 3] ((50, Ent.sl (some ⟨b464, 0, none⟩ : Option Addr) 1 1 90 6 [Value.int .i64 x451, Value.int .i64 x17, Value.int .i64 x18, Value.int .i64 0, Value.int .i64 x19, Value.int .i64 x20]) :: (3, Ent.blk b25 31 [Value.int .i64 x17, Value.int .i64 x18, Value.int .i64 x19, Value.int .i64 x20]) :: (4, Ent.blk b26 37 [Value.slice none 0 0]) :: (5, Ent.blk b35 90 [Value.int .i64 x451, Value.int .i64 x17, Value.int .i64 x18, Value.int .i64 0, Value.int .i64 x19, Value.int .i64 x20]) :: (6, Ent.blk b56 42 [Value.int .i64 x115, Value.int .i64 x116]) :: (10, Ent.blk b118 37 [Value.slice a388 (List.length x391) c389]) :: (40, Ent.sl a388 (List.length x391) c389 88 2 s392) :: (42, Ent.blk b400 88 ([Value.int .i64 x384, Value.slice a468 (List.length (x457 ++ [(x451, (x17, (x18, (0, (x19, x20)))))])) c469])) :: (48, Ent.sl a468 (List.length (x457 ++ [(x451, (x17, (x18, (0, (x19, x20)))))])) c469 90 6 (s458 ++ [Value.int .i64 x451, Value.int .i64 x17, Value.int .i64 x18, Value.int .i64 0, Value.int .i64 x19, Value.int .i64 x20])) :: fr) rfl (Res.cell b26 0 4 (Ent.blk b26 37 [Value.slice none 0 0]) [Value.slice none 0 0] true 1 (by kernel_rfl) (by kernel_rfl) (by kernel_rfl) (by kernel_rfl) (by kernel_rfl) (OwnRead.agg rfl rfl) (Res.tmp (by kernel_rfl) Res.nil)) ?_
                            exact fun w hw => Ret.mk (g381, none, 0) ⟨h382, Sl.nil'⟩ rfl (okNT 9 [] (by kernel_rfl) rfl hw)
                          · refine U.asW (t := 153) (congrArg Value.bool h472) (by kernel_rfl) ?_
                            refine WP.condF (by kernel_rfl) ?_
                            refine WP.skip (by kernel_rfl) ?_
                            refine PO.nx ?_
                            refine WP.seq (by kernel_rfl) ?_
                            refine WP.seq (by kernel_rfl) ?_
                            refine WP.reg (by kernel_rfl) ?_
                            refine U.seg 11 [5, 6, 9, 10, 11, 12, 14, 17, 18, 19, 20, 165] [(1, .ld 5), (3, .ld 3), (6, .ld 3), (9, .ld 6)] (fun K => (b35 = b35) ∧ ((b25 = b25) ∧ ((b25 = b25) ∧ ((b56 = b56) ∧ (K [(5, Value.pointer (some ⟨b25, 0, none⟩)), (6, Value.pointer (some ⟨b26, 0, none⟩)), (9, Value.pointer (some ⟨b35, 0, none⟩)), (10, Value.int .i64 (imin x13 (w64 (Int.tdiv x18 x9)))), (11, Value.int .i64 (w64 (x17 - (imax x14 (w64 (2 * x19)))))), (12, Value.int .i64 (w64 (Int.tdiv (w64 (x17 - (imax x14 (w64 (2 * x19))))) 2))), (14, Value.pointer (some ⟨b56, 0, none⟩)), (17, Value.pointer (some ⟨b118, 0, none⟩)), (18, Value.int .i64 (w64 (x450 + 1))), (19, Value.int .i64 x384), (20, Value.pointer (some ⟨b400, 0, none⟩)), (165, Value.bool (decide ((w64 ((w64 (x451 + x17)) - x19)) ≥ x115)))] ((50, Ent.sl (some ⟨b464, 0, none⟩ : Option Addr) 1 1 90 6 [Value.int .i64 x451, Value.int .i64 x17, Value.int .i64 x18, Value.int .i64 0, Value.int .i64 x19, Value.int .i64 x20]) :: (3, Ent.blk b25 31 [Value.int .i64 x17, Value.int .i64 x18, Value.int .i64 x19, Value.int .i64 x20]) :: (4, Ent.blk b26 37 [Value.slice none 0 0]) :: (5, Ent.blk b35 90 [Value.int .i64 x451, Value.int .i64 x17, Value.int .i64 x18, Value.int .i64 0, Value.int .i64 x19, Value.int .i64 x20]) :: (6, Ent.blk b56 42 [Value.int .i64 x115, Value.int .i64 x116]) :: (10, Ent.blk b118 37 [Value.slice a388 (List.length x391) c389]) :: (40, Ent.sl a388 (List.length x391) c389 88 2 s392) :: (42, Ent.blk b400 88 ([Value.int .i64 x384, Value.slice a468 (List.length (x457 ++ [(x451, (x17, (x18, (0, (x19, x20)))))])) c469])) :: (48, Ent.sl a468 (List.length (x457 ++ [(x451, (x17, (x18, (0, (x19, x20)))))])) c469 90 6 (s458 ++ [Value.int .i64 x451, Value.int .i64 x17, Value.int .i64 x18, Value.int .i64 0, Value.int .i64 x19, Value.int .i64 x20])) :: fr)))))) (fun K => by kernel_rfl) 11 (by kernel_rfl) ?_
                            refine ⟨rfl, ?_⟩
                            refine ⟨rfl, ?_⟩
                            refine ⟨rfl, ?_⟩
                            refine ⟨rfl, ?_⟩
                            refine WO.done (by kernel_rfl) ?_
                            refine PO.nx ?_
                            rcases cond_some H with ⟨h474, H⟩ | ⟨h474, H⟩
                            · refine U.asW (t := 165) (congrArg Value.bool h474) (by kernel_rfl) ?_
                              refine WP.condT (by kernel_rfl) ?_
                              refine WP.exit (id := 4) (by kernel_rfl) ?_
                              refine PO.nx_exit ?_
                              refine PO.blk_other (by kernel_rfl) ?_
                              refine PO.lp_exit ?_
                              refine PO.blk_exit ?_
                              have hq := Option.some.inj H
                              subst hq
                              have H := h462
                              rw [← (show _ = o459 from h461)] at H
                              have H : f8_j16 kk x391 x384 (x457 ++ [(x451, (x17, (x18, (0, (x19, x20)))))]) (w64 (x450 + 1)) x13 x18 x9 x451 = some q394 := H
                              refine PO.jn ⟨(w64 (x450 + 1)), x451, (x457 ++ [(x451, (x17, (x18, (0, (x19, x20)))))]), a468, c469, (s458 ++ [Value.int .i64 x451, Value.int .i64 x17, Value.int .i64 x18, Value.int .i64 0, Value.int .i64 x19, Value.int .i64 x20]), h470, H, rfl⟩ ?_
                              exact (St.ok.to [5, 6, 9, 10, 11, 12, 14, 17, 18, 19, 20] 9 [(3, 1), (4, 2), (5, 3), (6, 4), (10, 5), (40, 6), (42, 7), (53, 8)] (by kernel_rfl) rfl (by kernel_rfl) rfl rfl (by kernel_rfl))
                            · refine U.asW (t := 165) (congrArg Value.bool h474) (by kernel_rfl) ?_
                              refine WP.condF (by kernel_rfl) ?_
                              refine WP.skip (by kernel_rfl) ?_
                              refine PO.nx ?_
                              refine WP.reg (by kernel_rfl) ?_
                              refine U.seg 6 [5, 6, 9, 10, 11, 12, 14, 17, 18, 19, 20] [(1, .ld 5), (5, .st 5)] (fun K => (b35 = b35) ∧ ((b35 = b35) ∧ (K [(5, Value.pointer (some ⟨b25, 0, none⟩)), (6, Value.pointer (some ⟨b26, 0, none⟩)), (9, Value.pointer (some ⟨b35, 0, none⟩)), (10, Value.int .i64 (imin x13 (w64 (Int.tdiv x18 x9)))), (11, Value.int .i64 (w64 (x17 - (imax x14 (w64 (2 * x19)))))), (12, Value.int .i64 (w64 (Int.tdiv (w64 (x17 - (imax x14 (w64 (2 * x19))))) 2))), (14, Value.pointer (some ⟨b56, 0, none⟩)), (17, Value.pointer (some ⟨b118, 0, none⟩)), (18, Value.int .i64 (w64 (x450 + 1))), (19, Value.int .i64 x384), (20, Value.pointer (some ⟨b400, 0, none⟩))] ((50, Ent.sl (some ⟨b464, 0, none⟩ : Option Addr) 1 1 90 6 [Value.int .i64 x451, Value.int .i64 x17, Value.int .i64 x18, Value.int .i64 0, Value.int .i64 x19, Value.int .i64 x20]) :: (3, Ent.blk b25 31 [Value.int .i64 x17, Value.int .i64 x18, Value.int .i64 x19, Value.int .i64 x20]) :: (4, Ent.blk b26 37 [Value.slice none 0 0]) :: (5, Ent.blk b35 90 [Value.int .i64 (w64 (x451 + (w64 (x17 - (imax x14 (w64 (2 * x19))))))), Value.int .i64 x17, Value.int .i64 x18, Value.int .i64 0, Value.int .i64 x19, Value.int .i64 x20]) :: (6, Ent.blk b56 42 [Value.int .i64 x115, Value.int .i64 x116]) :: (10, Ent.blk b118 37 [Value.slice a388 (List.length x391) c389]) :: (40, Ent.sl a388 (List.length x391) c389 88 2 s392) :: (42, Ent.blk b400 88 ([Value.int .i64 x384, Value.slice a468 (List.length (x457 ++ [(x451, (x17, (x18, (0, (x19, x20)))))])) c469])) :: (48, Ent.sl a468 (List.length (x457 ++ [(x451, (x17, (x18, (0, (x19, x20)))))])) c469 90 6 (s458 ++ [Value.int .i64 x451, Value.int .i64 x17, Value.int .i64 x18, Value.int .i64 0, Value.int .i64 x19, Value.int .i64 x20])) :: fr)))) (fun K => by kernel_rfl) 6 (by kernel_rfl) ?_
                              refine ⟨rfl, ?_⟩
                              refine ⟨rfl, ?_⟩
                              refine WO.done (by kernel_rfl) ?_
                              refine PO.blk_normal ?_
                              have hq := Option.some.inj H
                              subst hq
                              refine PO.againW ⟨(w64 (x450 + 1)), (w64 (x451 + (w64 (x17 - (imax x14 (w64 (2 * x19))))))), (x457 ++ [(x451, (x17, (x18, (0, (x19, x20)))))]), a468, c469, (s458 ++ [Value.int .i64 x451, Value.int .i64 x17, Value.int .i64 x18, Value.int .i64 0, Value.int .i64 x19, Value.int .i64 x20]), h470, h461, rfl⟩ ?_ (Nat.lt_succ_self _)
                              exact (St.ok.to [5, 6, 9, 10, 11, 12, 14, 17, 18, 19, 20] 9 [(3, 1), (4, 2), (5, 3), (6, 4), (10, 5), (40, 6), (42, 7), (48, 8)] (by kernel_rfl) rfl (by kernel_rfl) rfl rfl (by kernel_rfl))
                        · rintro _ ⟨x490, x491, x497, a494, c495, s498, h496, H, rfl⟩
                          unfold f8_j16 at H
                          refine PO.nx ?_
                          refine WP.seq (by kernel_rfl) ?_
                          refine WP.reg (by kernel_rfl) ?_
                          refine U.seg 3 [5, 6, 9, 10, 11, 12, 14, 17, 18, 19, 172, 173] [(1, .ld 10), (2, .ld 42)] (fun K => (b118 = b118) ∧ ((b400 = b400) ∧ (K [(5, Value.pointer (some ⟨b25, 0, none⟩)), (6, Value.pointer (some ⟨b26, 0, none⟩)), (9, Value.pointer (some ⟨b35, 0, none⟩)), (10, Value.int .i64 (imin x13 (w64 (Int.tdiv x18 x9)))), (11, Value.int .i64 (w64 (x17 - (imax x14 (w64 (2 * x19)))))), (12, Value.int .i64 (w64 (Int.tdiv (w64 (x17 - (imax x14 (w64 (2 * x19))))) 2))), (14, Value.pointer (some ⟨b56, 0, none⟩)), (17, Value.pointer (some ⟨b118, 0, none⟩)), (18, Value.int .i64 x490), (19, Value.int .i64 x384), (172, Value.slice a388 (List.length x391) c389), (173, Value.agg #[Value.int .i64 x384, Value.slice a494 (List.length x497) c495])] ((3, Ent.blk b25 31 [Value.int .i64 x17, Value.int .i64 x18, Value.int .i64 x19, Value.int .i64 x20]) :: (4, Ent.blk b26 37 [Value.slice none 0 0]) :: (5, Ent.blk b35 90 [Value.int .i64 x491, Value.int .i64 x17, Value.int .i64 x18, Value.int .i64 0, Value.int .i64 x19, Value.int .i64 x20]) :: (6, Ent.blk b56 42 [Value.int .i64 x115, Value.int .i64 x116]) :: (10, Ent.blk b118 37 [Value.slice a388 (List.length x391) c389]) :: (40, Ent.sl a388 (List.length x391) c389 88 2 s392) :: (42, Ent.blk b400 88 [Value.int .i64 x384, Value.slice a494 (List.length x497) c495]) :: (53, Ent.sl a494 (List.length x497) c495 90 6 s498) :: fr)))) (fun K => by kernel_rfl) 3 (by kernel_rfl) ?_
                          refine ⟨rfl, ?_⟩
                          refine ⟨rfl, ?_⟩
                          refine U.freeze (dd := (Kd.pair (Kd.int .i64) (Kd.pair (Kd.int .i64) (Kd.pair (Kd.int .i64) (Kd.pair (Kd.int .i64) (Kd.pair (Kd.int .i64) (Kd.int .i64))))))) (t := 53) (a := a494) (n1 := (List.length x497)) (cc := c495) (T := 90) (cs := s498) (by kernel_rfl) h496 rfl (fun g499 h500 h501 => ?_)
                          have h504 : Rw (Kd.pair (Kd.int .i64) (Kd.sl (Kd.pair (Kd.int .i64) (Kd.pair (Kd.int .i64) (Kd.pair (Kd.int .i64) (Kd.pair (Kd.int .i64) (Kd.pair (Kd.int .i64) (Kd.int .i64)))))))) g499 [Value.int .i64 x384, Value.slice a494 (List.length x497) c495] [(x384, x497)] := ⟨[Value.int .i64 x384, Value.slice a494 (List.length x497) c495], [], rfl, ⟨[Value.int .i64 x384], [Value.slice a494 (List.length x497) c495], rfl, rfl, ⟨a494, c495, rfl, h501⟩⟩, rfl⟩
                          refine U.seg 1 [5, 6, 9, 10, 11, 12, 14, 17, 18, 19, 172, 174] [(3, .al 54)] (fun K => ∀ b503 : Nat, K [(5, Value.pointer (some ⟨b25, 0, none⟩)), (6, Value.pointer (some ⟨b26, 0, none⟩)), (9, Value.pointer (some ⟨b35, 0, none⟩)), (10, Value.int .i64 (imin x13 (w64 (Int.tdiv x18 x9)))), (11, Value.int .i64 (w64 (x17 - (imax x14 (w64 (2 * x19)))))), (12, Value.int .i64 (w64 (Int.tdiv (w64 (x17 - (imax x14 (w64 (2 * x19))))) 2))), (14, Value.pointer (some ⟨b56, 0, none⟩)), (17, Value.pointer (some ⟨b118, 0, none⟩)), (18, Value.int .i64 x490), (19, Value.int .i64 x384), (172, Value.slice a388 (List.length x391) c389), (174, Value.slice (some ⟨b503, 0, none⟩ : Option Addr) 1 1)] ((54, Ent.sl (some ⟨b503, 0, none⟩ : Option Addr) 1 1 88 2 [Value.int .i64 x384, Value.slice a494 (List.length x497) c495]) :: (3, Ent.blk b25 31 [Value.int .i64 x17, Value.int .i64 x18, Value.int .i64 x19, Value.int .i64 x20]) :: (4, Ent.blk b26 37 [Value.slice none 0 0]) :: (5, Ent.blk b35 90 [Value.int .i64 x491, Value.int .i64 x17, Value.int .i64 x18, Value.int .i64 0, Value.int .i64 x19, Value.int .i64 x20]) :: (6, Ent.blk b56 42 [Value.int .i64 x115, Value.int .i64 x116]) :: (10, Ent.blk b118 37 [Value.slice a388 (List.length x391) c389]) :: (40, Ent.sl a388 (List.length x391) c389 88 2 s392) :: (42, Ent.blk b400 88 [Value.int .i64 x384, Value.slice a494 (List.length x497) c495]) :: fr)) (fun K => by kernel_rfl) 4 (by kernel_rfl) ?_
                          intro b503
                          obtain ⟨h506, H⟩ := grd_some H
                          have h509 : Rw (Kd.pair (Kd.int .i64) (Kd.sl (Kd.pair (Kd.int .i64) (Kd.pair (Kd.int .i64) (Kd.pair (Kd.int .i64) (Kd.pair (Kd.int .i64) (Kd.pair (Kd.int .i64) (Kd.int .i64)))))))) g499 (s392 ++ [Value.int .i64 x384, Value.slice a494 (List.length x497) c495]) (x391 ++ [(x384, x497)]) := Rw.app (Rw.mono h500 h390) h504
                          refine U.step 5 (by kernel_rfl) (U.append (T := 35) (el := 88) (sz := 2) (dst := some 175) (t := 40) (n1 := (List.length x391)) (m := 1) (a := a388) (cc := c389) (b := (some ⟨b503, 0, none⟩ : Option Addr)) (cc2 := 1) (cs := s392) (news := [Value.int .i64 x384, Value.slice a494 (List.length x497) c495]) (List.length (x391 ++ [(x384, x497)])) (by kernel_rfl) (by kernel_rfl) (by kernel_rfl) (Reads.own (t := 54) (T := 88) (sz := 2) (by kernel_rfl)) (Rw.len h504) (Rw.one h504) (by simp) h506) ?_
                          rintro ⟨a507, c508⟩ _
                          refine U.seg 2 [5, 6, 9, 10, 11, 12, 14, 17, 18, 19] [(6, .st 10)] (fun K => (b118 = b118) ∧ (K [(5, Value.pointer (some ⟨b25, 0, none⟩)), (6, Value.pointer (some ⟨b26, 0, none⟩)), (9, Value.pointer (some ⟨b35, 0, none⟩)), (10, Value.int .i64 (imin x13 (w64 (Int.tdiv x18 x9)))), (11, Value.int .i64 (w64 (x17 - (imax x14 (w64 (2 * x19)))))), (12, Value.int .i64 (w64 (Int.tdiv (w64 (x17 - (imax x14 (w64 (2 * x19))))) 2))), (14, Value.pointer (some ⟨b56, 0, none⟩)), (17, Value.pointer (some ⟨b118, 0, none⟩)), (18, Value.int .i64 x490), (19, Value.int .i64 x384)] ((54, Ent.sl (some ⟨b503, 0, none⟩ : Option Addr) 1 1 88 2 [Value.int .i64 x384, Value.slice a494 (List.length x497) c495]) :: (3, Ent.blk b25 31 [Value.int .i64 x17, Value.int .i64 x18, Value.int .i64 x19, Value.int .i64 x20]) :: (4, Ent.blk b26 37 [Value.slice none 0 0]) :: (5, Ent.blk b35 90 [Value.int .i64 x491, Value.int .i64 x17, Value.int .i64 x18, Value.int .i64 0, Value.int .i64 x19, Value.int .i64 x20]) :: (6, Ent.blk b56 42 [Value.int .i64 x115, Value.int .i64 x116]) :: (10, Ent.blk b118 37 ([Value.slice a507 (List.length (x391 ++ [(x384, x497)])) c508])) :: (40, Ent.sl a507 (List.length (x391 ++ [(x384, x497)])) c508 88 2 (s392 ++ [Value.int .i64 x384, Value.slice a494 (List.length x497) c495])) :: (42, Ent.blk b400 88 [Value.int .i64 x384, Value.slice a494 (List.length x497) c495]) :: fr))) (fun K => by kernel_rfl) 7 (by kernel_rfl) ?_
                          refine ⟨rfl, ?_⟩
                          refine WO.done (by kernel_rfl) ?_
                          refine PO.nx ?_
                          refine WP.seq (by kernel_rfl) ?_
                          refine WP.reg (by kernel_rfl) ?_
                          refine U.seg 4 [5, 6, 9, 10, 11, 12, 14, 17, 18, 19, 180] [(1, .ld 10)] (fun K => (b118 = b118) ∧ (K [(5, Value.pointer (some ⟨b25, 0, none⟩)), (6, Value.pointer (some ⟨b26, 0, none⟩)), (9, Value.pointer (some ⟨b35, 0, none⟩)), (10, Value.int .i64 (imin x13 (w64 (Int.tdiv x18 x9)))), (11, Value.int .i64 (w64 (x17 - (imax x14 (w64 (2 * x19)))))), (12, Value.int .i64 (w64 (Int.tdiv (w64 (x17 - (imax x14 (w64 (2 * x19))))) 2))), (14, Value.pointer (some ⟨b56, 0, none⟩)), (17, Value.pointer (some ⟨b118, 0, none⟩)), (18, Value.int .i64 x490), (19, Value.int .i64 x384), (180, Value.bool (decide (((List.length (x391 ++ [(x384, x497)])) : Int) > 24)))] ((54, Ent.sl (some ⟨b503, 0, none⟩ : Option Addr) 1 1 88 2 [Value.int .i64 x384, Value.slice a494 (List.length x497) c495]) :: (3, Ent.blk b25 31 [Value.int .i64 x17, Value.int .i64 x18, Value.int .i64 x19, Value.int .i64 x20]) :: (4, Ent.blk b26 37 [Value.slice none 0 0]) :: (5, Ent.blk b35 90 [Value.int .i64 x491, Value.int .i64 x17, Value.int .i64 x18, Value.int .i64 0, Value.int .i64 x19, Value.int .i64 x20]) :: (6, Ent.blk b56 42 [Value.int .i64 x115, Value.int .i64 x116]) :: (10, Ent.blk b118 37 ([Value.slice a507 (List.length (x391 ++ [(x384, x497)])) c508])) :: (40, Ent.sl a507 (List.length (x391 ++ [(x384, x497)])) c508 88 2 (s392 ++ [Value.int .i64 x384, Value.slice a494 (List.length x497) c495])) :: (42, Ent.blk b400 88 [Value.int .i64 x384, Value.slice a494 (List.length x497) c495]) :: fr))) (fun K => by kernel_rfl) 4 (by kernel_rfl) ?_
                          refine ⟨rfl, ?_⟩
                          refine WO.done (by kernel_rfl) ?_
                          refine PO.nx ?_
                          rcases cond_some H with ⟨h511, H⟩ | ⟨h511, H⟩
                          · refine U.asW (t := 180) (congrArg Value.bool h511) (by kernel_rfl) ?_
                            refine WP.condT (by kernel_rfl) ?_
                            refine WP.seq (by kernel_rfl) ?_
                            refine WP.reg (by kernel_rfl) ?_
                            refine U.seg 3 [6, 7] [(1, .st 4)] (fun K => (b26 = b26) ∧ (K [(6, Value.pointer (some ⟨b26, 0, none⟩)), (7, Value.int .i64 3)] ((54, Ent.sl (some ⟨b503, 0, none⟩ : Option Addr) 1 1 88 2 [Value.int .i64 x384, Value.slice a494 (List.length x497) c495]) :: (3, Ent.blk b25 31 [Value.int .i64 x17, Value.int .i64 x18, Value.int .i64 x19, Value.int .i64 x20]) :: (4, Ent.blk b26 37 [Value.slice none 0 0]) :: (5, Ent.blk b35 90 [Value.int .i64 x491, Value.int .i64 x17, Value.int .i64 x18, Value.int .i64 0, Value.int .i64 x19, Value.int .i64 x20]) :: (6, Ent.blk b56 42 [Value.int .i64 x115, Value.int .i64 x116]) :: (10, Ent.blk b118 37 ([Value.slice a507 (List.length (x391 ++ [(x384, x497)])) c508])) :: (40, Ent.sl a507 (List.length (x391 ++ [(x384, x497)])) c508 88 2 (s392 ++ [Value.int .i64 x384, Value.slice a494 (List.length x497) c495])) :: (42, Ent.blk b400 88 [Value.int .i64 x384, Value.slice a494 (List.length x497) c495]) :: fr))) (fun K => by kernel_rfl) 3 (by kernel_rfl) ?_
                            refine ⟨rfl, ?_⟩
                            refine WO.done (by kernel_rfl) ?_
                            refine PO.nx ?_
                            refine WP.ret (by kernel_rfl) ?_
                            refine PO.blk_ret ?_
                            refine PO.nx_ret ?_
                            refine PO.lp_ret ?_
                            refine PO.blk_ret ?_
                            refine PO.jn_ret ?_
                            refine PO.nx_ret ?_
                            have hq := Option.some.inj H
                            subst hq
                            have H := h396
                            rw [← (show _ = o393 from h395)] at H
                            have H : some ([], 3) = some r := H
                            have hr := Option.some.inj H
                            subst hr
                            refine PO.body [Value.agg #[Value.slice none 0 0], Value.int .i64 3] ((54, Ent.sl (some ⟨b503, 0, none⟩ : Option Addr) 1 1 88 2 [Value.int .i64 x384, Value.slice a494 (List.length x497) c495]) :: (3, Ent.blk b25 31 [Value.int .i64 x17, Value.int .i64 x18, Value.int .i64 x19, Value.int .i64 x20]) :: (4, Ent.blk b26 37 [Value.slice none 0 0]) :: (5, Ent.blk b35 90 [Value.int .i64 x491, Value.int .i64 x17, Value.int .i64 x18, Value.int .i64 0, Value.int .i64 x19, Value.int .i64 x20]) :: (6, Ent.blk b56 42 [Value.int .i64 x115, Value.int .i64 x116]) :: (10, Ent.blk b118 37 ([Value.slice a507 (List.length (x391 ++ [(x384, x497)])) c508])) :: (40, Ent.sl a507 (List.length (x391 ++ [(x384, x497)])) c508 88 2 (s392 ++ [Value.int .i64 x384, Value.slice a494 (List.length x497) c495])) :: (42, Ent.blk b400 88 [Value.int .i64 x384, Value.slice a494 (List.length x497) c495]) :: fr) rfl (Res.cell b26 0 4 (Ent.blk b26 37 [Value.slice none 0 0]) [Value.slice none 0 0] true 1 (by kernel_rfl) (by kernel_rfl) (by kernel_rfl) (by kernel_rfl) (by kernel_rfl) (OwnRead.agg rfl rfl) (Res.tmp (by kernel_rfl) Res.nil)) ?_
                            exact fun w hw => Ret.mk (g499, none, 0) ⟨(GH.le_trans h382 h500), Sl.nil'⟩ rfl (okNT 8 [] (by kernel_rfl) rfl hw)
                          · refine U.asW (t := 180) (congrArg Value.bool h511) (by kernel_rfl) ?_
                            refine WP.condF (by kernel_rfl) ?_
                            refine WP.skip (by kernel_rfl) ?_
                            refine PO.blk_normal ?_
                            refine PO.nx ?_
                            refine WP.reg (by kernel_rfl) ?_
                            refine U.seg 4 [5, 6, 9, 10, 11, 12, 14, 17, 18, 19] [] (fun K => K [(5, Value.pointer (some ⟨b25, 0, none⟩)), (6, Value.pointer (some ⟨b26, 0, none⟩)), (9, Value.pointer (some ⟨b35, 0, none⟩)), (10, Value.int .i64 (imin x13 (w64 (Int.tdiv x18 x9)))), (11, Value.int .i64 (w64 (x17 - (imax x14 (w64 (2 * x19)))))), (12, Value.int .i64 (w64 (Int.tdiv (w64 (x17 - (imax x14 (w64 (2 * x19))))) 2))), (14, Value.pointer (some ⟨b56, 0, none⟩)), (17, Value.pointer (some ⟨b118, 0, none⟩)), (18, Value.int .i64 x490), (19, Value.int .i64 (w64 (x384 + (imin x13 (w64 (Int.tdiv x18 x9))))))] ((54, Ent.sl (some ⟨b503, 0, none⟩ : Option Addr) 1 1 88 2 [Value.int .i64 x384, Value.slice a494 (List.length x497) c495]) :: (3, Ent.blk b25 31 [Value.int .i64 x17, Value.int .i64 x18, Value.int .i64 x19, Value.int .i64 x20]) :: (4, Ent.blk b26 37 [Value.slice none 0 0]) :: (5, Ent.blk b35 90 [Value.int .i64 x491, Value.int .i64 x17, Value.int .i64 x18, Value.int .i64 0, Value.int .i64 x19, Value.int .i64 x20]) :: (6, Ent.blk b56 42 [Value.int .i64 x115, Value.int .i64 x116]) :: (10, Ent.blk b118 37 ([Value.slice a507 (List.length (x391 ++ [(x384, x497)])) c508])) :: (40, Ent.sl a507 (List.length (x391 ++ [(x384, x497)])) c508 88 2 (s392 ++ [Value.int .i64 x384, Value.slice a494 (List.length x497) c495])) :: (42, Ent.blk b400 88 [Value.int .i64 x384, Value.slice a494 (List.length x497) c495]) :: fr)) (fun K => by kernel_rfl) 4 (by kernel_rfl) ?_
                            refine WO.done (by kernel_rfl) ?_
                            have hq := Option.some.inj H
                            subst hq
                            refine PO.againW ⟨x490, (w64 (x384 + (imin x13 (w64 (Int.tdiv x18 x9))))), x491, (x391 ++ [(x384, x497)]), g499, a507, c508, (s392 ++ [Value.int .i64 x384, Value.slice a494 (List.length x497) c495]), (GH.le_trans h382 h500), h509, h395, rfl⟩ ?_ (Nat.lt_succ_self _)
                            exact (St.ok.to [5, 6, 9, 10, 11, 12, 14, 17, 18, 19] 8 [(3, 1), (4, 2), (5, 3), (6, 4), (10, 5), (40, 6)] (by kernel_rfl) rfl (by kernel_rfl) rfl rfl (by kernel_rfl))
                    · refine U.asW (t := 122) (congrArg Value.bool h398) (by kernel_rfl) ?_
                      refine WP.condF (by kernel_rfl) ?_
                      refine WP.exit (id := 2) (by kernel_rfl) ?_
                      refine PO.nx_exit ?_
                      refine PO.lp_exit ?_
                      refine PO.blk_exit ?_
                      have hq := Option.some.inj H
                      subst hq
                      have H := h396
                      rw [← (show _ = o393 from h395)] at H
                      have H : f8_j17 kk x391 = some r := H
                      refine PO.jn ⟨x391, g381, a388, c389, s392, h382, h390, H, rfl⟩ ?_
                      exact (St.ok.to [6, 17] 6 [(4, 1), (10, 4), (57, 5)] (by kernel_rfl) rfl (by kernel_rfl) rfl rfl (by kernel_rfl))
                  · rintro _ ⟨x538, g531, a535, c536, s539, h532, h537, H, rfl⟩
                    unfold f8_j17 at H
                    refine PO.nx ?_
                    refine WP.seq (by kernel_rfl) ?_
                    refine WP.reg (by kernel_rfl) ?_
                    refine U.seg 3 [6, 7] [(0, .ld 10), (1, .st 4)] (fun K => (b118 = b118) ∧ ((b26 = b26) ∧ (K [(6, Value.pointer (some ⟨b26, 0, none⟩)), (7, Value.int .i64 0)] ((4, Ent.blk b26 37 [Value.slice a535 (List.length x538) c536]) :: (10, Ent.blk b118 37 [Value.slice a535 (List.length x538) c536]) :: (57, Ent.sl a535 (List.length x538) c536 88 2 s539) :: fr)))) (fun K => by kernel_rfl) 3 (by kernel_rfl) ?_
                    refine ⟨rfl, ?_⟩
                    refine ⟨rfl, ?_⟩
                    refine WO.done (by kernel_rfl) ?_
                    refine PO.nx ?_
                    refine WP.ret (by kernel_rfl) ?_
                    refine U.freezeP (dd := (Kd.pair (Kd.int .i64) (Kd.sl (Kd.pair (Kd.int .i64) (Kd.pair (Kd.int .i64) (Kd.pair (Kd.int .i64) (Kd.pair (Kd.int .i64) (Kd.pair (Kd.int .i64) (Kd.int .i64))))))))) (t := 57) (a := a535) (n1 := (List.length x538)) (cc := c536) (T := 88) (cs := s539) (by kernel_rfl) h537 rfl (fun g540 h541 h542 => ?_)
                    have hr := Option.some.inj H
                    subst hr
                    refine PO.body [Value.agg #[Value.slice a535 (List.length x538) c536], Value.int .i64 0] ((4, Ent.blk b26 37 [Value.slice a535 (List.length x538) c536]) :: (10, Ent.blk b118 37 [Value.slice a535 (List.length x538) c536]) :: fr) rfl (Res.cell b26 0 4 (Ent.blk b26 37 [Value.slice a535 (List.length x538) c536]) [Value.slice a535 (List.length x538) c536] true 1 (by kernel_rfl) (by kernel_rfl) (by kernel_rfl) (by kernel_rfl) (by kernel_rfl) (OwnRead.agg rfl rfl) (Res.tmp (by kernel_rfl) Res.nil)) ?_
                    exact fun w hw => Ret.mk (g540, a535, c536) ⟨(GH.le_trans h532 h541), h542⟩ rfl (okNT 2 [] (by kernel_rfl) rfl hw)

set_option maxRecDepth 100000 in
theorem c_f35 (kk : Nat) (x1 : Int) {g : GH} {r : Bool} (H : m_f35 kk x1 = some r) {fr : Hs} {w : World} (hw : Ok g (fr) w) :
    Calls Try.prog 35 (List.toArray [Value.int .i64 x1]) w (Ret (fun _ : Unit => True) (fun _ => Value.bool r) (fun _ => g) (fun _ => (fr))) := by
  refine fn_wp (args := [Value.int .i64 x1]) (c := C_35) Try.func35 (by kernel_rfl) Try.ntmps35 (by kernel_rfl) ?_ hw
  unfold m_f35 at H
  refine WP.seq (by kernel_rfl) ?_
  refine WP.reg (by kernel_rfl) ?_
  refine U.seg 1 [0] [] (fun K => K [(0, Value.int .i64 x1)] (fr)) (fun K => by kernel_rfl) 1 (by kernel_rfl) ?_
  refine WO.done (by kernel_rfl) ?_
  refine PO.nx ?_
  refine WP.seq (by kernel_rfl) ?_
  refine WP.reg (by kernel_rfl) ?_
  refine U.seg 3 [2] [] (fun K => K [(2, Value.bool (decide (x1 > 0)))] (fr)) (fun K => by kernel_rfl) 3 (by kernel_rfl) ?_
  refine WO.done (by kernel_rfl) ?_
  refine PO.nx ?_
  refine WP.ret (by kernel_rfl) ?_
  have hr := Option.some.inj H
  subst hr
  refine PO.body [Value.bool (decide (x1 > 0))] (fr) rfl (Res.tmp (by kernel_rfl) Res.nil) ?_
  exact fun w hw => Ret.mk () trivial rfl (okNT 0 [] (by kernel_rfl) rfl hw)

set_option maxRecDepth 100000 in
theorem c_f34 (kk : Nat) (x2 : (List Int)) (a3 : Option Addr) (c4 : Nat) (s5 : List Value) {g : GH} (h6 : Rw (Kd.int .i64) g s5 x2) {r : Int} (H : m_f34 kk x2 = some r) {fr : Hs} {w : World} (hw : Ok g ((1, Ent.sl a3 (List.length x2) c4 112 1 s5) :: fr) w) :
    Calls Try.prog 34 (List.toArray [Value.slice a3 (List.length x2) c4, Value.func (.func 35) #[] #[]]) w (Ret (fun _ : Unit => True) (fun _ => Value.int .i64 r) (fun _ => g) (fun _ => ((1, Ent.sl a3 (List.length x2) c4 112 1 s5) :: fr))) := by
  refine fn_wp (args := [Value.slice a3 (List.length x2) c4, Value.func (.func 35) #[] #[]]) (c := C_34) Try.func34 (by kernel_rfl) Try.ntmps34 (by kernel_rfl) ?_ hw
  unfold m_f34 at H
  refine WP.seq (by kernel_rfl) ?_
  refine WP.reg (by kernel_rfl) ?_
  refine U.seg 1 [0, 1] [] (fun K => K [(0, Value.slice a3 (List.length x2) c4), (1, Value.func (.func 35) #[] #[])] ((1, Ent.sl a3 (List.length x2) c4 112 1 s5) :: fr)) (fun K => by kernel_rfl) 1 (by kernel_rfl) ?_
  refine WO.done (by kernel_rfl) ?_
  refine PO.nx ?_
  refine WP.seq (by kernel_rfl) ?_
  refine WP.seq (by kernel_rfl) ?_
  refine WP.reg (by kernel_rfl) ?_
  refine U.seg 3 [0, 1, 7, 8] [] (fun K => K [(0, Value.slice a3 (List.length x2) c4), (1, Value.func (.func 35) #[] #[]), (7, Value.int .i64 ((List.length x2) : Int)), (8, Value.int .i64 0)] ((1, Ent.sl a3 (List.length x2) c4 112 1 s5) :: fr)) (fun K => by kernel_rfl) 3 (by kernel_rfl) ?_
  refine WO.done (by kernel_rfl) ?_
  refine PO.nx ?_
  refine WP.join (fun s => f34_j2 kk = some r ∧ s = { n := 19, e := [], d := [], g := g, h := ((1, Ent.sl a3 (List.length x2) c4 112 1 s5) :: fr) }) ?_ ?_
  · refine WP.block (id := 0) (by kernel_rfl) ?_
    obtain ⟨o41, h63, h44⟩ := bnd_some H
    refine WP.loopW (by kernel_rfl) (fun n s => ∃ (x40 : Int), iter (fun y : Int => f34_l1 kk y x2) n x40 = some o41 ∧ s = { n := 19, e := [(0, Value.slice a3 (List.length x2) c4), (1, Value.func (.func 35) #[] #[]), (7, Value.int .i64 ((List.length x2) : Int)), (8, Value.int .i64 x40)], d := [], g := g, h := ((1, Ent.sl a3 (List.length x2) c4 112 1 s5) :: fr) }) (k := kk) ⟨0, h63, rfl⟩ (St.ok.to [0, 1, 7, 8] 1 [(1, 0)] (by kernel_rfl) rfl (by kernel_rfl) rfl rfl (by kernel_rfl)) ?_
    intro n58 s
    rintro ⟨x40, h59, rfl⟩
    obtain ⟨n45, q42, h61, h62, h43⟩ := iter_some h59
    subst h61
    have H : f34_l1 kk x40 x2 = some q42 := h62
    unfold f34_l1 at H
    refine WP.seq (by kernel_rfl) ?_
    refine WP.reg (by kernel_rfl) ?_
    refine U.seg 1 [0, 1, 7, 8, 9] [] (fun K => K [(0, Value.slice a3 (List.length x2) c4), (1, Value.func (.func 35) #[] #[]), (7, Value.int .i64 ((List.length x2) : Int)), (8, Value.int .i64 x40), (9, Value.bool (decide (x40 < ((List.length x2) : Int))))] ((1, Ent.sl a3 (List.length x2) c4 112 1 s5) :: fr)) (fun K => by kernel_rfl) 1 (by kernel_rfl) ?_
    refine WO.done (by kernel_rfl) ?_
    refine PO.nx ?_
    refine WP.seq (by kernel_rfl) ?_
    rcases cond_some H with ⟨h46, H⟩ | ⟨h46, H⟩
    · refine U.asW (t := 9) (congrArg Value.bool h46) (by kernel_rfl) ?_
      refine WP.condT (by kernel_rfl) ?_
      refine WP.skip (by kernel_rfl) ?_
      refine PO.nx ?_
      refine WP.seq (by kernel_rfl) ?_
      refine WP.block (id := 1) (by kernel_rfl) ?_
      refine WP.seq (by kernel_rfl) ?_
      refine WP.reg (by kernel_rfl) ?_
      refine U.seg 2 [0, 1, 5, 7, 8] [] (fun K => K [(0, Value.slice a3 (List.length x2) c4), (1, Value.func (.func 35) #[] #[]), (5, Value.int .i64 x40), (7, Value.int .i64 ((List.length x2) : Int)), (8, Value.int .i64 x40)] ((1, Ent.sl a3 (List.length x2) c4 112 1 s5) :: fr)) (fun K => by kernel_rfl) 2 (by kernel_rfl) ?_
      refine WO.done (by kernel_rfl) ?_
      refine PO.nx ?_
      refine WP.seq (by kernel_rfl) ?_
      refine WP.reg (by kernel_rfl) ?_
      obtain ⟨x47, h48, H⟩ := bnd_some H
      obtain ⟨h49, s50, h51, h52, h53⟩ := Rw.elt (d := (Kd.int .i64)) h6 h48
      obtain rfl := h51
      refine U.seg 5 [0, 1, 5, 7, 8, 11, 15] [(3, .o 1), (4, .lv 1 (Value.int .i64 x47))] (fun K => ((0 : Int) ≤ x40 ∧ x40 < ((List.length x2) : Nat) ∧ a3 = a3 ∧ (List.length x2) = (List.length x2)) ∧ ((ab a3 = ab a3 ∧ OwnRead s5 ((Int.toNat (x40)) * 1) false 1 (Value.int .i64 x47)) ∧ (K [(0, Value.slice a3 (List.length x2) c4), (1, Value.func (.func 35) #[] #[]), (5, Value.int .i64 x40), (7, Value.int .i64 ((List.length x2) : Int)), (8, Value.int .i64 x40), (11, Value.func (.func 35) #[] #[]), (15, Value.int .i64 x47)] ((1, Ent.sl a3 (List.length x2) c4 112 1 s5) :: fr)))) (fun K => by kernel_rfl) 5 (by kernel_rfl) ?_
      refine ⟨⟨h49.1, h49.2, rfl, rfl⟩, ?_⟩
      refine ⟨⟨rfl, h52 0 _ _ _ (OwnRead.one rfl)⟩, ?_⟩
      obtain ⟨x54, h55, H⟩ := bnd_some H
      refine U.step 6 (by kernel_rfl) (U.call (dst := some 16) (fun w hw => c_f35 kk x47 h55 hw) (by kernel_rfl) (enters_of Try.func35 (by kernel_rfl) rfl)) ?_
      rintro _ _
      refine WO.done (by kernel_rfl) ?_
      refine PO.nx ?_
      rcases cond_some H with ⟨h56, H⟩ | ⟨h56, H⟩
      · refine U.asW (t := 16) (congrArg Value.bool h56) (by kernel_rfl) ?_
        refine WP.condT (by kernel_rfl) ?_
        refine WP.seq (by kernel_rfl) ?_
        refine WP.reg (by kernel_rfl) ?_
        refine U.seg 2 [4] [] (fun K => K [(4, Value.int .i64 x40)] ((1, Ent.sl a3 (List.length x2) c4 112 1 s5) :: fr)) (fun K => by kernel_rfl) 2 (by kernel_rfl) ?_
        refine WO.done (by kernel_rfl) ?_
        refine PO.nx ?_
        refine WP.ret (by kernel_rfl) ?_
        refine PO.blk_ret ?_
        refine PO.nx_ret ?_
        refine PO.lp_ret ?_
        refine PO.blk_ret ?_
        refine PO.jn_ret ?_
        refine PO.nx_ret ?_
        have hq := Option.some.inj H
        subst hq
        have H := h44
        rw [← (show _ = o41 from h43)] at H
        have H : some x40 = some r := H
        have hr := Option.some.inj H
        subst hr
        refine PO.body [Value.int .i64 x40] ((1, Ent.sl a3 (List.length x2) c4 112 1 s5) :: fr) rfl (Res.tmp (by kernel_rfl) Res.nil) ?_
        exact fun w hw => Ret.mk () trivial rfl (okNT 1 [(1, 0)] (by kernel_rfl) rfl hw)
      · refine U.asW (t := 16) (congrArg Value.bool h56) (by kernel_rfl) ?_
        refine WP.condF (by kernel_rfl) ?_
        refine WP.skip (by kernel_rfl) ?_
        refine PO.blk_normal ?_
        refine PO.nx ?_
        refine WP.reg (by kernel_rfl) ?_
        refine U.seg 2 [0, 1, 7, 8] [] (fun K => K [(0, Value.slice a3 (List.length x2) c4), (1, Value.func (.func 35) #[] #[]), (7, Value.int .i64 ((List.length x2) : Int)), (8, Value.int .i64 (w64 (x40 + 1)))] ((1, Ent.sl a3 (List.length x2) c4 112 1 s5) :: fr)) (fun K => by kernel_rfl) 2 (by kernel_rfl) ?_
        refine WO.done (by kernel_rfl) ?_
        have hq := Option.some.inj H
        subst hq
        refine PO.againW ⟨(w64 (x40 + 1)), h43, rfl⟩ ?_ (Nat.lt_succ_self _)
        exact (St.ok.to [0, 1, 7, 8] 1 [(1, 0)] (by kernel_rfl) rfl (by kernel_rfl) rfl rfl (by kernel_rfl))
    · refine U.asW (t := 9) (congrArg Value.bool h46) (by kernel_rfl) ?_
      refine WP.condF (by kernel_rfl) ?_
      refine WP.exit (id := 0) (by kernel_rfl) ?_
      refine PO.nx_exit ?_
      refine PO.lp_exit ?_
      refine PO.blk_exit ?_
      have hq := Option.some.inj H
      subst hq
      have H := h44
      rw [← (show _ = o41 from h43)] at H
      have H : f34_j2 kk = some r := H
      refine PO.jn ⟨H, rfl⟩ ?_
      exact (St.ok.to [] 1 [(1, 0)] (by kernel_rfl) rfl (by kernel_rfl) rfl rfl (by kernel_rfl))
  · rintro _ ⟨H, rfl⟩
    unfold f34_j2 at H
    refine PO.nx ?_
    refine WP.seq (by kernel_rfl) ?_
    refine WP.reg (by kernel_rfl) ?_
    refine U.seg 1 [4] [] (fun K => K [(4, Value.int .i64 (-1))] ((1, Ent.sl a3 (List.length x2) c4 112 1 s5) :: fr)) (fun K => by kernel_rfl) 1 (by kernel_rfl) ?_
    refine WO.done (by kernel_rfl) ?_
    refine PO.nx ?_
    refine WP.ret (by kernel_rfl) ?_
    have hr := Option.some.inj H
    subst hr
    refine PO.body [Value.int .i64 (-1)] ((1, Ent.sl a3 (List.length x2) c4 112 1 s5) :: fr) rfl (Res.tmp (by kernel_rfl) Res.nil) ?_
    exact fun w hw => Ret.mk () trivial rfl (okNT 1 [(1, 0)] (by kernel_rfl) rfl hw)

set_option maxRecDepth 100000 in
theorem c_f33r0 (kk : Nat) (F_f37 : (List Int) → Int → Int → (List (Int × Int)) → (List ((List Int) × ((List Int) × Int))) → Option ((List Int) × Int × (List ((List Int) × ((List Int) × Int))))) (hF_f37 : S_f37 F_f37) (x9 : (List Int)) (x13 : (List Int)) (x14 : Int) (x15 : (List Int)) (x16 : Int) (x17 : (List ((List Int) × ((List Int) × Int)))) (x18 : Int) (x19 : Int) (x20 : (List (Int × Int))) (b1 : Nat) (b2 : Nat) (b3 : Nat) (b4 : Nat) (b5 : Nat) (b6 : Nat) (b7 : Nat) (b8 : Nat) (b10 : Nat) (T11 : Array Value) (b12 : Nat) (a21 : Option Addr) (c22 : Nat) {g : GH} (h24 : x9.length = 8) (h25 : EnvA 53 [(2, Value.pointer (some ⟨b2, 0, none⟩)), (3, Value.pointer (some ⟨b3, 0, none⟩)), (4, Value.pointer (some ⟨b4, 0, none⟩)), (6, Value.pointer (some ⟨b5, 0, none⟩)), (7, Value.pointer (some ⟨b6, 0, none⟩))] T11) (h26 : x13.length = 8) (h27 : x15.length = 8) (h28 : Sl (Kd.pair (Kd.int .i64) (Kd.int .i64)) g a21 (List.length x20) c22 x20) {r : (Bool × (List Int) × Int × (List ((List Int) × ((List Int) × Int))))} (H : m_f33r0 kk F_f37 x9 x13 x14 x15 x16 x17 x18 x19 x20 = some r) {fr : Hs} {w : World} (hw : Ok g ((1, Ent.ob b1 (.loop (lrec b10 T11 #[22] (C_33.r.r.r.r.l.r.l.l) (C_33.r.r.r.r.l.r.l.r) b12 [] 0))) :: (2, Ent.blk b2 109 [Value.map (some b7)]) :: (3, Ent.blk b3 110 ([Value.func (.func 33) #[] #[Value.pointer (some ⟨b8, 0, none⟩), Value.pointer (some ⟨b2, 0, none⟩), Value.pointer (some ⟨b3, 0, none⟩)]])) :: (4, Ent.blk b4 112 (arrC 8 .i64 x13)) :: (5, Ent.blk b5 3 [Value.int .i64 x14]) :: (6, Ent.blk b6 114 (arrC 8 .i64 x15 ++ [Value.int .i64 x16])) :: (7, Ent.mp b7 (mpE ek_112 ev_114 x17)) :: (8, Ent.blk b8 47 [Value.int .i64 x18, Value.int .i64 x19, Value.slice a21 (List.length x20) c22]) :: fr) w) :
    RoundC Try.prog b1 b10 (((#[22] : Array Tmp).zip (List.toArray [Value.agg ((arrC 8 .i64 x9)).toArray])).foldl (fun T (t, v) => T.setIfInBounds t v) T11) (C_33.r.r.r.r.l.r.l.l) (C_33.r.r.r.r.l.r.l.r) w (Ret (fun _ : Unit => List.length r.2.1 = 8) (fun _ => Value.bool r.1) (fun _ => g) (fun _ => ((1, Ent.ob b1 (.loop (lrec b10 T11 #[22] (C_33.r.r.r.r.l.r.l.l) (C_33.r.r.r.r.l.r.l.r) b12 [] 0))) :: (2, Ent.blk b2 109 [Value.map (some b7)]) :: (3, Ent.blk b3 110 ([Value.func (.func 33) #[] #[Value.pointer (some ⟨b8, 0, none⟩), Value.pointer (some ⟨b2, 0, none⟩), Value.pointer (some ⟨b3, 0, none⟩)]])) :: (4, Ent.blk b4 112 (arrC 8 .i64 x13)) :: (5, Ent.blk b5 3 [Value.int .i64 x14]) :: (6, Ent.blk b6 114 (arrC 8 .i64 r.2.1 ++ [Value.int .i64 r.2.2.1])) :: (7, Ent.mp b7 (mpE ek_112 ev_114 r.2.2.2)) :: (8, Ent.blk b8 47 [Value.int .i64 x18, Value.int .i64 x19, Value.slice a21 (List.length x20) c22]) :: fr))) := by
  unfold m_f33r0 at H
  refine round_wp (args := [Value.agg ((arrC 8 .i64 x9)).toArray]) (e2 := [(22, Value.agg ((arrC 8 .i64 x9)).toArray), (2, Value.pointer (some ⟨b2, 0, none⟩)), (3, Value.pointer (some ⟨b3, 0, none⟩)), (4, Value.pointer (some ⟨b4, 0, none⟩)), (6, Value.pointer (some ⟨b5, 0, none⟩)), (7, Value.pointer (some ⟨b6, 0, none⟩))]) h25 (by kernel_rfl) rfl ?_ hw
  refine WP.reg (by kernel_rfl) ?_
  refine U.seg 2 [2, 3, 4, 6, 7, 8] [(0, .al 9), (1, .st 9)] (fun K => ∀ b29 : Nat, (b29 = b29) ∧ (K [(2, Value.pointer (some ⟨b2, 0, none⟩)), (3, Value.pointer (some ⟨b3, 0, none⟩)), (4, Value.pointer (some ⟨b4, 0, none⟩)), (6, Value.pointer (some ⟨b5, 0, none⟩)), (7, Value.pointer (some ⟨b6, 0, none⟩)), (8, Value.pointer (some ⟨b29, 0, none⟩))] ((9, Ent.blk b29 112 (arrC 8 .i64 x9)) :: (1, Ent.ob b1 (.loop (lrec b10 T11 #[22] (C_33.r.r.r.r.l.r.l.l) (C_33.r.r.r.r.l.r.l.r) b12 [] 0))) :: (2, Ent.blk b2 109 [Value.map (some b7)]) :: (3, Ent.blk b3 110 ([Value.func (.func 33) #[] #[Value.pointer (some ⟨b8, 0, none⟩), Value.pointer (some ⟨b2, 0, none⟩), Value.pointer (some ⟨b3, 0, none⟩)]])) :: (4, Ent.blk b4 112 (arrC 8 .i64 x13)) :: (5, Ent.blk b5 3 [Value.int .i64 x14]) :: (6, Ent.blk b6 114 (arrC 8 .i64 x15 ++ [Value.int .i64 x16])) :: (7, Ent.mp b7 (mpE ek_112 ev_114 x17)) :: (8, Ent.blk b8 47 [Value.int .i64 x18, Value.int .i64 x19, Value.slice a21 (List.length x20) c22]) :: fr))) (fun K => by kernel_rfl) 2 (by kernel_rfl) ?_
  intro b29
  refine ⟨rfl, ?_⟩
  refine WO.done (by kernel_rfl) ?_
  refine PO.rd_begin' (t := 1) (js := []) ((9, Ent.blk b29 112 (arrC 8 .i64 x9)) :: (1, Ent.ob b1 (.loop (lbusy b10 T11 #[22] (C_33.r.r.r.r.l.r.l.l) (C_33.r.r.r.r.l.r.l.r) b12))) :: (2, Ent.blk b2 109 [Value.map (some b7)]) :: (3, Ent.blk b3 110 ([Value.func (.func 33) #[] #[Value.pointer (some ⟨b8, 0, none⟩), Value.pointer (some ⟨b2, 0, none⟩), Value.pointer (some ⟨b3, 0, none⟩)]])) :: (4, Ent.blk b4 112 (arrC 8 .i64 x13)) :: (5, Ent.blk b5 3 [Value.int .i64 x14]) :: (6, Ent.blk b6 114 (arrC 8 .i64 x15 ++ [Value.int .i64 x16])) :: (7, Ent.mp b7 (mpE ek_112 ev_114 x17)) :: (8, Ent.blk b8 47 [Value.int .i64 x18, Value.int .i64 x19, Value.slice a21 (List.length x20) c22]) :: fr) (by kernel_rfl) rfl ?_
  refine WP.join (fun s => ∃ (x80 : (List Int)) (x82 : Int) (x83 : (List ((List Int) × ((List Int) × Int)))), x80.length = 8 ∧ f33r0_j4 kk F_f37 x80 x82 x83 = some r ∧ s = { n := 53, e := [], d := [], g := g, h := ((1, Ent.ob b1 (.loop (lbusy b10 T11 #[22] (C_33.r.r.r.r.l.r.l.l) (C_33.r.r.r.r.l.r.l.r) b12))) :: (2, Ent.blk b2 109 [Value.map (some b7)]) :: (3, Ent.blk b3 110 ([Value.func (.func 33) #[] #[Value.pointer (some ⟨b8, 0, none⟩), Value.pointer (some ⟨b2, 0, none⟩), Value.pointer (some ⟨b3, 0, none⟩)]])) :: (4, Ent.blk b4 112 (arrC 8 .i64 x13)) :: (5, Ent.blk b5 3 [Value.int .i64 x14]) :: (6, Ent.blk b6 114 (arrC 8 .i64 x80 ++ [Value.int .i64 x82])) :: (7, Ent.mp b7 (mpE ek_112 ev_114 x83)) :: (8, Ent.blk b8 47 [Value.int .i64 x18, Value.int .i64 x19, Value.slice a21 (List.length x20) c22]) :: fr) }) ?_ ?_
  · refine WP.block (id := 1) (by kernel_rfl) ?_
    refine WP.seq (by kernel_rfl) ?_
    refine WP.seq (by kernel_rfl) ?_
    refine WP.reg (by kernel_rfl) ?_
    obtain ⟨h30, H⟩ := grd_some H
    refine U.seg 4 [2, 3, 4, 7, 8, 26] [(0, .ld 5), (1, .s), (2, .lv 9 (Value.int .i64 (List.getD x9 (Int.toNat (x14)) 0)))] (fun K => (b5 = b5) ∧ (((0 : Int) ≤ x14 ∧ x14 < ((8 : Nat) : Int) ∧ (⟨b29, 0, none⟩ : Addr).spot = none) ∧ ((b29 = b29 ∧ OwnRead (arrC 8 .i64 x9) (0 + (Int.toNat (x14)) * 1) false 1 (Value.int .i64 (List.getD x9 (Int.toNat (x14)) 0))) ∧ (K [(2, Value.pointer (some ⟨b2, 0, none⟩)), (3, Value.pointer (some ⟨b3, 0, none⟩)), (4, Value.pointer (some ⟨b4, 0, none⟩)), (7, Value.pointer (some ⟨b6, 0, none⟩)), (8, Value.pointer (some ⟨b29, 0, none⟩)), (26, Value.bool ((List.getD x9 (Int.toNat (x14)) 0) == 0))] ((9, Ent.blk b29 112 (arrC 8 .i64 x9)) :: (1, Ent.ob b1 (.loop (lbusy b10 T11 #[22] (C_33.r.r.r.r.l.r.l.l) (C_33.r.r.r.r.l.r.l.r) b12))) :: (2, Ent.blk b2 109 [Value.map (some b7)]) :: (3, Ent.blk b3 110 ([Value.func (.func 33) #[] #[Value.pointer (some ⟨b8, 0, none⟩), Value.pointer (some ⟨b2, 0, none⟩), Value.pointer (some ⟨b3, 0, none⟩)]])) :: (4, Ent.blk b4 112 (arrC 8 .i64 x13)) :: (5, Ent.blk b5 3 [Value.int .i64 x14]) :: (6, Ent.blk b6 114 (arrC 8 .i64 x15 ++ [Value.int .i64 x16])) :: (7, Ent.mp b7 (mpE ek_112 ev_114 x17)) :: (8, Ent.blk b8 47 [Value.int .i64 x18, Value.int .i64 x19, Value.slice a21 (List.length x20) c22]) :: fr))))) (fun K => by kernel_rfl) 4 (by kernel_rfl) ?_
    refine ⟨rfl, ?_⟩
    refine ⟨⟨h30.1, h30.2, rfl⟩, ?_⟩
    refine ⟨⟨rfl, (arr_read (k := .i64) (xs := x9) [] [] h30.1 h30.2 (by simp) rfl)⟩, ?_⟩
    refine WO.done (by kernel_rfl) ?_
    refine PO.nx ?_
    rcases cond_some H with ⟨h31, H⟩ | ⟨h31, H⟩
    · refine U.asW (t := 26) (congrArg Value.bool h31) (by kernel_rfl) ?_
      refine WP.condT (by kernel_rfl) ?_
      refine WP.exit (id := 1) (by kernel_rfl) ?_
      refine PO.nx_exit ?_
      refine PO.blk_exit ?_
      refine PO.jn ⟨x15, x16, x17, h27, H, rfl⟩ ?_
      exact (St.ok.to [] 9 [(1, 1), (2, 2), (3, 3), (4, 4), (5, 5), (6, 6), (7, 7), (8, 8)] (by kernel_rfl) rfl (by kernel_rfl) rfl rfl (by kernel_rfl))
    · refine U.asW (t := 26) (congrArg Value.bool h31) (by kernel_rfl) ?_
      refine WP.condF (by kernel_rfl) ?_
      refine WP.skip (by kernel_rfl) ?_
      refine PO.nx ?_
      refine WP.seq (by kernel_rfl) ?_
      refine WP.reg (by kernel_rfl) ?_
      refine U.seg 3 [2, 3, 7, 8, 9] [(0, .ld 4), (1, .al 10), (2, .st 10)] (fun K => (b4 = b4) ∧ (∀ b32 : Nat, (b32 = b32) ∧ (K [(2, Value.pointer (some ⟨b2, 0, none⟩)), (3, Value.pointer (some ⟨b3, 0, none⟩)), (7, Value.pointer (some ⟨b6, 0, none⟩)), (8, Value.pointer (some ⟨b29, 0, none⟩)), (9, Value.pointer (some ⟨b32, 0, none⟩))] ((10, Ent.blk b32 112 (arrC 8 .i64 x13)) :: (9, Ent.blk b29 112 (arrC 8 .i64 x9)) :: (1, Ent.ob b1 (.loop (lbusy b10 T11 #[22] (C_33.r.r.r.r.l.r.l.l) (C_33.r.r.r.r.l.r.l.r) b12))) :: (2, Ent.blk b2 109 [Value.map (some b7)]) :: (3, Ent.blk b3 110 ([Value.func (.func 33) #[] #[Value.pointer (some ⟨b8, 0, none⟩), Value.pointer (some ⟨b2, 0, none⟩), Value.pointer (some ⟨b3, 0, none⟩)]])) :: (4, Ent.blk b4 112 (arrC 8 .i64 x13)) :: (5, Ent.blk b5 3 [Value.int .i64 x14]) :: (6, Ent.blk b6 114 (arrC 8 .i64 x15 ++ [Value.int .i64 x16])) :: (7, Ent.mp b7 (mpE ek_112 ev_114 x17)) :: (8, Ent.blk b8 47 [Value.int .i64 x18, Value.int .i64 x19, Value.slice a21 (List.length x20) c22]) :: fr)))) (fun K => by kernel_rfl) 3 (by kernel_rfl) ?_
      refine ⟨rfl, ?_⟩
      intro b32
      refine ⟨rfl, ?_⟩
      refine WO.done (by kernel_rfl) ?_
      refine PO.nx ?_
      refine WP.seq (by kernel_rfl) ?_
      refine WP.seq (by kernel_rfl) ?_
      refine WP.reg (by kernel_rfl) ?_
      refine U.seg 2 [2, 3, 7, 8, 9, 28, 29] [(0, .ld 9)] (fun K => (b29 = b29) ∧ (K [(2, Value.pointer (some ⟨b2, 0, none⟩)), (3, Value.pointer (some ⟨b3, 0, none⟩)), (7, Value.pointer (some ⟨b6, 0, none⟩)), (8, Value.pointer (some ⟨b29, 0, none⟩)), (9, Value.pointer (some ⟨b32, 0, none⟩)), (28, Value.agg ((arrC 8 .i64 x9)).toArray), (29, Value.int .i64 0)] ((10, Ent.blk b32 112 (arrC 8 .i64 x13)) :: (9, Ent.blk b29 112 (arrC 8 .i64 x9)) :: (1, Ent.ob b1 (.loop (lbusy b10 T11 #[22] (C_33.r.r.r.r.l.r.l.l) (C_33.r.r.r.r.l.r.l.r) b12))) :: (2, Ent.blk b2 109 [Value.map (some b7)]) :: (3, Ent.blk b3 110 ([Value.func (.func 33) #[] #[Value.pointer (some ⟨b8, 0, none⟩), Value.pointer (some ⟨b2, 0, none⟩), Value.pointer (some ⟨b3, 0, none⟩)]])) :: (4, Ent.blk b4 112 (arrC 8 .i64 x13)) :: (5, Ent.blk b5 3 [Value.int .i64 x14]) :: (6, Ent.blk b6 114 (arrC 8 .i64 x15 ++ [Value.int .i64 x16])) :: (7, Ent.mp b7 (mpE ek_112 ev_114 x17)) :: (8, Ent.blk b8 47 [Value.int .i64 x18, Value.int .i64 x19, Value.slice a21 (List.length x20) c22]) :: fr))) (fun K => by kernel_rfl) 2 (by kernel_rfl) ?_
      refine ⟨rfl, ?_⟩
      refine WO.done (by kernel_rfl) ?_
      refine PO.nx ?_
      refine WP.join (fun s => ∃ (x70 : (List Int)), x70.length = 8 ∧ f33r0_j2 kk F_f37 x70 x18 x19 x20 x17 x16 x9 x15 = some r ∧ s = { n := 53, e := [(2, Value.pointer (some ⟨b2, 0, none⟩)), (3, Value.pointer (some ⟨b3, 0, none⟩)), (7, Value.pointer (some ⟨b6, 0, none⟩)), (8, Value.pointer (some ⟨b29, 0, none⟩)), (9, Value.pointer (some ⟨b32, 0, none⟩))], d := [], g := g, h := ((1, Ent.ob b1 (.loop (lbusy b10 T11 #[22] (C_33.r.r.r.r.l.r.l.l) (C_33.r.r.r.r.l.r.l.r) b12))) :: (2, Ent.blk b2 109 [Value.map (some b7)]) :: (3, Ent.blk b3 110 ([Value.func (.func 33) #[] #[Value.pointer (some ⟨b8, 0, none⟩), Value.pointer (some ⟨b2, 0, none⟩), Value.pointer (some ⟨b3, 0, none⟩)]])) :: (4, Ent.blk b4 112 (arrC 8 .i64 x13)) :: (5, Ent.blk b5 3 [Value.int .i64 x14]) :: (6, Ent.blk b6 114 (arrC 8 .i64 x15 ++ [Value.int .i64 x16])) :: (7, Ent.mp b7 (mpE ek_112 ev_114 x17)) :: (8, Ent.blk b8 47 [Value.int .i64 x18, Value.int .i64 x19, Value.slice a21 (List.length x20) c22]) :: (9, Ent.blk b29 112 (arrC 8 .i64 x9)) :: (10, Ent.blk b32 112 (arrC 8 .i64 x70)) :: fr) }) ?_ ?_
      · refine WP.block (id := 2) (by kernel_rfl) ?_
        obtain ⟨o54, h69, h57⟩ := bnd_some H
        refine WP.loopW (by kernel_rfl) (fun n s => ∃ (x51 : Int) (x52 : (List Int)), x52.length = 8 ∧ iter (fun y : (Int × (List Int)) => f33r0_l1 kk F_f37 y.1 y.2 x9 x18 x19 x20 x17 x16 x15) n (x51, x52) = some o54 ∧ s = { n := 53, e := [(2, Value.pointer (some ⟨b2, 0, none⟩)), (3, Value.pointer (some ⟨b3, 0, none⟩)), (7, Value.pointer (some ⟨b6, 0, none⟩)), (8, Value.pointer (some ⟨b29, 0, none⟩)), (9, Value.pointer (some ⟨b32, 0, none⟩)), (28, Value.agg ((arrC 8 .i64 x9)).toArray), (29, Value.int .i64 x51)], d := [], g := g, h := ((1, Ent.ob b1 (.loop (lbusy b10 T11 #[22] (C_33.r.r.r.r.l.r.l.l) (C_33.r.r.r.r.l.r.l.r) b12))) :: (2, Ent.blk b2 109 [Value.map (some b7)]) :: (3, Ent.blk b3 110 ([Value.func (.func 33) #[] #[Value.pointer (some ⟨b8, 0, none⟩), Value.pointer (some ⟨b2, 0, none⟩), Value.pointer (some ⟨b3, 0, none⟩)]])) :: (4, Ent.blk b4 112 (arrC 8 .i64 x13)) :: (5, Ent.blk b5 3 [Value.int .i64 x14]) :: (6, Ent.blk b6 114 (arrC 8 .i64 x15 ++ [Value.int .i64 x16])) :: (7, Ent.mp b7 (mpE ek_112 ev_114 x17)) :: (8, Ent.blk b8 47 [Value.int .i64 x18, Value.int .i64 x19, Value.slice a21 (List.length x20) c22]) :: (9, Ent.blk b29 112 (arrC 8 .i64 x9)) :: (10, Ent.blk b32 112 (arrC 8 .i64 x52)) :: fr) }) (k := kk) ⟨0, x13, h26, h69, rfl⟩ (St.ok.to [2, 3, 7, 8, 9, 28, 29] 10 [(1, 2), (2, 3), (3, 4), (4, 5), (5, 6), (6, 7), (7, 8), (8, 9), (9, 1), (10, 0)] (by kernel_rfl) rfl (by kernel_rfl) rfl rfl (by kernel_rfl)) ?_
        intro n64 s
        rintro ⟨x51, x52, h53, h65, rfl⟩
        obtain ⟨n58, q55, h67, h68, h56⟩ := iter_some h65
        subst h67
        have H : f33r0_l1 kk F_f37 x51 x52 x9 x18 x19 x20 x17 x16 x15 = some q55 := h68
        unfold f33r0_l1 at H
        refine WP.seq (by kernel_rfl) ?_
        refine WP.reg (by kernel_rfl) ?_
        refine U.seg 1 [2, 3, 7, 8, 9, 28, 29, 30] [] (fun K => K [(2, Value.pointer (some ⟨b2, 0, none⟩)), (3, Value.pointer (some ⟨b3, 0, none⟩)), (7, Value.pointer (some ⟨b6, 0, none⟩)), (8, Value.pointer (some ⟨b29, 0, none⟩)), (9, Value.pointer (some ⟨b32, 0, none⟩)), (28, Value.agg ((arrC 8 .i64 x9)).toArray), (29, Value.int .i64 x51), (30, Value.bool (decide (x51 < 8)))] ((1, Ent.ob b1 (.loop (lbusy b10 T11 #[22] (C_33.r.r.r.r.l.r.l.l) (C_33.r.r.r.r.l.r.l.r) b12))) :: (2, Ent.blk b2 109 [Value.map (some b7)]) :: (3, Ent.blk b3 110 ([Value.func (.func 33) #[] #[Value.pointer (some ⟨b8, 0, none⟩), Value.pointer (some ⟨b2, 0, none⟩), Value.pointer (some ⟨b3, 0, none⟩)]])) :: (4, Ent.blk b4 112 (arrC 8 .i64 x13)) :: (5, Ent.blk b5 3 [Value.int .i64 x14]) :: (6, Ent.blk b6 114 (arrC 8 .i64 x15 ++ [Value.int .i64 x16])) :: (7, Ent.mp b7 (mpE ek_112 ev_114 x17)) :: (8, Ent.blk b8 47 [Value.int .i64 x18, Value.int .i64 x19, Value.slice a21 (List.length x20) c22]) :: (9, Ent.blk b29 112 (arrC 8 .i64 x9)) :: (10, Ent.blk b32 112 (arrC 8 .i64 x52)) :: fr)) (fun K => by kernel_rfl) 1 (by kernel_rfl) ?_
        refine WO.done (by kernel_rfl) ?_
        refine PO.nx ?_
        refine WP.seq (by kernel_rfl) ?_
        rcases cond_some H with ⟨h59, H⟩ | ⟨h59, H⟩
        · refine U.asW (t := 30) (congrArg Value.bool h59) (by kernel_rfl) ?_
          refine WP.condT (by kernel_rfl) ?_
          refine WP.skip (by kernel_rfl) ?_
          refine PO.nx ?_
          refine WP.seq (by kernel_rfl) ?_
          refine WP.block (id := 3) (by kernel_rfl) ?_
          refine WP.seq (by kernel_rfl) ?_
          refine WP.reg (by kernel_rfl) ?_
          obtain ⟨h60, H⟩ := grd_some H
          refine U.seg 4 [2, 3, 7, 8, 9, 10, 11, 28, 29] [(1, .w (Value.int .i64 (List.getD x9 (Int.toNat (x51)) 0)))] (fun K => ((0 : Int) ≤ x51 ∧ x51 < ((8 : Nat) : Int) ∧ ((arrC 8 .i64 x9))[(Int.toNat (x51))]? = some (Value.int .i64 (List.getD x9 (Int.toNat (x51)) 0))) ∧ (K [(2, Value.pointer (some ⟨b2, 0, none⟩)), (3, Value.pointer (some ⟨b3, 0, none⟩)), (7, Value.pointer (some ⟨b6, 0, none⟩)), (8, Value.pointer (some ⟨b29, 0, none⟩)), (9, Value.pointer (some ⟨b32, 0, none⟩)), (10, Value.int .i64 x51), (11, Value.int .i64 (List.getD x9 (Int.toNat (x51)) 0)), (28, Value.agg ((arrC 8 .i64 x9)).toArray), (29, Value.int .i64 x51)] ((1, Ent.ob b1 (.loop (lbusy b10 T11 #[22] (C_33.r.r.r.r.l.r.l.l) (C_33.r.r.r.r.l.r.l.r) b12))) :: (2, Ent.blk b2 109 [Value.map (some b7)]) :: (3, Ent.blk b3 110 ([Value.func (.func 33) #[] #[Value.pointer (some ⟨b8, 0, none⟩), Value.pointer (some ⟨b2, 0, none⟩), Value.pointer (some ⟨b3, 0, none⟩)]])) :: (4, Ent.blk b4 112 (arrC 8 .i64 x13)) :: (5, Ent.blk b5 3 [Value.int .i64 x14]) :: (6, Ent.blk b6 114 (arrC 8 .i64 x15 ++ [Value.int .i64 x16])) :: (7, Ent.mp b7 (mpE ek_112 ev_114 x17)) :: (8, Ent.blk b8 47 [Value.int .i64 x18, Value.int .i64 x19, Value.slice a21 (List.length x20) c22]) :: (9, Ent.blk b29 112 (arrC 8 .i64 x9)) :: (10, Ent.blk b32 112 (arrC 8 .i64 x52)) :: fr))) (fun K => by kernel_rfl) 4 (by kernel_rfl) ?_
          refine ⟨⟨h60.1, h60.2, arrC_get (by omega)⟩, ?_⟩
          refine WO.done (by kernel_rfl) ?_
          refine PO.nx ?_
          refine WP.reg (by kernel_rfl) ?_
          refine U.seg 7 [2, 3, 7, 8, 9, 28, 29] [(1, .s), (2, .lv 10 (Value.int .i64 (List.getD x52 (Int.toNat (x51)) 0))), (5, .s), (6, .sv 10 (arrC 8 .i64 (setA 8 x52 x51 (w64 ((List.getD x52 (Int.toNat (x51)) 0) - (List.getD x9 (Int.toNat (x51)) 0))))))] (fun K => ((0 : Int) ≤ x51 ∧ x51 < ((8 : Nat) : Int) ∧ (⟨b32, 0, none⟩ : Addr).spot = none) ∧ ((b32 = b32 ∧ OwnRead (arrC 8 .i64 x52) (0 + (Int.toNat (x51)) * 1) false 1 (Value.int .i64 (List.getD x52 (Int.toNat (x51)) 0))) ∧ (((0 : Int) ≤ x51 ∧ x51 < ((8 : Nat) : Int) ∧ (⟨b32, 0, none⟩ : Addr).spot = none) ∧ ((b32 = b32 ∧ [Value.int .i64 (w64 ((List.getD x52 (Int.toNat (x51)) 0) - (List.getD x9 (Int.toNat (x51)) 0)))].length = 1 ∧ 0 + (Int.toNat (x51)) * 1 + [Value.int .i64 (w64 ((List.getD x52 (Int.toNat (x51)) 0) - (List.getD x9 (Int.toNat (x51)) 0)))].length ≤ (arrC 8 .i64 x52).length ∧ (∀ u ∈ [Value.int .i64 (w64 ((List.getD x52 (Int.toNat (x51)) 0) - (List.getD x9 (Int.toNat (x51)) 0)))], u.oneCell' = true) ∧ splice (arrC 8 .i64 x52) (0 + (Int.toNat (x51)) * 1) [Value.int .i64 (w64 ((List.getD x52 (Int.toNat (x51)) 0) - (List.getD x9 (Int.toNat (x51)) 0)))] = (arrC 8 .i64 (setA 8 x52 x51 (w64 ((List.getD x52 (Int.toNat (x51)) 0) - (List.getD x9 (Int.toNat (x51)) 0)))))) ∧ (K [(2, Value.pointer (some ⟨b2, 0, none⟩)), (3, Value.pointer (some ⟨b3, 0, none⟩)), (7, Value.pointer (some ⟨b6, 0, none⟩)), (8, Value.pointer (some ⟨b29, 0, none⟩)), (9, Value.pointer (some ⟨b32, 0, none⟩)), (28, Value.agg ((arrC 8 .i64 x9)).toArray), (29, Value.int .i64 x51)] ((1, Ent.ob b1 (.loop (lbusy b10 T11 #[22] (C_33.r.r.r.r.l.r.l.l) (C_33.r.r.r.r.l.r.l.r) b12))) :: (2, Ent.blk b2 109 [Value.map (some b7)]) :: (3, Ent.blk b3 110 ([Value.func (.func 33) #[] #[Value.pointer (some ⟨b8, 0, none⟩), Value.pointer (some ⟨b2, 0, none⟩), Value.pointer (some ⟨b3, 0, none⟩)]])) :: (4, Ent.blk b4 112 (arrC 8 .i64 x13)) :: (5, Ent.blk b5 3 [Value.int .i64 x14]) :: (6, Ent.blk b6 114 (arrC 8 .i64 x15 ++ [Value.int .i64 x16])) :: (7, Ent.mp b7 (mpE ek_112 ev_114 x17)) :: (8, Ent.blk b8 47 [Value.int .i64 x18, Value.int .i64 x19, Value.slice a21 (List.length x20) c22]) :: (9, Ent.blk b29 112 (arrC 8 .i64 x9)) :: (10, Ent.blk b32 112 (arrC 8 .i64 (setA 8 x52 x51 (w64 ((List.getD x52 (Int.toNat (x51)) 0) - (List.getD x9 (Int.toNat (x51)) 0)))))) :: fr)))))) (fun K => by kernel_rfl) 7 (by kernel_rfl) ?_
          refine ⟨⟨h60.1, h60.2, rfl⟩, ?_⟩
          refine ⟨⟨rfl, (arr_read (k := .i64) (xs := x52) [] [] h60.1 h60.2 (by simp) rfl)⟩, ?_⟩
          refine ⟨⟨h60.1, h60.2, rfl⟩, ?_⟩
          refine ⟨⟨rfl, rfl, arr_put (xs := x52) [] [] h60.1 h60.2 (by simp) (by simp) rfl⟩, ?_⟩
          refine WO.done (by kernel_rfl) ?_
          refine PO.blk_normal ?_
          refine PO.nx ?_
          refine WP.reg (by kernel_rfl) ?_
          refine U.seg 2 [2, 3, 7, 8, 9, 28, 29] [] (fun K => K [(2, Value.pointer (some ⟨b2, 0, none⟩)), (3, Value.pointer (some ⟨b3, 0, none⟩)), (7, Value.pointer (some ⟨b6, 0, none⟩)), (8, Value.pointer (some ⟨b29, 0, none⟩)), (9, Value.pointer (some ⟨b32, 0, none⟩)), (28, Value.agg ((arrC 8 .i64 x9)).toArray), (29, Value.int .i64 (w64 (x51 + 1)))] ((1, Ent.ob b1 (.loop (lbusy b10 T11 #[22] (C_33.r.r.r.r.l.r.l.l) (C_33.r.r.r.r.l.r.l.r) b12))) :: (2, Ent.blk b2 109 [Value.map (some b7)]) :: (3, Ent.blk b3 110 ([Value.func (.func 33) #[] #[Value.pointer (some ⟨b8, 0, none⟩), Value.pointer (some ⟨b2, 0, none⟩), Value.pointer (some ⟨b3, 0, none⟩)]])) :: (4, Ent.blk b4 112 (arrC 8 .i64 x13)) :: (5, Ent.blk b5 3 [Value.int .i64 x14]) :: (6, Ent.blk b6 114 (arrC 8 .i64 x15 ++ [Value.int .i64 x16])) :: (7, Ent.mp b7 (mpE ek_112 ev_114 x17)) :: (8, Ent.blk b8 47 [Value.int .i64 x18, Value.int .i64 x19, Value.slice a21 (List.length x20) c22]) :: (9, Ent.blk b29 112 (arrC 8 .i64 x9)) :: (10, Ent.blk b32 112 (arrC 8 .i64 (setA 8 x52 x51 (w64 ((List.getD x52 (Int.toNat (x51)) 0) - (List.getD x9 (Int.toNat (x51)) 0)))))) :: fr)) (fun K => by kernel_rfl) 2 (by kernel_rfl) ?_
          refine WO.done (by kernel_rfl) ?_
          have hq := Option.some.inj H
          subst hq
          refine PO.againW ⟨(w64 (x51 + 1)), (setA 8 x52 x51 (w64 ((List.getD x52 (Int.toNat (x51)) 0) - (List.getD x9 (Int.toNat (x51)) 0)))), (by simp [setA]), h56, rfl⟩ ?_ (Nat.lt_succ_self _)
          exact (St.ok.to [2, 3, 7, 8, 9, 28, 29] 10 [(1, 0), (2, 1), (3, 2), (4, 3), (5, 4), (6, 5), (7, 6), (8, 7), (9, 8), (10, 9)] (by kernel_rfl) rfl (by kernel_rfl) rfl rfl (by kernel_rfl))
        · refine U.asW (t := 30) (congrArg Value.bool h59) (by kernel_rfl) ?_
          refine WP.condF (by kernel_rfl) ?_
          refine WP.exit (id := 2) (by kernel_rfl) ?_
          refine PO.nx_exit ?_
          refine PO.lp_exit ?_
          refine PO.blk_exit ?_
          have hq := Option.some.inj H
          subst hq
          have H := h57
          rw [← (show _ = o54 from h56)] at H
          have H : f33r0_j2 kk F_f37 x52 x18 x19 x20 x17 x16 x9 x15 = some r := H
          refine PO.jn ⟨x52, h53, H, rfl⟩ ?_
          exact (St.ok.to [2, 3, 7, 8, 9] 10 [(1, 0), (2, 1), (3, 2), (4, 3), (5, 4), (6, 5), (7, 6), (8, 7), (9, 8), (10, 9)] (by kernel_rfl) rfl (by kernel_rfl) rfl rfl (by kernel_rfl))
      · rintro _ ⟨x70, h71, H, rfl⟩
        unfold f33r0_j2 at H
        refine PO.nx ?_
        refine WP.seq (by kernel_rfl) ?_
        refine WP.reg (by kernel_rfl) ?_
        refine U.seg 2 [2, 7, 8, 40, 41] [(0, .ld 10), (1, .ld 3)] (fun K => (b32 = b32) ∧ ((b3 = b3) ∧ (K [(2, Value.pointer (some ⟨b2, 0, none⟩)), (7, Value.pointer (some ⟨b6, 0, none⟩)), (8, Value.pointer (some ⟨b29, 0, none⟩)), (40, Value.agg ((arrC 8 .i64 x70)).toArray), (41, Value.func (.func 33) #[] #[Value.pointer (some ⟨b8, 0, none⟩), Value.pointer (some ⟨b2, 0, none⟩), Value.pointer (some ⟨b3, 0, none⟩)])] ((1, Ent.ob b1 (.loop (lbusy b10 T11 #[22] (C_33.r.r.r.r.l.r.l.l) (C_33.r.r.r.r.l.r.l.r) b12))) :: (2, Ent.blk b2 109 [Value.map (some b7)]) :: (3, Ent.blk b3 110 ([Value.func (.func 33) #[] #[Value.pointer (some ⟨b8, 0, none⟩), Value.pointer (some ⟨b2, 0, none⟩), Value.pointer (some ⟨b3, 0, none⟩)]])) :: (4, Ent.blk b4 112 (arrC 8 .i64 x13)) :: (5, Ent.blk b5 3 [Value.int .i64 x14]) :: (6, Ent.blk b6 114 (arrC 8 .i64 x15 ++ [Value.int .i64 x16])) :: (7, Ent.mp b7 (mpE ek_112 ev_114 x17)) :: (8, Ent.blk b8 47 [Value.int .i64 x18, Value.int .i64 x19, Value.slice a21 (List.length x20) c22]) :: (9, Ent.blk b29 112 (arrC 8 .i64 x9)) :: (10, Ent.blk b32 112 (arrC 8 .i64 x70)) :: fr)))) (fun K => by kernel_rfl) 2 (by kernel_rfl) ?_
        refine ⟨rfl, ?_⟩
        refine ⟨rfl, ?_⟩
        obtain ⟨x72, h73, H⟩ := bnd_some H
        refine U.step 3 (by kernel_rfl) (U.call (dst := some 42) (fun w hw => hF_f37 x70 x18 x19 x20 x17 b2 b8 b3 b7 a21 c22 h71 h28 h73 (okNT 10 [(1, 1), (2, 7), (3, 2), (4, 6), (1, 0), (4, 3), (5, 4), (6, 5), (9, 8), (10, 9)] (by kernel_rfl) rfl hw)) (by kernel_rfl) (enters_of Try.func37 (by kernel_rfl) rfl)) ?_
        rintro _ h75
        refine U.pick  10 [(2, 0), (8, 1), (3, 2), (7, 3), (1, 4), (4, 5), (5, 6), (6, 7), (9, 8), (10, 9)] ((2, Ent.blk b2 109 [Value.map (some b7)]) :: (8, Ent.blk b8 47 [Value.int .i64 x18, Value.int .i64 x19, Value.slice a21 (List.length x20) c22]) :: (3, Ent.blk b3 110 ([Value.func (.func 33) #[] #[Value.pointer (some ⟨b8, 0, none⟩), Value.pointer (some ⟨b2, 0, none⟩), Value.pointer (some ⟨b3, 0, none⟩)]])) :: (7, Ent.mp b7 (mpE ek_112 ev_114 x72.2.2)) :: (1, Ent.ob b1 (.loop (lbusy b10 T11 #[22] (C_33.r.r.r.r.l.r.l.l) (C_33.r.r.r.r.l.r.l.r) b12))) :: (4, Ent.blk b4 112 (arrC 8 .i64 x13)) :: (5, Ent.blk b5 3 [Value.int .i64 x14]) :: (6, Ent.blk b6 114 (arrC 8 .i64 x15 ++ [Value.int .i64 x16])) :: (9, Ent.blk b29 112 (arrC 8 .i64 x9)) :: (10, Ent.blk b32 112 (arrC 8 .i64 x70)) :: fr) (by kernel_rfl) rfl ?_
        refine U.seg 3 [7, 8, 12] [] (fun K => K [(7, Value.pointer (some ⟨b6, 0, none⟩)), (8, Value.pointer (some ⟨b29, 0, none⟩)), (12, Value.int .i64 (w64 (1 + x72.2.1)))] ((2, Ent.blk b2 109 [Value.map (some b7)]) :: (8, Ent.blk b8 47 [Value.int .i64 x18, Value.int .i64 x19, Value.slice a21 (List.length x20) c22]) :: (3, Ent.blk b3 110 ([Value.func (.func 33) #[] #[Value.pointer (some ⟨b8, 0, none⟩), Value.pointer (some ⟨b2, 0, none⟩), Value.pointer (some ⟨b3, 0, none⟩)]])) :: (7, Ent.mp b7 (mpE ek_112 ev_114 x72.2.2)) :: (1, Ent.ob b1 (.loop (lbusy b10 T11 #[22] (C_33.r.r.r.r.l.r.l.l) (C_33.r.r.r.r.l.r.l.r) b12))) :: (4, Ent.blk b4 112 (arrC 8 .i64 x13)) :: (5, Ent.blk b5 3 [Value.int .i64 x14]) :: (6, Ent.blk b6 114 (arrC 8 .i64 x15 ++ [Value.int .i64 x16])) :: (9, Ent.blk b29 112 (arrC 8 .i64 x9)) :: (10, Ent.blk b32 112 (arrC 8 .i64 x70)) :: fr)) (fun K => by kernel_rfl) 6 (by kernel_rfl) ?_
        refine WO.done (by kernel_rfl) ?_
        refine PO.nx ?_
        refine WP.seq (by kernel_rfl) ?_
        refine WP.reg (by kernel_rfl) ?_
        refine U.seg 4 [7, 8, 12, 48] [(2, .ld 6)] (fun K => (b6 = b6) ∧ (K [(7, Value.pointer (some ⟨b6, 0, none⟩)), (8, Value.pointer (some ⟨b29, 0, none⟩)), (12, Value.int .i64 (w64 (1 + x72.2.1))), (48, Value.bool (decide ((w64 (1 + x72.2.1)) < x16)))] ((2, Ent.blk b2 109 [Value.map (some b7)]) :: (8, Ent.blk b8 47 [Value.int .i64 x18, Value.int .i64 x19, Value.slice a21 (List.length x20) c22]) :: (3, Ent.blk b3 110 ([Value.func (.func 33) #[] #[Value.pointer (some ⟨b8, 0, none⟩), Value.pointer (some ⟨b2, 0, none⟩), Value.pointer (some ⟨b3, 0, none⟩)]])) :: (7, Ent.mp b7 (mpE ek_112 ev_114 x72.2.2)) :: (1, Ent.ob b1 (.loop (lbusy b10 T11 #[22] (C_33.r.r.r.r.l.r.l.l) (C_33.r.r.r.r.l.r.l.r) b12))) :: (4, Ent.blk b4 112 (arrC 8 .i64 x13)) :: (5, Ent.blk b5 3 [Value.int .i64 x14]) :: (6, Ent.blk b6 114 (arrC 8 .i64 x15 ++ [Value.int .i64 x16])) :: (9, Ent.blk b29 112 (arrC 8 .i64 x9)) :: (10, Ent.blk b32 112 (arrC 8 .i64 x70)) :: fr))) (fun K => by kernel_rfl) 4 (by kernel_rfl) ?_
        refine ⟨rfl, ?_⟩
        refine WO.done (by kernel_rfl) ?_
        refine PO.nx ?_
        refine WP.join (fun s => ∃ (x77 : (List Int)) (x79 : Int), x77.length = 8 ∧ f33r0_j3 kk F_f37 x77 x79 x72 = some r ∧ s = { n := 53, e := [], d := [], g := g, h := ((1, Ent.ob b1 (.loop (lbusy b10 T11 #[22] (C_33.r.r.r.r.l.r.l.l) (C_33.r.r.r.r.l.r.l.r) b12))) :: (2, Ent.blk b2 109 [Value.map (some b7)]) :: (3, Ent.blk b3 110 ([Value.func (.func 33) #[] #[Value.pointer (some ⟨b8, 0, none⟩), Value.pointer (some ⟨b2, 0, none⟩), Value.pointer (some ⟨b3, 0, none⟩)]])) :: (4, Ent.blk b4 112 (arrC 8 .i64 x13)) :: (5, Ent.blk b5 3 [Value.int .i64 x14]) :: (6, Ent.blk b6 114 (arrC 8 .i64 x77 ++ [Value.int .i64 x79])) :: (7, Ent.mp b7 (mpE ek_112 ev_114 x72.2.2)) :: (8, Ent.blk b8 47 [Value.int .i64 x18, Value.int .i64 x19, Value.slice a21 (List.length x20) c22]) :: fr) }) ?_ ?_
        · rcases cond_some H with ⟨h76, H⟩ | ⟨h76, H⟩
          · refine U.asW (t := 48) (congrArg Value.bool h76) (by kernel_rfl) ?_
            refine WP.condT (by kernel_rfl) ?_
            refine WP.reg (by kernel_rfl) ?_
            refine U.seg 4 [] [(0, .ld 9), (3, .st 6)] (fun K => (b29 = b29) ∧ ((b6 = b6) ∧ (K [] ((2, Ent.blk b2 109 [Value.map (some b7)]) :: (8, Ent.blk b8 47 [Value.int .i64 x18, Value.int .i64 x19, Value.slice a21 (List.length x20) c22]) :: (3, Ent.blk b3 110 ([Value.func (.func 33) #[] #[Value.pointer (some ⟨b8, 0, none⟩), Value.pointer (some ⟨b2, 0, none⟩), Value.pointer (some ⟨b3, 0, none⟩)]])) :: (7, Ent.mp b7 (mpE ek_112 ev_114 x72.2.2)) :: (1, Ent.ob b1 (.loop (lbusy b10 T11 #[22] (C_33.r.r.r.r.l.r.l.l) (C_33.r.r.r.r.l.r.l.r) b12))) :: (4, Ent.blk b4 112 (arrC 8 .i64 x13)) :: (5, Ent.blk b5 3 [Value.int .i64 x14]) :: (6, Ent.blk b6 114 (arrC 8 .i64 x9 ++ [Value.int .i64 (w64 (1 + x72.2.1))])) :: (9, Ent.blk b29 112 (arrC 8 .i64 x9)) :: (10, Ent.blk b32 112 (arrC 8 .i64 x70)) :: fr)))) (fun K => by kernel_rfl) 4 (by kernel_rfl) ?_
            refine ⟨rfl, ?_⟩
            refine ⟨rfl, ?_⟩
            refine WO.done (by kernel_rfl) ?_
            refine PO.jn ⟨x9, (w64 (1 + x72.2.1)), h24, H, rfl⟩ ?_
            exact (St.ok.to [] 10 [(1, 4), (2, 0), (3, 2), (4, 5), (5, 6), (6, 7), (7, 3), (8, 1)] (by kernel_rfl) rfl (by kernel_rfl) rfl rfl (by kernel_rfl))
          · refine U.asW (t := 48) (congrArg Value.bool h76) (by kernel_rfl) ?_
            refine WP.condF (by kernel_rfl) ?_
            refine WP.skip (by kernel_rfl) ?_
            refine PO.jn ⟨x15, x16, h27, H, rfl⟩ ?_
            exact (St.ok.to [] 10 [(1, 4), (2, 0), (3, 2), (4, 5), (5, 6), (6, 7), (7, 3), (8, 1)] (by kernel_rfl) rfl (by kernel_rfl) rfl rfl (by kernel_rfl))
        · rintro _ ⟨x77, x79, h78, H, rfl⟩
          unfold f33r0_j3 at H
          refine PO.blk_normal ?_
          refine PO.jn ⟨x77, x79, x72.2.2, h78, H, rfl⟩ ?_
          exact (St.ok.to [] 8 [(1, 0), (2, 1), (3, 2), (4, 3), (5, 4), (6, 5), (7, 6), (8, 7)] (by kernel_rfl) rfl (by kernel_rfl) rfl rfl (by kernel_rfl))
  · rintro _ ⟨x80, x82, x83, h81, H, rfl⟩
    unfold f33r0_j4 at H
    have hr := Option.some.inj H
    subst hr
    refine U.rd_end (t := 1) [] ((1, Ent.ob b1 (.loop (lrec b10 T11 #[22] (C_33.r.r.r.r.l.r.l.l) (C_33.r.r.r.r.l.r.l.r) b12 [] 0))) :: (2, Ent.blk b2 109 [Value.map (some b7)]) :: (3, Ent.blk b3 110 ([Value.func (.func 33) #[] #[Value.pointer (some ⟨b8, 0, none⟩), Value.pointer (some ⟨b2, 0, none⟩), Value.pointer (some ⟨b3, 0, none⟩)]])) :: (4, Ent.blk b4 112 (arrC 8 .i64 x13)) :: (5, Ent.blk b5 3 [Value.int .i64 x14]) :: (6, Ent.blk b6 114 (arrC 8 .i64 x80 ++ [Value.int .i64 x82])) :: (7, Ent.mp b7 (mpE ek_112 ev_114 x83)) :: (8, Ent.blk b8 47 [Value.int .i64 x18, Value.int .i64 x19, Value.slice a21 (List.length x20) c22]) :: fr) (by kernel_rfl) rfl ?_
    exact fun w hw => Ret.mk () h81 rfl (okNT 8 [(1, 0), (2, 1), (3, 2), (4, 3), (5, 4), (6, 5), (7, 6), (8, 7)] (by kernel_rfl) rfl hw)

set_option maxRecDepth 100000 in
theorem w_f75_1 (kk : Nat) (F_f37 : (List Int) → Int → Int → (List (Int × Int)) → (List ((List Int) × ((List Int) × Int))) → Option ((List Int) × Int × (List ((List Int) × ((List Int) × Int))))) (hF_f37 : S_f37 F_f37) (F_f75_1 : Int → Int → Int → Int → (List (Int × Int)) → (List Int) → (List Int) → (List Int) → Int → (List Int) → Int → (List ((List Int) × ((List Int) × Int))) → Int → Int → (List (Int × Int)) → Option (Bool × (List Int) × (List Int) × Int × (List ((List Int) × ((List Int) × Int))))) (hF_f75_1 : S_f75_1 F_f75_1) (x14 : Int) (x15 : Int) (x16 : Int) (x17 : Int) (x18 : (List (Int × Int))) (x22 : (List Int)) (x23 : (List Int)) (x27 : (List Int)) (x28 : Int) (x29 : (List Int)) (x30 : Int) (x31 : (List ((List Int) × ((List Int) × Int)))) (x32 : Int) (x33 : Int) (x34 : (List (Int × Int))) (b1 : Nat) (b2 : Nat) (b3 : Nat) (b4 : Nat) (b5 : Nat) (b6 : Nat) (b7 : Nat) (b8 : Nat) (b9 : Nat) (b10 : Nat) (b11 : Nat) (b12 : Nat) (b13 : Nat) (a19 : Option Addr) (c20 : Nat) (b24 : Nat) (T25 : Array Value) (b26 : Nat) (a35 : Option Addr) (c36 : Nat) {g : GH} (h38 : Sl (Kd.pair (Kd.int .i64) (Kd.int .i64)) g a19 (List.length x18) c20 x18) (h39 : x22.length = 8) (h40 : x23.length = 8) (h41 : EnvA 53 [(2, Value.pointer (some ⟨b7, 0, none⟩)), (3, Value.pointer (some ⟨b8, 0, none⟩)), (4, Value.pointer (some ⟨b9, 0, none⟩)), (6, Value.pointer (some ⟨b10, 0, none⟩)), (7, Value.pointer (some ⟨b11, 0, none⟩))] T25) (h42 : x27.length = 8) (h43 : x29.length = 8) (h44 : Sl (Kd.pair (Kd.int .i64) (Kd.int .i64)) g a35 (List.length x34) c36 x34) {r : (Bool × (List Int) × (List Int) × Int × (List ((List Int) × ((List Int) × Int))))} (H : m_f75_1_s kk F_f37 F_f75_1 x14 x15 x16 x17 x18 x22 x23 x27 x28 x29 x30 x31 x32 x33 x34 = some r) {fr : Hs} {w : World} (hw : Ok g ((1, Ent.blk b1 47 [Value.int .i64 x16, Value.int .i64 x17, Value.slice a19 (List.length x18) c20]) :: (2, Ent.blk b2 172 [yv b6]) :: (3, Ent.blk b3 112 (arrC 8 .i64 x22)) :: (4, Ent.blk b4 112 (arrC 8 .i64 x23)) :: (5, Ent.blk b5 173 ([Value.func (.func 75) #[] #[Value.pointer (some ⟨b1, 0, none⟩), Value.pointer (some ⟨b2, 0, none⟩), Value.pointer (some ⟨b3, 0, none⟩), Value.pointer (some ⟨b4, 0, none⟩), Value.pointer (some ⟨b5, 0, none⟩)]])) :: (6, Ent.ob b6 (.loop (lrec b24 T25 #[22] (C_33.r.r.r.r.l.r.l.l) (C_33.r.r.r.r.l.r.l.r) b26 [] 0))) :: (7, Ent.blk b7 109 [Value.map (some b12)]) :: (8, Ent.blk b8 110 ([Value.func (.func 33) #[] #[Value.pointer (some ⟨b13, 0, none⟩), Value.pointer (some ⟨b7, 0, none⟩), Value.pointer (some ⟨b8, 0, none⟩)]])) :: (9, Ent.blk b9 112 (arrC 8 .i64 x27)) :: (10, Ent.blk b10 3 [Value.int .i64 x28]) :: (11, Ent.blk b11 114 (arrC 8 .i64 x29 ++ [Value.int .i64 x30])) :: (12, Ent.mp b12 (mpE ek_112 ev_114 x31)) :: (13, Ent.blk b13 47 [Value.int .i64 x32, Value.int .i64 x33, Value.slice a35 (List.length x34) c36]) :: fr) w) :
    Calls Try.prog 75 (List.toArray [Value.int .i64 x14, Value.int .i64 x15, Value.pointer (some ⟨b1, 0, none⟩), Value.pointer (some ⟨b2, 0, none⟩), Value.pointer (some ⟨b3, 0, none⟩), Value.pointer (some ⟨b4, 0, none⟩), Value.pointer (some ⟨b5, 0, none⟩)]) w (Ret (fun _ : Unit => List.length r.2.1 = 8 ∧ List.length r.2.2.1 = 8) (fun _ => Value.bool r.1) (fun _ => g) (fun _ => ((1, Ent.blk b1 47 [Value.int .i64 x16, Value.int .i64 x17, Value.slice a19 (List.length x18) c20]) :: (2, Ent.blk b2 172 [yv b6]) :: (3, Ent.blk b3 112 (arrC 8 .i64 r.2.1)) :: (4, Ent.blk b4 112 (arrC 8 .i64 x23)) :: (5, Ent.blk b5 173 ([Value.func (.func 75) #[] #[Value.pointer (some ⟨b1, 0, none⟩), Value.pointer (some ⟨b2, 0, none⟩), Value.pointer (some ⟨b3, 0, none⟩), Value.pointer (some ⟨b4, 0, none⟩), Value.pointer (some ⟨b5, 0, none⟩)]])) :: (6, Ent.ob b6 (.loop (lrec b24 T25 #[22] (C_33.r.r.r.r.l.r.l.l) (C_33.r.r.r.r.l.r.l.r) b26 [] 0))) :: (7, Ent.blk b7 109 [Value.map (some b12)]) :: (8, Ent.blk b8 110 ([Value.func (.func 33) #[] #[Value.pointer (some ⟨b13, 0, none⟩), Value.pointer (some ⟨b7, 0, none⟩), Value.pointer (some ⟨b8, 0, none⟩)]])) :: (9, Ent.blk b9 112 (arrC 8 .i64 x27)) :: (10, Ent.blk b10 3 [Value.int .i64 x28]) :: (11, Ent.blk b11 114 (arrC 8 .i64 r.2.2.1 ++ [Value.int .i64 r.2.2.2.1])) :: (12, Ent.mp b12 (mpE ek_112 ev_114 r.2.2.2.2)) :: (13, Ent.blk b13 47 [Value.int .i64 x32, Value.int .i64 x33, Value.slice a35 (List.length x34) c36]) :: fr))) := by
  refine fn_wp (args := [Value.int .i64 x14, Value.int .i64 x15, Value.pointer (some ⟨b1, 0, none⟩), Value.pointer (some ⟨b2, 0, none⟩), Value.pointer (some ⟨b3, 0, none⟩), Value.pointer (some ⟨b4, 0, none⟩), Value.pointer (some ⟨b5, 0, none⟩)]) (c := C_75) Try.func75 (by kernel_rfl) Try.ntmps75 (by kernel_rfl) ?_ hw
  unfold m_f75_1_s at H
  refine WP.seq (by kernel_rfl) ?_
  refine WP.reg (by kernel_rfl) ?_
  refine U.seg 1 [0, 1, 2, 3, 4, 5, 6] [] (fun K => K [(0, Value.int .i64 x14), (1, Value.int .i64 x15), (2, Value.pointer (some ⟨b1, 0, none⟩)), (3, Value.pointer (some ⟨b2, 0, none⟩)), (4, Value.pointer (some ⟨b3, 0, none⟩)), (5, Value.pointer (some ⟨b4, 0, none⟩)), (6, Value.pointer (some ⟨b5, 0, none⟩))] ((1, Ent.blk b1 47 [Value.int .i64 x16, Value.int .i64 x17, Value.slice a19 (List.length x18) c20]) :: (2, Ent.blk b2 172 [yv b6]) :: (3, Ent.blk b3 112 (arrC 8 .i64 x22)) :: (4, Ent.blk b4 112 (arrC 8 .i64 x23)) :: (5, Ent.blk b5 173 ([Value.func (.func 75) #[] #[Value.pointer (some ⟨b1, 0, none⟩), Value.pointer (some ⟨b2, 0, none⟩), Value.pointer (some ⟨b3, 0, none⟩), Value.pointer (some ⟨b4, 0, none⟩), Value.pointer (some ⟨b5, 0, none⟩)]])) :: (6, Ent.ob b6 (.loop (lrec b24 T25 #[22] (C_33.r.r.r.r.l.r.l.l) (C_33.r.r.r.r.l.r.l.r) b26 [] 0))) :: (7, Ent.blk b7 109 [Value.map (some b12)]) :: (8, Ent.blk b8 110 ([Value.func (.func 33) #[] #[Value.pointer (some ⟨b13, 0, none⟩), Value.pointer (some ⟨b7, 0, none⟩), Value.pointer (some ⟨b8, 0, none⟩)]])) :: (9, Ent.blk b9 112 (arrC 8 .i64 x27)) :: (10, Ent.blk b10 3 [Value.int .i64 x28]) :: (11, Ent.blk b11 114 (arrC 8 .i64 x29 ++ [Value.int .i64 x30])) :: (12, Ent.mp b12 (mpE ek_112 ev_114 x31)) :: (13, Ent.blk b13 47 [Value.int .i64 x32, Value.int .i64 x33, Value.slice a35 (List.length x34) c36]) :: fr)) (fun K => by kernel_rfl) 1 (by kernel_rfl) ?_
  refine WO.done (by kernel_rfl) ?_
  refine PO.nx ?_
  refine WP.seq (by kernel_rfl) ?_
  refine WP.seq (by kernel_rfl) ?_
  refine WP.reg (by kernel_rfl) ?_
  refine U.seg 5 [0, 1, 2, 3, 4, 5, 6, 15] [(2, .ld 1)] (fun K => (b1 = b1) ∧ (K [(0, Value.int .i64 x14), (1, Value.int .i64 x15), (2, Value.pointer (some ⟨b1, 0, none⟩)), (3, Value.pointer (some ⟨b2, 0, none⟩)), (4, Value.pointer (some ⟨b3, 0, none⟩)), (5, Value.pointer (some ⟨b4, 0, none⟩)), (6, Value.pointer (some ⟨b5, 0, none⟩)), (15, Value.bool (x14 == ((List.length x18) : Int)))] ((1, Ent.blk b1 47 [Value.int .i64 x16, Value.int .i64 x17, Value.slice a19 (List.length x18) c20]) :: (2, Ent.blk b2 172 [yv b6]) :: (3, Ent.blk b3 112 (arrC 8 .i64 x22)) :: (4, Ent.blk b4 112 (arrC 8 .i64 x23)) :: (5, Ent.blk b5 173 ([Value.func (.func 75) #[] #[Value.pointer (some ⟨b1, 0, none⟩), Value.pointer (some ⟨b2, 0, none⟩), Value.pointer (some ⟨b3, 0, none⟩), Value.pointer (some ⟨b4, 0, none⟩), Value.pointer (some ⟨b5, 0, none⟩)]])) :: (6, Ent.ob b6 (.loop (lrec b24 T25 #[22] (C_33.r.r.r.r.l.r.l.l) (C_33.r.r.r.r.l.r.l.r) b26 [] 0))) :: (7, Ent.blk b7 109 [Value.map (some b12)]) :: (8, Ent.blk b8 110 ([Value.func (.func 33) #[] #[Value.pointer (some ⟨b13, 0, none⟩), Value.pointer (some ⟨b7, 0, none⟩), Value.pointer (some ⟨b8, 0, none⟩)]])) :: (9, Ent.blk b9 112 (arrC 8 .i64 x27)) :: (10, Ent.blk b10 3 [Value.int .i64 x28]) :: (11, Ent.blk b11 114 (arrC 8 .i64 x29 ++ [Value.int .i64 x30])) :: (12, Ent.mp b12 (mpE ek_112 ev_114 x31)) :: (13, Ent.blk b13 47 [Value.int .i64 x32, Value.int .i64 x33, Value.slice a35 (List.length x34) c36]) :: fr))) (fun K => by kernel_rfl) 5 (by kernel_rfl) ?_
  refine ⟨rfl, ?_⟩
  refine WO.done (by kernel_rfl) ?_
  refine PO.nx ?_
  rcases cond_some H with ⟨h45, H⟩ | ⟨h45, H⟩
  · refine U.asW (t := 15) (congrArg Value.bool h45) (by kernel_rfl) ?_
    refine WP.condT (by kernel_rfl) ?_
    refine WP.seq (by kernel_rfl) ?_
    refine WP.reg (by kernel_rfl) ?_
    refine U.seg 2 [16, 17] [(0, .ld 2), (1, .ld 3)] (fun K => (b2 = b2) ∧ ((b3 = b3) ∧ (K [(16, yv b6), (17, Value.agg ((arrC 8 .i64 x22)).toArray)] ((1, Ent.blk b1 47 [Value.int .i64 x16, Value.int .i64 x17, Value.slice a19 (List.length x18) c20]) :: (2, Ent.blk b2 172 [yv b6]) :: (3, Ent.blk b3 112 (arrC 8 .i64 x22)) :: (4, Ent.blk b4 112 (arrC 8 .i64 x23)) :: (5, Ent.blk b5 173 ([Value.func (.func 75) #[] #[Value.pointer (some ⟨b1, 0, none⟩), Value.pointer (some ⟨b2, 0, none⟩), Value.pointer (some ⟨b3, 0, none⟩), Value.pointer (some ⟨b4, 0, none⟩), Value.pointer (some ⟨b5, 0, none⟩)]])) :: (6, Ent.ob b6 (.loop (lrec b24 T25 #[22] (C_33.r.r.r.r.l.r.l.l) (C_33.r.r.r.r.l.r.l.r) b26 [] 0))) :: (7, Ent.blk b7 109 [Value.map (some b12)]) :: (8, Ent.blk b8 110 ([Value.func (.func 33) #[] #[Value.pointer (some ⟨b13, 0, none⟩), Value.pointer (some ⟨b7, 0, none⟩), Value.pointer (some ⟨b8, 0, none⟩)]])) :: (9, Ent.blk b9 112 (arrC 8 .i64 x27)) :: (10, Ent.blk b10 3 [Value.int .i64 x28]) :: (11, Ent.blk b11 114 (arrC 8 .i64 x29 ++ [Value.int .i64 x30])) :: (12, Ent.mp b12 (mpE ek_112 ev_114 x31)) :: (13, Ent.blk b13 47 [Value.int .i64 x32, Value.int .i64 x33, Value.slice a35 (List.length x34) c36]) :: fr)))) (fun K => by kernel_rfl) 2 (by kernel_rfl) ?_
    refine ⟨rfl, ?_⟩
    refine ⟨rfl, ?_⟩
    obtain ⟨x46, h47, H⟩ := bnd_some H
    refine U.step 3 (by kernel_rfl) (U.yield (dst := some 18) (t := 6) (D := b26) (js := []) (fun w hw => c_f33r0 kk F_f37 hF_f37 x22 x27 x28 x29 x30 x31 x32 x33 x34 b6 b7 b8 b9 b10 b11 b12 b13 b24 T25 b26 a35 c36 h39 h41 h42 h43 h44 h47 (okNT 13 [(1, 5), (2, 6), (3, 7), (4, 8), (5, 9), (6, 10), (7, 11), (8, 12), (1, 0), (2, 1), (3, 2), (4, 3), (5, 4)] (by kernel_rfl) rfl hw)) (by kernel_rfl) (by kernel_rfl) rfl) ?_
    rintro _ h49
    refine U.pick  13 [(6, 0), (7, 1), (8, 2), (9, 3), (10, 4), (11, 5), (12, 6), (13, 7), (1, 8), (2, 9), (3, 10), (4, 11), (5, 12)] ((6, Ent.ob b6 (.loop (lrec b24 T25 #[22] (C_33.r.r.r.r.l.r.l.l) (C_33.r.r.r.r.l.r.l.r) b26 [] 0))) :: (7, Ent.blk b7 109 [Value.map (some b12)]) :: (8, Ent.blk b8 110 ([Value.func (.func 33) #[] #[Value.pointer (some ⟨b13, 0, none⟩), Value.pointer (some ⟨b7, 0, none⟩), Value.pointer (some ⟨b8, 0, none⟩)]])) :: (9, Ent.blk b9 112 (arrC 8 .i64 x27)) :: (10, Ent.blk b10 3 [Value.int .i64 x28]) :: (11, Ent.blk b11 114 (arrC 8 .i64 x46.2.1 ++ [Value.int .i64 x46.2.2.1])) :: (12, Ent.mp b12 (mpE ek_112 ev_114 x46.2.2.2)) :: (13, Ent.blk b13 47 [Value.int .i64 x32, Value.int .i64 x33, Value.slice a35 (List.length x34) c36]) :: (1, Ent.blk b1 47 [Value.int .i64 x16, Value.int .i64 x17, Value.slice a19 (List.length x18) c20]) :: (2, Ent.blk b2 172 [yv b6]) :: (3, Ent.blk b3 112 (arrC 8 .i64 x22)) :: (4, Ent.blk b4 112 (arrC 8 .i64 x23)) :: (5, Ent.blk b5 173 ([Value.func (.func 75) #[] #[Value.pointer (some ⟨b1, 0, none⟩), Value.pointer (some ⟨b2, 0, none⟩), Value.pointer (some ⟨b3, 0, none⟩), Value.pointer (some ⟨b4, 0, none⟩), Value.pointer (some ⟨b5, 0, none⟩)]])) :: fr) (by kernel_rfl) rfl ?_
    refine U.seg 1 [9] [] (fun K => K [(9, Value.bool x46.1)] ((6, Ent.ob b6 (.loop (lrec b24 T25 #[22] (C_33.r.r.r.r.l.r.l.l) (C_33.r.r.r.r.l.r.l.r) b26 [] 0))) :: (7, Ent.blk b7 109 [Value.map (some b12)]) :: (8, Ent.blk b8 110 ([Value.func (.func 33) #[] #[Value.pointer (some ⟨b13, 0, none⟩), Value.pointer (some ⟨b7, 0, none⟩), Value.pointer (some ⟨b8, 0, none⟩)]])) :: (9, Ent.blk b9 112 (arrC 8 .i64 x27)) :: (10, Ent.blk b10 3 [Value.int .i64 x28]) :: (11, Ent.blk b11 114 (arrC 8 .i64 x46.2.1 ++ [Value.int .i64 x46.2.2.1])) :: (12, Ent.mp b12 (mpE ek_112 ev_114 x46.2.2.2)) :: (13, Ent.blk b13 47 [Value.int .i64 x32, Value.int .i64 x33, Value.slice a35 (List.length x34) c36]) :: (1, Ent.blk b1 47 [Value.int .i64 x16, Value.int .i64 x17, Value.slice a19 (List.length x18) c20]) :: (2, Ent.blk b2 172 [yv b6]) :: (3, Ent.blk b3 112 (arrC 8 .i64 x22)) :: (4, Ent.blk b4 112 (arrC 8 .i64 x23)) :: (5, Ent.blk b5 173 ([Value.func (.func 75) #[] #[Value.pointer (some ⟨b1, 0, none⟩), Value.pointer (some ⟨b2, 0, none⟩), Value.pointer (some ⟨b3, 0, none⟩), Value.pointer (some ⟨b4, 0, none⟩), Value.pointer (some ⟨b5, 0, none⟩)]])) :: fr)) (fun K => by kernel_rfl) 4 (by kernel_rfl) ?_
    refine WO.done (by kernel_rfl) ?_
    refine PO.nx ?_
    refine WP.ret (by kernel_rfl) ?_
    refine PO.nx_ret ?_
    have hr := Option.some.inj H
    subst hr
    refine PO.body [Value.bool x46.1] ((6, Ent.ob b6 (.loop (lrec b24 T25 #[22] (C_33.r.r.r.r.l.r.l.l) (C_33.r.r.r.r.l.r.l.r) b26 [] 0))) :: (7, Ent.blk b7 109 [Value.map (some b12)]) :: (8, Ent.blk b8 110 ([Value.func (.func 33) #[] #[Value.pointer (some ⟨b13, 0, none⟩), Value.pointer (some ⟨b7, 0, none⟩), Value.pointer (some ⟨b8, 0, none⟩)]])) :: (9, Ent.blk b9 112 (arrC 8 .i64 x27)) :: (10, Ent.blk b10 3 [Value.int .i64 x28]) :: (11, Ent.blk b11 114 (arrC 8 .i64 x46.2.1 ++ [Value.int .i64 x46.2.2.1])) :: (12, Ent.mp b12 (mpE ek_112 ev_114 x46.2.2.2)) :: (13, Ent.blk b13 47 [Value.int .i64 x32, Value.int .i64 x33, Value.slice a35 (List.length x34) c36]) :: (1, Ent.blk b1 47 [Value.int .i64 x16, Value.int .i64 x17, Value.slice a19 (List.length x18) c20]) :: (2, Ent.blk b2 172 [yv b6]) :: (3, Ent.blk b3 112 (arrC 8 .i64 x22)) :: (4, Ent.blk b4 112 (arrC 8 .i64 x23)) :: (5, Ent.blk b5 173 ([Value.func (.func 75) #[] #[Value.pointer (some ⟨b1, 0, none⟩), Value.pointer (some ⟨b2, 0, none⟩), Value.pointer (some ⟨b3, 0, none⟩), Value.pointer (some ⟨b4, 0, none⟩), Value.pointer (some ⟨b5, 0, none⟩)]])) :: fr) rfl (Res.tmp (by kernel_rfl) Res.nil) ?_
    exact fun w hw => Ret.mk () ⟨h39, h49⟩ rfl (okNT 13 [(1, 8), (2, 9), (3, 10), (4, 11), (5, 12), (6, 0), (7, 1), (8, 2), (9, 3), (10, 4), (11, 5), (12, 6), (13, 7)] (by kernel_rfl) rfl hw)
  · refine U.asW (t := 15) (congrArg Value.bool h45) (by kernel_rfl) ?_
    refine WP.condF (by kernel_rfl) ?_
    refine WP.skip (by kernel_rfl) ?_
    refine PO.nx ?_
    refine WP.seq (by kernel_rfl) ?_
    refine U.draw [] g [(1, Ent.blk b1 47 [Value.int .i64 x16, Value.int .i64 x17, Value.slice a19 (List.length x18) c20]), (2, Ent.blk b2 172 [yv b6]), (3, Ent.blk b3 112 (arrC 8 .i64 x22)), (4, Ent.blk b4 112 (arrC 8 .i64 x23)), (5, Ent.blk b5 173 ([Value.func (.func 75) #[] #[Value.pointer (some ⟨b1, 0, none⟩), Value.pointer (some ⟨b2, 0, none⟩), Value.pointer (some ⟨b3, 0, none⟩), Value.pointer (some ⟨b4, 0, none⟩), Value.pointer (some ⟨b5, 0, none⟩)]])), (6, Ent.ob b6 (.loop (lrec b24 T25 #[22] (C_33.r.r.r.r.l.r.l.l) (C_33.r.r.r.r.l.r.l.r) b26 [] 0))), (7, Ent.blk b7 109 [Value.map (some b12)]), (8, Ent.blk b8 110 ([Value.func (.func 33) #[] #[Value.pointer (some ⟨b13, 0, none⟩), Value.pointer (some ⟨b7, 0, none⟩), Value.pointer (some ⟨b8, 0, none⟩)]])), (9, Ent.blk b9 112 (arrC 8 .i64 x27)), (10, Ent.blk b10 3 [Value.int .i64 x28]), (11, Ent.blk b11 114 (arrC 8 .i64 x29 ++ [Value.int .i64 x30])), (12, Ent.mp b12 (mpE ek_112 ev_114 x31)), (13, Ent.blk b13 47 [Value.int .i64 x32, Value.int .i64 x33, Value.slice a35 (List.length x34) c36])] (by kernel_rfl) (by kernel_rfl) 10 (by kernel_rfl) (fun w hw => Ok.pickTo [(1, 0), (2, 1), (3, 2), (4, 3), (5, 4), (6, 5), (7, 6), (8, 7), (9, 8), (10, 9), (11, 10), (12, 11), (13, 12)] (by kernel_rfl) (by kernel_rfl) (GH.le_refl _) hw) ?_
    obtain ⟨x56, h57, H⟩ := bnd_some H
    obtain ⟨h58, s59, h60, h61⟩ := Sl.at' (d := (Kd.pair (Kd.int .i64) (Kd.int .i64))) h38 h57
    obtain ⟨_, _, rfl, rfl, rfl⟩ := h60
    refine U.take 0 [0, 1, 2, 3, 4, 5, 6, 7, 8, 9] [0, 1, 4, 5, 6, 10] [9, 8, 7, 6, 5, 4, 3, 2, 1, 0] [(1, .ld 1), (3, .s), (5, .lg (Value.int .i64 x56.1)), (7, .ld 1)] (fun K => (b1 = b1) ∧ (((0 : Int) ≤ x14 ∧ x14 < ((List.length x18) : Nat) ∧ FlatA a19 (List.length x18)) ∧ ((GLoad g ⟨ab a19, ao a19 + (Int.toNat (x14)) * 2, none⟩ false 1 (Value.int .i64 x56.1)) ∧ ((b1 = b1) ∧ (K [(0, Value.int .i64 x14), (1, Value.int .i64 x15), (4, Value.pointer (some ⟨b3, 0, none⟩)), (5, Value.pointer (some ⟨b4, 0, none⟩)), (6, Value.pointer (some ⟨b5, 0, none⟩)), (10, Value.int .i64 (w64 (x56.1 + x17)))]))))) (fun K => by kernel_rfl) (by kernel_rfl) (by kernel_rfl) (by kernel_rfl) ?_
    refine ⟨rfl, ?_⟩
    refine ⟨h58, ?_⟩
    refine ⟨(h61 _ 0 _ _ _ rfl rfl rfl (OwnRead.one rfl)), ?_⟩
    refine ⟨rfl, ?_⟩
    refine WD.done (by kernel_rfl) ?_
    refine PO.nx ?_
    refine WP.seq (by kernel_rfl) ?_
    refine WP.seq (by kernel_rfl) ?_
    refine WP.reg (by kernel_rfl) ?_
    obtain ⟨h62, H⟩ := grd_some H
    refine U.seg 3 [0, 1, 4, 5, 6, 10] [(1, .s), (2, .sv 3 (arrC 8 .i64 (setA 8 x22 x14 0)))] (fun K => ((0 : Int) ≤ x14 ∧ x14 < ((8 : Nat) : Int) ∧ (⟨b3, 0, none⟩ : Addr).spot = none) ∧ ((b3 = b3 ∧ [Value.int .i64 0].length = 1 ∧ 0 + (Int.toNat (x14)) * 1 + [Value.int .i64 0].length ≤ (arrC 8 .i64 x22).length ∧ (∀ u ∈ [Value.int .i64 0], u.oneCell' = true) ∧ splice (arrC 8 .i64 x22) (0 + (Int.toNat (x14)) * 1) [Value.int .i64 0] = (arrC 8 .i64 (setA 8 x22 x14 0))) ∧ (K [(0, Value.int .i64 x14), (1, Value.int .i64 x15), (4, Value.pointer (some ⟨b3, 0, none⟩)), (5, Value.pointer (some ⟨b4, 0, none⟩)), (6, Value.pointer (some ⟨b5, 0, none⟩)), (10, Value.int .i64 (w64 (x56.1 + x17)))] ((1, Ent.blk b1 47 [Value.int .i64 x16, Value.int .i64 x17, Value.slice a19 (List.length x18) c20]) :: (2, Ent.blk b2 172 [yv b6]) :: (3, Ent.blk b3 112 (arrC 8 .i64 (setA 8 x22 x14 0))) :: (4, Ent.blk b4 112 (arrC 8 .i64 x23)) :: (5, Ent.blk b5 173 ([Value.func (.func 75) #[] #[Value.pointer (some ⟨b1, 0, none⟩), Value.pointer (some ⟨b2, 0, none⟩), Value.pointer (some ⟨b3, 0, none⟩), Value.pointer (some ⟨b4, 0, none⟩), Value.pointer (some ⟨b5, 0, none⟩)]])) :: (6, Ent.ob b6 (.loop (lrec b24 T25 #[22] (C_33.r.r.r.r.l.r.l.l) (C_33.r.r.r.r.l.r.l.r) b26 [] 0))) :: (7, Ent.blk b7 109 [Value.map (some b12)]) :: (8, Ent.blk b8 110 ([Value.func (.func 33) #[] #[Value.pointer (some ⟨b13, 0, none⟩), Value.pointer (some ⟨b7, 0, none⟩), Value.pointer (some ⟨b8, 0, none⟩)]])) :: (9, Ent.blk b9 112 (arrC 8 .i64 x27)) :: (10, Ent.blk b10 3 [Value.int .i64 x28]) :: (11, Ent.blk b11 114 (arrC 8 .i64 x29 ++ [Value.int .i64 x30])) :: (12, Ent.mp b12 (mpE ek_112 ev_114 x31)) :: (13, Ent.blk b13 47 [Value.int .i64 x32, Value.int .i64 x33, Value.slice a35 (List.length x34) c36]) :: fr)))) (fun K => by kernel_rfl) 3 (by kernel_rfl) ?_
    refine ⟨⟨h62.1, h62.2, rfl⟩, ?_⟩
    refine ⟨⟨rfl, rfl, arr_put (xs := x22) [] [] h62.1 h62.2 (by simp) (by simp) rfl⟩, ?_⟩
    refine WO.done (by kernel_rfl) ?_
    refine PO.nx ?_
    refine WP.join (fun s => ∃ (x135 : (List Int)) (x137 : (List Int)) (x139 : Int) (x140 : (List ((List Int) × ((List Int) × Int)))), x135.length = 8 ∧ x137.length = 8 ∧ f75_1_j5 kk F_f37 F_f75_1 x135 x14 x137 x139 x140 = some r ∧ s = { n := 57, e := [(0, Value.int .i64 x14), (4, Value.pointer (some ⟨b3, 0, none⟩))], d := [], g := g, h := ((1, Ent.blk b1 47 [Value.int .i64 x16, Value.int .i64 x17, Value.slice a19 (List.length x18) c20]) :: (2, Ent.blk b2 172 [yv b6]) :: (3, Ent.blk b3 112 (arrC 8 .i64 x135)) :: (4, Ent.blk b4 112 (arrC 8 .i64 x23)) :: (5, Ent.blk b5 173 ([Value.func (.func 75) #[] #[Value.pointer (some ⟨b1, 0, none⟩), Value.pointer (some ⟨b2, 0, none⟩), Value.pointer (some ⟨b3, 0, none⟩), Value.pointer (some ⟨b4, 0, none⟩), Value.pointer (some ⟨b5, 0, none⟩)]])) :: (6, Ent.ob b6 (.loop (lrec b24 T25 #[22] (C_33.r.r.r.r.l.r.l.l) (C_33.r.r.r.r.l.r.l.r) b26 [] 0))) :: (7, Ent.blk b7 109 [Value.map (some b12)]) :: (8, Ent.blk b8 110 ([Value.func (.func 33) #[] #[Value.pointer (some ⟨b13, 0, none⟩), Value.pointer (some ⟨b7, 0, none⟩), Value.pointer (some ⟨b8, 0, none⟩)]])) :: (9, Ent.blk b9 112 (arrC 8 .i64 x27)) :: (10, Ent.blk b10 3 [Value.int .i64 x28]) :: (11, Ent.blk b11 114 (arrC 8 .i64 x137 ++ [Value.int .i64 x139])) :: (12, Ent.mp b12 (mpE ek_112 ev_114 x140)) :: (13, Ent.blk b13 47 [Value.int .i64 x32, Value.int .i64 x33, Value.slice a35 (List.length x34) c36]) :: fr) }) ?_ ?_
    · refine WP.block (id := 0) (by kernel_rfl) ?_
      obtain ⟨o107, h134, h110⟩ := bnd_some H
      refine WP.loopW (by kernel_rfl) (fun n s => ∃ (x100 : Int) (x101 : (List Int)) (x103 : (List Int)) (x105 : Int) (x106 : (List ((List Int) × ((List Int) × Int)))), x101.length = 8 ∧ x103.length = 8 ∧ iter (fun y : (Int × (List Int) × (List Int) × Int × (List ((List Int) × ((List Int) × Int)))) => f75_1_l3 kk F_f37 F_f75_1 y.1 y.2.1 y.2.2.1 y.2.2.2.1 y.2.2.2.2 x14 x23 x16 x17 x18 x27 x28 x32 x33 x34 x56) n (x100, x101, x103, x105, x106) = some o107 ∧ s = { n := 57, e := [(0, Value.int .i64 x14), (1, Value.int .i64 x100), (4, Value.pointer (some ⟨b3, 0, none⟩)), (5, Value.pointer (some ⟨b4, 0, none⟩)), (6, Value.pointer (some ⟨b5, 0, none⟩)), (10, Value.int .i64 (w64 (x56.1 + x17)))], d := [], g := g, h := ((1, Ent.blk b1 47 [Value.int .i64 x16, Value.int .i64 x17, Value.slice a19 (List.length x18) c20]) :: (2, Ent.blk b2 172 [yv b6]) :: (3, Ent.blk b3 112 (arrC 8 .i64 x101)) :: (4, Ent.blk b4 112 (arrC 8 .i64 x23)) :: (5, Ent.blk b5 173 ([Value.func (.func 75) #[] #[Value.pointer (some ⟨b1, 0, none⟩), Value.pointer (some ⟨b2, 0, none⟩), Value.pointer (some ⟨b3, 0, none⟩), Value.pointer (some ⟨b4, 0, none⟩), Value.pointer (some ⟨b5, 0, none⟩)]])) :: (6, Ent.ob b6 (.loop (lrec b24 T25 #[22] (C_33.r.r.r.r.l.r.l.l) (C_33.r.r.r.r.l.r.l.r) b26 [] 0))) :: (7, Ent.blk b7 109 [Value.map (some b12)]) :: (8, Ent.blk b8 110 ([Value.func (.func 33) #[] #[Value.pointer (some ⟨b13, 0, none⟩), Value.pointer (some ⟨b7, 0, none⟩), Value.pointer (some ⟨b8, 0, none⟩)]])) :: (9, Ent.blk b9 112 (arrC 8 .i64 x27)) :: (10, Ent.blk b10 3 [Value.int .i64 x28]) :: (11, Ent.blk b11 114 (arrC 8 .i64 x103 ++ [Value.int .i64 x105])) :: (12, Ent.mp b12 (mpE ek_112 ev_114 x106)) :: (13, Ent.blk b13 47 [Value.int .i64 x32, Value.int .i64 x33, Value.slice a35 (List.length x34) c36]) :: fr) }) (k := kk) ⟨x15, (setA 8 x22 x14 0), x29, x30, x31, (by simp [setA]), h43, h134, rfl⟩ (St.ok.to [0, 1, 4, 5, 6, 10] 13 [(1, 0), (2, 1), (3, 2), (4, 3), (5, 4), (6, 5), (7, 6), (8, 7), (9, 8), (10, 9), (11, 10), (12, 11), (13, 12)] (by kernel_rfl) rfl (by kernel_rfl) rfl rfl (by kernel_rfl)) ?_
      intro n129 s
      rintro ⟨x100, x101, x103, x105, x106, h102, h104, h130, rfl⟩
      obtain ⟨n111, q108, h132, h133, h109⟩ := iter_some h130
      subst h132
      have H : f75_1_l3 kk F_f37 F_f75_1 x100 x101 x103 x105 x106 x14 x23 x16 x17 x18 x27 x28 x32 x33 x34 x56 = some q108 := h133
      unfold f75_1_l3 at H
      refine WP.seq (by kernel_rfl) ?_
      refine WP.seq (by kernel_rfl) ?_
      refine WP.join (fun s => ∃ (x113 : Bool), f75_1_j4 kk F_f37 F_f75_1 x113 x14 x100 x16 x17 x18 x101 x23 x27 x28 x103 x105 x106 x32 x33 x34 x56 = some q108 ∧ s = { n := 57, e := [(0, Value.int .i64 x14), (1, Value.int .i64 x100), (4, Value.pointer (some ⟨b3, 0, none⟩)), (5, Value.pointer (some ⟨b4, 0, none⟩)), (6, Value.pointer (some ⟨b5, 0, none⟩)), (10, Value.int .i64 (w64 (x56.1 + x17))), (40, Value.bool x113)], d := [], g := g, h := ((1, Ent.blk b1 47 [Value.int .i64 x16, Value.int .i64 x17, Value.slice a19 (List.length x18) c20]) :: (2, Ent.blk b2 172 [yv b6]) :: (3, Ent.blk b3 112 (arrC 8 .i64 x101)) :: (4, Ent.blk b4 112 (arrC 8 .i64 x23)) :: (5, Ent.blk b5 173 ([Value.func (.func 75) #[] #[Value.pointer (some ⟨b1, 0, none⟩), Value.pointer (some ⟨b2, 0, none⟩), Value.pointer (some ⟨b3, 0, none⟩), Value.pointer (some ⟨b4, 0, none⟩), Value.pointer (some ⟨b5, 0, none⟩)]])) :: (6, Ent.ob b6 (.loop (lrec b24 T25 #[22] (C_33.r.r.r.r.l.r.l.l) (C_33.r.r.r.r.l.r.l.r) b26 [] 0))) :: (7, Ent.blk b7 109 [Value.map (some b12)]) :: (8, Ent.blk b8 110 ([Value.func (.func 33) #[] #[Value.pointer (some ⟨b13, 0, none⟩), Value.pointer (some ⟨b7, 0, none⟩), Value.pointer (some ⟨b8, 0, none⟩)]])) :: (9, Ent.blk b9 112 (arrC 8 .i64 x27)) :: (10, Ent.blk b10 3 [Value.int .i64 x28]) :: (11, Ent.blk b11 114 (arrC 8 .i64 x103 ++ [Value.int .i64 x105])) :: (12, Ent.mp b12 (mpE ek_112 ev_114 x106)) :: (13, Ent.blk b13 47 [Value.int .i64 x32, Value.int .i64 x33, Value.slice a35 (List.length x34) c36]) :: fr) }) ?_ ?_
      · refine U.draw [] g [(1, Ent.blk b1 47 [Value.int .i64 x16, Value.int .i64 x17, Value.slice a19 (List.length x18) c20]), (2, Ent.blk b2 172 [yv b6]), (3, Ent.blk b3 112 (arrC 8 .i64 x101)), (4, Ent.blk b4 112 (arrC 8 .i64 x23)), (5, Ent.blk b5 173 ([Value.func (.func 75) #[] #[Value.pointer (some ⟨b1, 0, none⟩), Value.pointer (some ⟨b2, 0, none⟩), Value.pointer (some ⟨b3, 0, none⟩), Value.pointer (some ⟨b4, 0, none⟩), Value.pointer (some ⟨b5, 0, none⟩)]])), (6, Ent.ob b6 (.loop (lrec b24 T25 #[22] (C_33.r.r.r.r.l.r.l.l) (C_33.r.r.r.r.l.r.l.r) b26 [] 0))), (7, Ent.blk b7 109 [Value.map (some b12)]), (8, Ent.blk b8 110 ([Value.func (.func 33) #[] #[Value.pointer (some ⟨b13, 0, none⟩), Value.pointer (some ⟨b7, 0, none⟩), Value.pointer (some ⟨b8, 0, none⟩)]])), (9, Ent.blk b9 112 (arrC 8 .i64 x27)), (10, Ent.blk b10 3 [Value.int .i64 x28]), (11, Ent.blk b11 114 (arrC 8 .i64 x103 ++ [Value.int .i64 x105])), (12, Ent.mp b12 (mpE ek_112 ev_114 x106)), (13, Ent.blk b13 47 [Value.int .i64 x32, Value.int .i64 x33, Value.slice a35 (List.length x34) c36])] (by kernel_rfl) (by kernel_rfl) 11 (by kernel_rfl) (fun w hw => Ok.pickTo [(1, 0), (2, 1), (3, 2), (4, 3), (5, 4), (6, 5), (7, 6), (8, 7), (9, 8), (10, 9), (11, 10), (12, 11), (13, 12)] (by kernel_rfl) (by kernel_rfl) (GH.le_refl _) hw) ?_
        refine U.take 3 [0, 1, 2, 3, 4, 5, 6, 7] [0, 1, 4, 5, 6, 10, 37] [7, 6, 5, 4, 3, 2, 1, 0] [(1, .s), (2, .lv 3 (Value.int .i64 (List.getD x101 (Int.toNat (x14)) 0))), (4, .s), (5, .lv 4 (Value.int .i64 (List.getD x23 (Int.toNat (x14)) 0)))] (fun K => ((0 : Int) ≤ x14 ∧ x14 < ((8 : Nat) : Int) ∧ (⟨b3, 0, none⟩ : Addr).spot = none) ∧ ((b3 = b3 ∧ OwnRead (arrC 8 .i64 x101) (0 + (Int.toNat (x14)) * 1) false 1 (Value.int .i64 (List.getD x101 (Int.toNat (x14)) 0))) ∧ (((0 : Int) ≤ x14 ∧ x14 < ((8 : Nat) : Int) ∧ (⟨b4, 0, none⟩ : Addr).spot = none) ∧ ((b4 = b4 ∧ OwnRead (arrC 8 .i64 x23) (0 + (Int.toNat (x14)) * 1) false 1 (Value.int .i64 (List.getD x23 (Int.toNat (x14)) 0))) ∧ (K [(0, Value.int .i64 x14), (1, Value.int .i64 x100), (4, Value.pointer (some ⟨b3, 0, none⟩)), (5, Value.pointer (some ⟨b4, 0, none⟩)), (6, Value.pointer (some ⟨b5, 0, none⟩)), (10, Value.int .i64 (w64 (x56.1 + x17))), (37, Value.bool (decide ((List.getD x101 (Int.toNat (x14)) 0) ≤ (List.getD x23 (Int.toNat (x14)) 0))))]))))) (fun K => by kernel_rfl) (by kernel_rfl) (by kernel_rfl) (by kernel_rfl) ?_
        refine ⟨⟨h62.1, h62.2, rfl⟩, ?_⟩
        refine ⟨⟨rfl, (arr_read (k := .i64) (xs := x101) [] [] h62.1 h62.2 (by simp) rfl)⟩, ?_⟩
        refine ⟨⟨h62.1, h62.2, rfl⟩, ?_⟩
        refine ⟨⟨rfl, (arr_read (k := .i64) (xs := x23) [] [] h62.1 h62.2 (by simp) rfl)⟩, ?_⟩
        rcases cond_some H with ⟨h112, H⟩ | ⟨h112, H⟩
        · refine U.asD (t := 37) (congrArg Value.bool h112) (by kernel_rfl) ?_
          refine U.take 0 [8, 9, 10] [0, 1, 4, 5, 6, 10, 38, 39, 40] [10, 9, 8, 7, 6, 5, 4, 3, 2, 1, 0] [] (fun K => K [(0, Value.int .i64 x14), (1, Value.int .i64 x100), (4, Value.pointer (some ⟨b3, 0, none⟩)), (5, Value.pointer (some ⟨b4, 0, none⟩)), (6, Value.pointer (some ⟨b5, 0, none⟩)), (10, Value.int .i64 (w64 (x56.1 + x17))), (38, Value.int .i64 x100), (39, Value.bool (decide (x100 ≥ 0))), (40, Value.bool (decide (x100 ≥ 0)))]) (fun K => by kernel_rfl) (by kernel_rfl) (by kernel_rfl) (by kernel_rfl) ?_
          refine WD.done (by kernel_rfl) ?_
          refine PO.jn ⟨(decide (x100 ≥ 0)), H, rfl⟩ ?_
          exact (St.ok.to [0, 1, 4, 5, 6, 10, 40] 13 [(1, 0), (2, 1), (3, 2), (4, 3), (5, 4), (6, 5), (7, 6), (8, 7), (9, 8), (10, 9), (11, 10), (12, 11), (13, 12)] (by kernel_rfl) rfl (by kernel_rfl) rfl rfl (by kernel_rfl))
        · refine U.asD (t := 37) (congrArg Value.bool h112) (by kernel_rfl) ?_
          refine U.take 0 [8, 9, 10] [0, 1, 4, 5, 6, 10, 38, 39, 40] [10, 9, 8, 7, 6, 5, 4, 3, 2, 1, 0] [] (fun K => K [(0, Value.int .i64 x14), (1, Value.int .i64 x100), (4, Value.pointer (some ⟨b3, 0, none⟩)), (5, Value.pointer (some ⟨b4, 0, none⟩)), (6, Value.pointer (some ⟨b5, 0, none⟩)), (10, Value.int .i64 (w64 (x56.1 + x17))), (38, undef), (39, undef), (40, Value.bool false)]) (fun K => by kernel_rfl) (by kernel_rfl) (by kernel_rfl) (by kernel_rfl) ?_
          refine WD.done (by kernel_rfl) ?_
          refine PO.jn ⟨false, H, rfl⟩ ?_
          exact (St.ok.to [0, 1, 4, 5, 6, 10, 40] 13 [(1, 0), (2, 1), (3, 2), (4, 3), (5, 4), (6, 5), (7, 6), (8, 7), (9, 8), (10, 9), (11, 10), (12, 11), (13, 12)] (by kernel_rfl) rfl (by kernel_rfl) rfl rfl (by kernel_rfl))
      · rintro _ ⟨x113, H, rfl⟩
        unfold f75_1_j4 at H
        refine PO.nx ?_
        rcases cond_some H with ⟨h114, H⟩ | ⟨h114, H⟩
        · refine U.asW (t := 40) (congrArg Value.bool h114) (by kernel_rfl) ?_
          refine WP.condT (by kernel_rfl) ?_
          refine WP.skip (by kernel_rfl) ?_
          refine PO.nx ?_
          refine WP.seq (by kernel_rfl) ?_
          refine WP.block (id := 1) (by kernel_rfl) ?_
          refine WP.seq (by kernel_rfl) ?_
          refine WP.seq (by kernel_rfl) ?_
          refine WP.reg (by kernel_rfl) ?_
          refine U.seg 4 [0, 1, 4, 5, 6, 10, 46, 48, 49] [(0, .ld 5)] (fun K => (b5 = b5) ∧ (K [(0, Value.int .i64 x14), (1, Value.int .i64 x100), (4, Value.pointer (some ⟨b3, 0, none⟩)), (5, Value.pointer (some ⟨b4, 0, none⟩)), (6, Value.pointer (some ⟨b5, 0, none⟩)), (10, Value.int .i64 (w64 (x56.1 + x17))), (46, Value.func (.func 75) #[] #[Value.pointer (some ⟨b1, 0, none⟩), Value.pointer (some ⟨b2, 0, none⟩), Value.pointer (some ⟨b3, 0, none⟩), Value.pointer (some ⟨b4, 0, none⟩), Value.pointer (some ⟨b5, 0, none⟩)]), (48, Value.int .i64 (w64 (x14 + 1))), (49, Value.int .i64 x100)] ((1, Ent.blk b1 47 [Value.int .i64 x16, Value.int .i64 x17, Value.slice a19 (List.length x18) c20]) :: (2, Ent.blk b2 172 [yv b6]) :: (3, Ent.blk b3 112 (arrC 8 .i64 x101)) :: (4, Ent.blk b4 112 (arrC 8 .i64 x23)) :: (5, Ent.blk b5 173 ([Value.func (.func 75) #[] #[Value.pointer (some ⟨b1, 0, none⟩), Value.pointer (some ⟨b2, 0, none⟩), Value.pointer (some ⟨b3, 0, none⟩), Value.pointer (some ⟨b4, 0, none⟩), Value.pointer (some ⟨b5, 0, none⟩)]])) :: (6, Ent.ob b6 (.loop (lrec b24 T25 #[22] (C_33.r.r.r.r.l.r.l.l) (C_33.r.r.r.r.l.r.l.r) b26 [] 0))) :: (7, Ent.blk b7 109 [Value.map (some b12)]) :: (8, Ent.blk b8 110 ([Value.func (.func 33) #[] #[Value.pointer (some ⟨b13, 0, none⟩), Value.pointer (some ⟨b7, 0, none⟩), Value.pointer (some ⟨b8, 0, none⟩)]])) :: (9, Ent.blk b9 112 (arrC 8 .i64 x27)) :: (10, Ent.blk b10 3 [Value.int .i64 x28]) :: (11, Ent.blk b11 114 (arrC 8 .i64 x103 ++ [Value.int .i64 x105])) :: (12, Ent.mp b12 (mpE ek_112 ev_114 x106)) :: (13, Ent.blk b13 47 [Value.int .i64 x32, Value.int .i64 x33, Value.slice a35 (List.length x34) c36]) :: fr))) (fun K => by kernel_rfl) 4 (by kernel_rfl) ?_
          refine ⟨rfl, ?_⟩
          obtain ⟨x115, h116, H⟩ := bnd_some H
          refine U.step 5 (by kernel_rfl) (U.call (dst := some 50) (fun w hw => hF_f75_1 (w64 (x14 + 1)) x100 x16 x17 x18 x101 x23 x27 x28 x103 x105 x106 x32 x33 x34 b1 b2 b3 b4 b5 b6 b7 b8 b9 b10 b11 b12 b13 a19 c20 b24 T25 b26 a35 c36 h38 h102 h40 h41 h42 h104 h44 h116 (okNT 13 [(1, 0), (2, 1), (3, 2), (4, 3), (5, 4), (6, 5), (7, 6), (8, 7), (9, 8), (10, 9), (11, 10), (12, 11), (13, 12)] (by kernel_rfl) rfl hw)) (by kernel_rfl) (enters_of Try.func75 (by kernel_rfl) rfl)) ?_
          rintro _ ⟨h119, h120⟩
          refine U.seg 1 [0, 1, 4, 5, 6, 10, 51] [] (fun K => K [(0, Value.int .i64 x14), (1, Value.int .i64 x100), (4, Value.pointer (some ⟨b3, 0, none⟩)), (5, Value.pointer (some ⟨b4, 0, none⟩)), (6, Value.pointer (some ⟨b5, 0, none⟩)), (10, Value.int .i64 (w64 (x56.1 + x17))), (51, Value.bool (!x115.1))] ((1, Ent.blk b1 47 [Value.int .i64 x16, Value.int .i64 x17, Value.slice a19 (List.length x18) c20]) :: (2, Ent.blk b2 172 [yv b6]) :: (3, Ent.blk b3 112 (arrC 8 .i64 x115.2.1)) :: (4, Ent.blk b4 112 (arrC 8 .i64 x23)) :: (5, Ent.blk b5 173 ([Value.func (.func 75) #[] #[Value.pointer (some ⟨b1, 0, none⟩), Value.pointer (some ⟨b2, 0, none⟩), Value.pointer (some ⟨b3, 0, none⟩), Value.pointer (some ⟨b4, 0, none⟩), Value.pointer (some ⟨b5, 0, none⟩)]])) :: (6, Ent.ob b6 (.loop (lrec b24 T25 #[22] (C_33.r.r.r.r.l.r.l.l) (C_33.r.r.r.r.l.r.l.r) b26 [] 0))) :: (7, Ent.blk b7 109 [Value.map (some b12)]) :: (8, Ent.blk b8 110 ([Value.func (.func 33) #[] #[Value.pointer (some ⟨b13, 0, none⟩), Value.pointer (some ⟨b7, 0, none⟩), Value.pointer (some ⟨b8, 0, none⟩)]])) :: (9, Ent.blk b9 112 (arrC 8 .i64 x27)) :: (10, Ent.blk b10 3 [Value.int .i64 x28]) :: (11, Ent.blk b11 114 (arrC 8 .i64 x115.2.2.1 ++ [Value.int .i64 x115.2.2.2.1])) :: (12, Ent.mp b12 (mpE ek_112 ev_114 x115.2.2.2.2)) :: (13, Ent.blk b13 47 [Value.int .i64 x32, Value.int .i64 x33, Value.slice a35 (List.length x34) c36]) :: fr)) (fun K => by kernel_rfl) 6 (by kernel_rfl) ?_
          refine WO.done (by kernel_rfl) ?_
          refine PO.nx ?_
          rcases cond_some H with ⟨h121, H⟩ | ⟨h121, H⟩
          · refine U.asW (t := 51) (congrArg Value.bool h121) (by kernel_rfl) ?_
            refine WP.condT (by kernel_rfl) ?_
            refine WP.seq (by kernel_rfl) ?_
            refine WP.reg (by kernel_rfl) ?_
            refine U.seg 1 [9] [] (fun K => K [(9, Value.bool false)] ((1, Ent.blk b1 47 [Value.int .i64 x16, Value.int .i64 x17, Value.slice a19 (List.length x18) c20]) :: (2, Ent.blk b2 172 [yv b6]) :: (3, Ent.blk b3 112 (arrC 8 .i64 x115.2.1)) :: (4, Ent.blk b4 112 (arrC 8 .i64 x23)) :: (5, Ent.blk b5 173 ([Value.func (.func 75) #[] #[Value.pointer (some ⟨b1, 0, none⟩), Value.pointer (some ⟨b2, 0, none⟩), Value.pointer (some ⟨b3, 0, none⟩), Value.pointer (some ⟨b4, 0, none⟩), Value.pointer (some ⟨b5, 0, none⟩)]])) :: (6, Ent.ob b6 (.loop (lrec b24 T25 #[22] (C_33.r.r.r.r.l.r.l.l) (C_33.r.r.r.r.l.r.l.r) b26 [] 0))) :: (7, Ent.blk b7 109 [Value.map (some b12)]) :: (8, Ent.blk b8 110 ([Value.func (.func 33) #[] #[Value.pointer (some ⟨b13, 0, none⟩), Value.pointer (some ⟨b7, 0, none⟩), Value.pointer (some ⟨b8, 0, none⟩)]])) :: (9, Ent.blk b9 112 (arrC 8 .i64 x27)) :: (10, Ent.blk b10 3 [Value.int .i64 x28]) :: (11, Ent.blk b11 114 (arrC 8 .i64 x115.2.2.1 ++ [Value.int .i64 x115.2.2.2.1])) :: (12, Ent.mp b12 (mpE ek_112 ev_114 x115.2.2.2.2)) :: (13, Ent.blk b13 47 [Value.int .i64 x32, Value.int .i64 x33, Value.slice a35 (List.length x34) c36]) :: fr)) (fun K => by kernel_rfl) 1 (by kernel_rfl) ?_
            refine WO.done (by kernel_rfl) ?_
            refine PO.nx ?_
            refine WP.ret (by kernel_rfl) ?_
            refine PO.nx_ret ?_
            refine PO.blk_ret ?_
            refine PO.nx_ret ?_
            refine PO.lp_ret ?_
            refine PO.blk_ret ?_
            refine PO.jn_ret ?_
            refine PO.nx_ret ?_
            have hq := Option.some.inj H
            subst hq
            have H := h110
            rw [← (show _ = o107 from h109)] at H
            have H : some (false, x115.2.1, x115.2.2.1, x115.2.2.2.1, x115.2.2.2.2) = some r := H
            have hr := Option.some.inj H
            subst hr
            refine PO.body [Value.bool false] ((1, Ent.blk b1 47 [Value.int .i64 x16, Value.int .i64 x17, Value.slice a19 (List.length x18) c20]) :: (2, Ent.blk b2 172 [yv b6]) :: (3, Ent.blk b3 112 (arrC 8 .i64 x115.2.1)) :: (4, Ent.blk b4 112 (arrC 8 .i64 x23)) :: (5, Ent.blk b5 173 ([Value.func (.func 75) #[] #[Value.pointer (some ⟨b1, 0, none⟩), Value.pointer (some ⟨b2, 0, none⟩), Value.pointer (some ⟨b3, 0, none⟩), Value.pointer (some ⟨b4, 0, none⟩), Value.pointer (some ⟨b5, 0, none⟩)]])) :: (6, Ent.ob b6 (.loop (lrec b24 T25 #[22] (C_33.r.r.r.r.l.r.l.l) (C_33.r.r.r.r.l.r.l.r) b26 [] 0))) :: (7, Ent.blk b7 109 [Value.map (some b12)]) :: (8, Ent.blk b8 110 ([Value.func (.func 33) #[] #[Value.pointer (some ⟨b13, 0, none⟩), Value.pointer (some ⟨b7, 0, none⟩), Value.pointer (some ⟨b8, 0, none⟩)]])) :: (9, Ent.blk b9 112 (arrC 8 .i64 x27)) :: (10, Ent.blk b10 3 [Value.int .i64 x28]) :: (11, Ent.blk b11 114 (arrC 8 .i64 x115.2.2.1 ++ [Value.int .i64 x115.2.2.2.1])) :: (12, Ent.mp b12 (mpE ek_112 ev_114 x115.2.2.2.2)) :: (13, Ent.blk b13 47 [Value.int .i64 x32, Value.int .i64 x33, Value.slice a35 (List.length x34) c36]) :: fr) rfl (Res.tmp (by kernel_rfl) Res.nil) ?_
            exact fun w hw => Ret.mk () ⟨h119, h120⟩ rfl (okNT 13 [(1, 0), (2, 1), (3, 2), (4, 3), (5, 4), (6, 5), (7, 6), (8, 7), (9, 8), (10, 9), (11, 10), (12, 11), (13, 12)] (by kernel_rfl) rfl hw)
          · refine U.asW (t := 51) (congrArg Value.bool h121) (by kernel_rfl) ?_
            refine WP.condF (by kernel_rfl) ?_
            refine WP.skip (by kernel_rfl) ?_
            refine PO.nx ?_
            refine WP.reg (by kernel_rfl) ?_
            refine U.seg 4 [0, 1, 4, 5, 6, 10] [] (fun K => K [(0, Value.int .i64 x14), (1, Value.int .i64 (w64 (x100 - (w64 (x56.1 + x17))))), (4, Value.pointer (some ⟨b3, 0, none⟩)), (5, Value.pointer (some ⟨b4, 0, none⟩)), (6, Value.pointer (some ⟨b5, 0, none⟩)), (10, Value.int .i64 (w64 (x56.1 + x17)))] ((1, Ent.blk b1 47 [Value.int .i64 x16, Value.int .i64 x17, Value.slice a19 (List.length x18) c20]) :: (2, Ent.blk b2 172 [yv b6]) :: (3, Ent.blk b3 112 (arrC 8 .i64 x115.2.1)) :: (4, Ent.blk b4 112 (arrC 8 .i64 x23)) :: (5, Ent.blk b5 173 ([Value.func (.func 75) #[] #[Value.pointer (some ⟨b1, 0, none⟩), Value.pointer (some ⟨b2, 0, none⟩), Value.pointer (some ⟨b3, 0, none⟩), Value.pointer (some ⟨b4, 0, none⟩), Value.pointer (some ⟨b5, 0, none⟩)]])) :: (6, Ent.ob b6 (.loop (lrec b24 T25 #[22] (C_33.r.r.r.r.l.r.l.l) (C_33.r.r.r.r.l.r.l.r) b26 [] 0))) :: (7, Ent.blk b7 109 [Value.map (some b12)]) :: (8, Ent.blk b8 110 ([Value.func (.func 33) #[] #[Value.pointer (some ⟨b13, 0, none⟩), Value.pointer (some ⟨b7, 0, none⟩), Value.pointer (some ⟨b8, 0, none⟩)]])) :: (9, Ent.blk b9 112 (arrC 8 .i64 x27)) :: (10, Ent.blk b10 3 [Value.int .i64 x28]) :: (11, Ent.blk b11 114 (arrC 8 .i64 x115.2.2.1 ++ [Value.int .i64 x115.2.2.2.1])) :: (12, Ent.mp b12 (mpE ek_112 ev_114 x115.2.2.2.2)) :: (13, Ent.blk b13 47 [Value.int .i64 x32, Value.int .i64 x33, Value.slice a35 (List.length x34) c36]) :: fr)) (fun K => by kernel_rfl) 4 (by kernel_rfl) ?_
            refine WO.done (by kernel_rfl) ?_
            refine PO.blk_normal ?_
            refine PO.nx ?_
            refine WP.reg (by kernel_rfl) ?_
            refine U.seg 6 [0, 1, 4, 5, 6, 10] [(1, .s), (2, .lv 3 (Value.int .i64 (List.getD x115.2.1 (Int.toNat (x14)) 0))), (4, .s), (5, .sv 3 (arrC 8 .i64 (setA 8 x115.2.1 x14 (w64 ((List.getD x115.2.1 (Int.toNat (x14)) 0) + 1)))))] (fun K => ((0 : Int) ≤ x14 ∧ x14 < ((8 : Nat) : Int) ∧ (⟨b3, 0, none⟩ : Addr).spot = none) ∧ ((b3 = b3 ∧ OwnRead (arrC 8 .i64 x115.2.1) (0 + (Int.toNat (x14)) * 1) false 1 (Value.int .i64 (List.getD x115.2.1 (Int.toNat (x14)) 0))) ∧ (((0 : Int) ≤ x14 ∧ x14 < ((8 : Nat) : Int) ∧ (⟨b3, 0, none⟩ : Addr).spot = none) ∧ ((b3 = b3 ∧ [Value.int .i64 (w64 ((List.getD x115.2.1 (Int.toNat (x14)) 0) + 1))].length = 1 ∧ 0 + (Int.toNat (x14)) * 1 + [Value.int .i64 (w64 ((List.getD x115.2.1 (Int.toNat (x14)) 0) + 1))].length ≤ (arrC 8 .i64 x115.2.1).length ∧ (∀ u ∈ [Value.int .i64 (w64 ((List.getD x115.2.1 (Int.toNat (x14)) 0) + 1))], u.oneCell' = true) ∧ splice (arrC 8 .i64 x115.2.1) (0 + (Int.toNat (x14)) * 1) [Value.int .i64 (w64 ((List.getD x115.2.1 (Int.toNat (x14)) 0) + 1))] = (arrC 8 .i64 (setA 8 x115.2.1 x14 (w64 ((List.getD x115.2.1 (Int.toNat (x14)) 0) + 1))))) ∧ (K [(0, Value.int .i64 x14), (1, Value.int .i64 (w64 (x100 - (w64 (x56.1 + x17))))), (4, Value.pointer (some ⟨b3, 0, none⟩)), (5, Value.pointer (some ⟨b4, 0, none⟩)), (6, Value.pointer (some ⟨b5, 0, none⟩)), (10, Value.int .i64 (w64 (x56.1 + x17)))] ((1, Ent.blk b1 47 [Value.int .i64 x16, Value.int .i64 x17, Value.slice a19 (List.length x18) c20]) :: (2, Ent.blk b2 172 [yv b6]) :: (3, Ent.blk b3 112 (arrC 8 .i64 (setA 8 x115.2.1 x14 (w64 ((List.getD x115.2.1 (Int.toNat (x14)) 0) + 1))))) :: (4, Ent.blk b4 112 (arrC 8 .i64 x23)) :: (5, Ent.blk b5 173 ([Value.func (.func 75) #[] #[Value.pointer (some ⟨b1, 0, none⟩), Value.pointer (some ⟨b2, 0, none⟩), Value.pointer (some ⟨b3, 0, none⟩), Value.pointer (some ⟨b4, 0, none⟩), Value.pointer (some ⟨b5, 0, none⟩)]])) :: (6, Ent.ob b6 (.loop (lrec b24 T25 #[22] (C_33.r.r.r.r.l.r.l.l) (C_33.r.r.r.r.l.r.l.r) b26 [] 0))) :: (7, Ent.blk b7 109 [Value.map (some b12)]) :: (8, Ent.blk b8 110 ([Value.func (.func 33) #[] #[Value.pointer (some ⟨b13, 0, none⟩), Value.pointer (some ⟨b7, 0, none⟩), Value.pointer (some ⟨b8, 0, none⟩)]])) :: (9, Ent.blk b9 112 (arrC 8 .i64 x27)) :: (10, Ent.blk b10 3 [Value.int .i64 x28]) :: (11, Ent.blk b11 114 (arrC 8 .i64 x115.2.2.1 ++ [Value.int .i64 x115.2.2.2.1])) :: (12, Ent.mp b12 (mpE ek_112 ev_114 x115.2.2.2.2)) :: (13, Ent.blk b13 47 [Value.int .i64 x32, Value.int .i64 x33, Value.slice a35 (List.length x34) c36]) :: fr)))))) (fun K => by kernel_rfl) 6 (by kernel_rfl) ?_
            refine ⟨⟨h62.1, h62.2, rfl⟩, ?_⟩
            refine ⟨⟨rfl, (arr_read (k := .i64) (xs := x115.2.1) [] [] h62.1 h62.2 (by simp) rfl)⟩, ?_⟩
            refine ⟨⟨h62.1, h62.2, rfl⟩, ?_⟩
            refine ⟨⟨rfl, rfl, arr_put (xs := x115.2.1) [] [] h62.1 h62.2 (by simp) (by simp) rfl⟩, ?_⟩
            refine WO.done (by kernel_rfl) ?_
            have hq := Option.some.inj H
            subst hq
            refine PO.againW ⟨(w64 (x100 - (w64 (x56.1 + x17)))), (setA 8 x115.2.1 x14 (w64 ((List.getD x115.2.1 (Int.toNat (x14)) 0) + 1))), x115.2.2.1, x115.2.2.2.1, x115.2.2.2.2, (by simp [setA]), h120, h109, rfl⟩ ?_ (Nat.lt_succ_self _)
            exact (St.ok.to [0, 1, 4, 5, 6, 10] 13 [(1, 0), (2, 1), (3, 2), (4, 3), (5, 4), (6, 5), (7, 6), (8, 7), (9, 8), (10, 9), (11, 10), (12, 11), (13, 12)] (by kernel_rfl) rfl (by kernel_rfl) rfl rfl (by kernel_rfl))
        · refine U.asW (t := 40) (congrArg Value.bool h114) (by kernel_rfl) ?_
          refine WP.condF (by kernel_rfl) ?_
          refine WP.exit (id := 0) (by kernel_rfl) ?_
          refine PO.nx_exit ?_
          refine PO.lp_exit ?_
          refine PO.blk_exit ?_
          have hq := Option.some.inj H
          subst hq
          have H := h110
          rw [← (show _ = o107 from h109)] at H
          have H : f75_1_j5 kk F_f37 F_f75_1 x101 x14 x103 x105 x106 = some r := H
          refine PO.jn ⟨x101, x103, x105, x106, h102, h104, H, rfl⟩ ?_
          exact (St.ok.to [0, 4] 13 [(1, 0), (2, 1), (3, 2), (4, 3), (5, 4), (6, 5), (7, 6), (8, 7), (9, 8), (10, 9), (11, 10), (12, 11), (13, 12)] (by kernel_rfl) rfl (by kernel_rfl) rfl rfl (by kernel_rfl))
    · rintro _ ⟨x135, x137, x139, x140, h136, h138, H, rfl⟩
      unfold f75_1_j5 at H
      refine PO.nx ?_
      refine WP.seq (by kernel_rfl) ?_
      refine WP.reg (by kernel_rfl) ?_
      refine U.seg 3 [] [(1, .s), (2, .sv 3 (arrC 8 .i64 (setA 8 x135 x14 0)))] (fun K => ((0 : Int) ≤ x14 ∧ x14 < ((8 : Nat) : Int) ∧ (⟨b3, 0, none⟩ : Addr).spot = none) ∧ ((b3 = b3 ∧ [Value.int .i64 0].length = 1 ∧ 0 + (Int.toNat (x14)) * 1 + [Value.int .i64 0].length ≤ (arrC 8 .i64 x135).length ∧ (∀ u ∈ [Value.int .i64 0], u.oneCell' = true) ∧ splice (arrC 8 .i64 x135) (0 + (Int.toNat (x14)) * 1) [Value.int .i64 0] = (arrC 8 .i64 (setA 8 x135 x14 0))) ∧ (K [] ((1, Ent.blk b1 47 [Value.int .i64 x16, Value.int .i64 x17, Value.slice a19 (List.length x18) c20]) :: (2, Ent.blk b2 172 [yv b6]) :: (3, Ent.blk b3 112 (arrC 8 .i64 (setA 8 x135 x14 0))) :: (4, Ent.blk b4 112 (arrC 8 .i64 x23)) :: (5, Ent.blk b5 173 ([Value.func (.func 75) #[] #[Value.pointer (some ⟨b1, 0, none⟩), Value.pointer (some ⟨b2, 0, none⟩), Value.pointer (some ⟨b3, 0, none⟩), Value.pointer (some ⟨b4, 0, none⟩), Value.pointer (some ⟨b5, 0, none⟩)]])) :: (6, Ent.ob b6 (.loop (lrec b24 T25 #[22] (C_33.r.r.r.r.l.r.l.l) (C_33.r.r.r.r.l.r.l.r) b26 [] 0))) :: (7, Ent.blk b7 109 [Value.map (some b12)]) :: (8, Ent.blk b8 110 ([Value.func (.func 33) #[] #[Value.pointer (some ⟨b13, 0, none⟩), Value.pointer (some ⟨b7, 0, none⟩), Value.pointer (some ⟨b8, 0, none⟩)]])) :: (9, Ent.blk b9 112 (arrC 8 .i64 x27)) :: (10, Ent.blk b10 3 [Value.int .i64 x28]) :: (11, Ent.blk b11 114 (arrC 8 .i64 x137 ++ [Value.int .i64 x139])) :: (12, Ent.mp b12 (mpE ek_112 ev_114 x140)) :: (13, Ent.blk b13 47 [Value.int .i64 x32, Value.int .i64 x33, Value.slice a35 (List.length x34) c36]) :: fr)))) (fun K => by kernel_rfl) 3 (by kernel_rfl) ?_
      refine ⟨⟨h62.1, h62.2, rfl⟩, ?_⟩
      refine ⟨⟨rfl, rfl, arr_put (xs := x135) [] [] h62.1 h62.2 (by simp) (by simp) rfl⟩, ?_⟩
      refine WO.done (by kernel_rfl) ?_
      refine PO.nx ?_
      refine WP.seq (by kernel_rfl) ?_
      refine WP.reg (by kernel_rfl) ?_
      refine U.seg 1 [9] [] (fun K => K [(9, Value.bool true)] ((1, Ent.blk b1 47 [Value.int .i64 x16, Value.int .i64 x17, Value.slice a19 (List.length x18) c20]) :: (2, Ent.blk b2 172 [yv b6]) :: (3, Ent.blk b3 112 (arrC 8 .i64 (setA 8 x135 x14 0))) :: (4, Ent.blk b4 112 (arrC 8 .i64 x23)) :: (5, Ent.blk b5 173 ([Value.func (.func 75) #[] #[Value.pointer (some ⟨b1, 0, none⟩), Value.pointer (some ⟨b2, 0, none⟩), Value.pointer (some ⟨b3, 0, none⟩), Value.pointer (some ⟨b4, 0, none⟩), Value.pointer (some ⟨b5, 0, none⟩)]])) :: (6, Ent.ob b6 (.loop (lrec b24 T25 #[22] (C_33.r.r.r.r.l.r.l.l) (C_33.r.r.r.r.l.r.l.r) b26 [] 0))) :: (7, Ent.blk b7 109 [Value.map (some b12)]) :: (8, Ent.blk b8 110 ([Value.func (.func 33) #[] #[Value.pointer (some ⟨b13, 0, none⟩), Value.pointer (some ⟨b7, 0, none⟩), Value.pointer (some ⟨b8, 0, none⟩)]])) :: (9, Ent.blk b9 112 (arrC 8 .i64 x27)) :: (10, Ent.blk b10 3 [Value.int .i64 x28]) :: (11, Ent.blk b11 114 (arrC 8 .i64 x137 ++ [Value.int .i64 x139])) :: (12, Ent.mp b12 (mpE ek_112 ev_114 x140)) :: (13, Ent.blk b13 47 [Value.int .i64 x32, Value.int .i64 x33, Value.slice a35 (List.length x34) c36]) :: fr)) (fun K => by kernel_rfl) 1 (by kernel_rfl) ?_
      refine WO.done (by kernel_rfl) ?_
      refine PO.nx ?_
      refine WP.ret (by kernel_rfl) ?_
      have hr := Option.some.inj H
      subst hr
      refine PO.body [Value.bool true] ((1, Ent.blk b1 47 [Value.int .i64 x16, Value.int .i64 x17, Value.slice a19 (List.length x18) c20]) :: (2, Ent.blk b2 172 [yv b6]) :: (3, Ent.blk b3 112 (arrC 8 .i64 (setA 8 x135 x14 0))) :: (4, Ent.blk b4 112 (arrC 8 .i64 x23)) :: (5, Ent.blk b5 173 ([Value.func (.func 75) #[] #[Value.pointer (some ⟨b1, 0, none⟩), Value.pointer (some ⟨b2, 0, none⟩), Value.pointer (some ⟨b3, 0, none⟩), Value.pointer (some ⟨b4, 0, none⟩), Value.pointer (some ⟨b5, 0, none⟩)]])) :: (6, Ent.ob b6 (.loop (lrec b24 T25 #[22] (C_33.r.r.r.r.l.r.l.l) (C_33.r.r.r.r.l.r.l.r) b26 [] 0))) :: (7, Ent.blk b7 109 [Value.map (some b12)]) :: (8, Ent.blk b8 110 ([Value.func (.func 33) #[] #[Value.pointer (some ⟨b13, 0, none⟩), Value.pointer (some ⟨b7, 0, none⟩), Value.pointer (some ⟨b8, 0, none⟩)]])) :: (9, Ent.blk b9 112 (arrC 8 .i64 x27)) :: (10, Ent.blk b10 3 [Value.int .i64 x28]) :: (11, Ent.blk b11 114 (arrC 8 .i64 x137 ++ [Value.int .i64 x139])) :: (12, Ent.mp b12 (mpE ek_112 ev_114 x140)) :: (13, Ent.blk b13 47 [Value.int .i64 x32, Value.int .i64 x33, Value.slice a35 (List.length x34) c36]) :: fr) rfl (Res.tmp (by kernel_rfl) Res.nil) ?_
      exact fun w hw => Ret.mk () ⟨(by simp [setA]), h138⟩ rfl (okNT 13 [(1, 0), (2, 1), (3, 2), (4, 3), (5, 4), (6, 5), (7, 6), (8, 7), (9, 8), (10, 9), (11, 10), (12, 11), (13, 12)] (by kernel_rfl) rfl hw)
theorem c_f75_1 (kk : Nat) (F_f37 : (List Int) → Int → Int → (List (Int × Int)) → (List ((List Int) × ((List Int) × Int))) → Option ((List Int) × Int × (List ((List Int) × ((List Int) × Int))))) (hF_f37 : S_f37 F_f37) : S_f75_1 (m_f75_1 kk F_f37) := by
  induction kk with
  | zero => exact fun x14 x15 x16 x17 x18 x22 x23 x27 x28 x29 x30 x31 x32 x33 x34 b1 b2 b3 b4 b5 b6 b7 b8 b9 b10 b11 b12 b13 a19 c20 b24 T25 b26 a35 c36 {g} h38 h39 h40 h41 h42 h43 h44 {r} H {fr w} hw => by cases H
  | succ kk ih => exact fun x14 x15 x16 x17 x18 x22 x23 x27 x28 x29 x30 x31 x32 x33 x34 b1 b2 b3 b4 b5 b6 b7 b8 b9 b10 b11 b12 b13 a19 c20 b24 T25 b26 a35 c36 {g} h38 h39 h40 h41 h42 h43 h44 {r} H {fr w} hw => w_f75_1 kk F_f37 hF_f37 (m_f75_1 kk F_f37) ih x14 x15 x16 x17 x18 x22 x23 x27 x28 x29 x30 x31 x32 x33 x34 b1 b2 b3 b4 b5 b6 b7 b8 b9 b10 b11 b12 b13 a19 c20 b24 T25 b26 a35 c36 h38 h39 h40 h41 h42 h43 h44 H hw

set_option maxRecDepth 100000 in
theorem c_f74_1 (kk : Nat) (F_f37 : (List Int) → Int → Int → (List (Int × Int)) → (List ((List Int) × ((List Int) × Int))) → Option ((List Int) × Int × (List ((List Int) × ((List Int) × Int))))) (hF_f37 : S_f37 F_f37) (x14 : Int) (x15 : Int) (x16 : (List (Int × Int))) (x20 : (List Int)) (x21 : (List Int)) (x22 : Int) (x23 : (List Int)) (x24 : Int) (x25 : (List ((List Int) × ((List Int) × Int)))) (x26 : Int) (x27 : Int) (x28 : (List (Int × Int))) (b1 : Nat) (b2 : Nat) (b3 : Nat) (b4 : Nat) (b5 : Nat) (b6 : Nat) (b7 : Nat) (b8 : Nat) (b9 : Nat) (b10 : Nat) (b11 : Nat) (T12 : Array Value) (b13 : Nat) (a17 : Option Addr) (c18 : Nat) (a29 : Option Addr) (c30 : Nat) {g : GH} (h32 : EnvA 53 [(2, Value.pointer (some ⟨b4, 0, none⟩)), (3, Value.pointer (some ⟨b5, 0, none⟩)), (4, Value.pointer (some ⟨b6, 0, none⟩)), (6, Value.pointer (some ⟨b7, 0, none⟩)), (7, Value.pointer (some ⟨b8, 0, none⟩))] T12) (h33 : Sl (Kd.pair (Kd.int .i64) (Kd.int .i64)) g a17 (List.length x16) c18 x16) (h34 : x20.length = 8) (h35 : x21.length = 8) (h36 : x23.length = 8) (h37 : Sl (Kd.pair (Kd.int .i64) (Kd.int .i64)) g a29 (List.length x28) c30 x28) {r : ((List Int) × Int × (List ((List Int) × ((List Int) × Int))))} (H : m_f74_1 kk F_f37 x14 x15 x16 x20 x21 x22 x23 x24 x25 x26 x27 x28 = some r) {fr : Hs} {w : World} (hw : Ok g ((1, Ent.ob b1 (.loop (lrec b11 T12 #[22] (C_33.r.r.r.r.l.r.l.l) (C_33.r.r.r.r.l.r.l.r) b13 [] 0))) :: (2, Ent.blk b2 47 [Value.int .i64 x14, Value.int .i64 x15, Value.slice a17 (List.length x16) c18]) :: (3, Ent.blk b3 112 (arrC 8 .i64 x20)) :: (4, Ent.blk b4 109 [Value.map (some b9)]) :: (5, Ent.blk b5 110 ([Value.func (.func 33) #[] #[Value.pointer (some ⟨b10, 0, none⟩), Value.pointer (some ⟨b4, 0, none⟩), Value.pointer (some ⟨b5, 0, none⟩)]])) :: (6, Ent.blk b6 112 (arrC 8 .i64 x21)) :: (7, Ent.blk b7 3 [Value.int .i64 x22]) :: (8, Ent.blk b8 114 (arrC 8 .i64 x23 ++ [Value.int .i64 x24])) :: (9, Ent.mp b9 (mpE ek_112 ev_114 x25)) :: (10, Ent.blk b10 47 [Value.int .i64 x26, Value.int .i64 x27, Value.slice a29 (List.length x28) c30]) :: fr) w) :
    Calls Try.prog 74 (List.toArray [yv b1, Value.pointer (some ⟨b2, 0, none⟩), Value.pointer (some ⟨b3, 0, none⟩)]) w (Ret (fun _ : Unit => List.length r.1 = 8) (fun _ => Value.tuple #[]) (fun _ => g) (fun _ => ((1, Ent.ob b1 (.loop (lrec b11 T12 #[22] (C_33.r.r.r.r.l.r.l.l) (C_33.r.r.r.r.l.r.l.r) b13 [] 0))) :: (2, Ent.blk b2 47 [Value.int .i64 x14, Value.int .i64 x15, Value.slice a17 (List.length x16) c18]) :: (3, Ent.blk b3 112 (arrC 8 .i64 x20)) :: (4, Ent.blk b4 109 [Value.map (some b9)]) :: (5, Ent.blk b5 110 ([Value.func (.func 33) #[] #[Value.pointer (some ⟨b10, 0, none⟩), Value.pointer (some ⟨b4, 0, none⟩), Value.pointer (some ⟨b5, 0, none⟩)]])) :: (6, Ent.blk b6 112 (arrC 8 .i64 x21)) :: (7, Ent.blk b7 3 [Value.int .i64 x22]) :: (8, Ent.blk b8 114 (arrC 8 .i64 r.1 ++ [Value.int .i64 r.2.1])) :: (9, Ent.mp b9 (mpE ek_112 ev_114 r.2.2)) :: (10, Ent.blk b10 47 [Value.int .i64 x26, Value.int .i64 x27, Value.slice a29 (List.length x28) c30]) :: fr))) := by
  refine fn_wp (args := [yv b1, Value.pointer (some ⟨b2, 0, none⟩), Value.pointer (some ⟨b3, 0, none⟩)]) (c := C_74) Try.func74 (by kernel_rfl) Try.ntmps74 (by kernel_rfl) ?_ hw
  unfold m_f74_1 at H
  refine WP.seq (by kernel_rfl) ?_
  refine WP.reg (by kernel_rfl) ?_
  refine U.seg 1 [1, 2, 3] [(0, .al 11)] (fun K => ∀ b38 : Nat, K [(1, Value.pointer (some ⟨b2, 0, none⟩)), (2, Value.pointer (some ⟨b3, 0, none⟩)), (3, Value.pointer (some ⟨b38, 0, none⟩))] ((11, Ent.blk b38 172 [yv b1]) :: (1, Ent.ob b1 (.loop (lrec b11 T12 #[22] (C_33.r.r.r.r.l.r.l.l) (C_33.r.r.r.r.l.r.l.r) b13 [] 0))) :: (2, Ent.blk b2 47 [Value.int .i64 x14, Value.int .i64 x15, Value.slice a17 (List.length x16) c18]) :: (3, Ent.blk b3 112 (arrC 8 .i64 x20)) :: (4, Ent.blk b4 109 [Value.map (some b9)]) :: (5, Ent.blk b5 110 ([Value.func (.func 33) #[] #[Value.pointer (some ⟨b10, 0, none⟩), Value.pointer (some ⟨b4, 0, none⟩), Value.pointer (some ⟨b5, 0, none⟩)]])) :: (6, Ent.blk b6 112 (arrC 8 .i64 x21)) :: (7, Ent.blk b7 3 [Value.int .i64 x22]) :: (8, Ent.blk b8 114 (arrC 8 .i64 x23 ++ [Value.int .i64 x24])) :: (9, Ent.mp b9 (mpE ek_112 ev_114 x25)) :: (10, Ent.blk b10 47 [Value.int .i64 x26, Value.int .i64 x27, Value.slice a29 (List.length x28) c30]) :: fr)) (fun K => by kernel_rfl) 1 (by kernel_rfl) ?_
  intro b38
  refine WO.done (by kernel_rfl) ?_
  refine PO.nx ?_
  refine WP.seq (by kernel_rfl) ?_
  refine WP.reg (by kernel_rfl) ?_
  refine U.seg 1 [1, 2, 3, 4] [(0, .al 12)] (fun K => ∀ b39 : Nat, K [(1, Value.pointer (some ⟨b2, 0, none⟩)), (2, Value.pointer (some ⟨b3, 0, none⟩)), (3, Value.pointer (some ⟨b38, 0, none⟩)), (4, Value.pointer (some ⟨b39, 0, none⟩))] ((12, Ent.blk b39 112 (arrC 8 .i64 (List.replicate 8 (0 : Int)))) :: (11, Ent.blk b38 172 [yv b1]) :: (1, Ent.ob b1 (.loop (lrec b11 T12 #[22] (C_33.r.r.r.r.l.r.l.l) (C_33.r.r.r.r.l.r.l.r) b13 [] 0))) :: (2, Ent.blk b2 47 [Value.int .i64 x14, Value.int .i64 x15, Value.slice a17 (List.length x16) c18]) :: (3, Ent.blk b3 112 (arrC 8 .i64 x20)) :: (4, Ent.blk b4 109 [Value.map (some b9)]) :: (5, Ent.blk b5 110 ([Value.func (.func 33) #[] #[Value.pointer (some ⟨b10, 0, none⟩), Value.pointer (some ⟨b4, 0, none⟩), Value.pointer (some ⟨b5, 0, none⟩)]])) :: (6, Ent.blk b6 112 (arrC 8 .i64 x21)) :: (7, Ent.blk b7 3 [Value.int .i64 x22]) :: (8, Ent.blk b8 114 (arrC 8 .i64 x23 ++ [Value.int .i64 x24])) :: (9, Ent.mp b9 (mpE ek_112 ev_114 x25)) :: (10, Ent.blk b10 47 [Value.int .i64 x26, Value.int .i64 x27, Value.slice a29 (List.length x28) c30]) :: fr)) (fun K => by kernel_rfl) 1 (by kernel_rfl) ?_
  intro b39
  refine WO.done (by kernel_rfl) ?_
  refine PO.nx ?_
  refine WP.seq (by kernel_rfl) ?_
  refine WP.reg (by kernel_rfl) ?_
  refine U.seg 1 [1, 2, 3, 4, 5] [(0, .al 13)] (fun K => ∀ b40 : Nat, K [(1, Value.pointer (some ⟨b2, 0, none⟩)), (2, Value.pointer (some ⟨b3, 0, none⟩)), (3, Value.pointer (some ⟨b38, 0, none⟩)), (4, Value.pointer (some ⟨b39, 0, none⟩)), (5, Value.pointer (some ⟨b40, 0, none⟩))] ((13, Ent.blk b40 173 [Value.nilFunc]) :: (12, Ent.blk b39 112 (arrC 8 .i64 (List.replicate 8 (0 : Int)))) :: (11, Ent.blk b38 172 [yv b1]) :: (1, Ent.ob b1 (.loop (lrec b11 T12 #[22] (C_33.r.r.r.r.l.r.l.l) (C_33.r.r.r.r.l.r.l.r) b13 [] 0))) :: (2, Ent.blk b2 47 [Value.int .i64 x14, Value.int .i64 x15, Value.slice a17 (List.length x16) c18]) :: (3, Ent.blk b3 112 (arrC 8 .i64 x20)) :: (4, Ent.blk b4 109 [Value.map (some b9)]) :: (5, Ent.blk b5 110 ([Value.func (.func 33) #[] #[Value.pointer (some ⟨b10, 0, none⟩), Value.pointer (some ⟨b4, 0, none⟩), Value.pointer (some ⟨b5, 0, none⟩)]])) :: (6, Ent.blk b6 112 (arrC 8 .i64 x21)) :: (7, Ent.blk b7 3 [Value.int .i64 x22]) :: (8, Ent.blk b8 114 (arrC 8 .i64 x23 ++ [Value.int .i64 x24])) :: (9, Ent.mp b9 (mpE ek_112 ev_114 x25)) :: (10, Ent.blk b10 47 [Value.int .i64 x26, Value.int .i64 x27, Value.slice a29 (List.length x28) c30]) :: fr)) (fun K => by kernel_rfl) 1 (by kernel_rfl) ?_
  intro b40
  refine WO.done (by kernel_rfl) ?_
  refine PO.nx ?_
  refine WP.seq (by kernel_rfl) ?_
  refine WP.reg (by kernel_rfl) ?_
  refine U.seg 2 [1, 5] [(1, .st 13)] (fun K => (b40 = b40) ∧ (K [(1, Value.pointer (some ⟨b2, 0, none⟩)), (5, Value.pointer (some ⟨b40, 0, none⟩))] ((13, Ent.blk b40 173 ([Value.func (.func 75) #[] #[Value.pointer (some ⟨b2, 0, none⟩), Value.pointer (some ⟨b38, 0, none⟩), Value.pointer (some ⟨b39, 0, none⟩), Value.pointer (some ⟨b3, 0, none⟩), Value.pointer (some ⟨b40, 0, none⟩)]])) :: (12, Ent.blk b39 112 (arrC 8 .i64 (List.replicate 8 (0 : Int)))) :: (11, Ent.blk b38 172 [yv b1]) :: (1, Ent.ob b1 (.loop (lrec b11 T12 #[22] (C_33.r.r.r.r.l.r.l.l) (C_33.r.r.r.r.l.r.l.r) b13 [] 0))) :: (2, Ent.blk b2 47 [Value.int .i64 x14, Value.int .i64 x15, Value.slice a17 (List.length x16) c18]) :: (3, Ent.blk b3 112 (arrC 8 .i64 x20)) :: (4, Ent.blk b4 109 [Value.map (some b9)]) :: (5, Ent.blk b5 110 ([Value.func (.func 33) #[] #[Value.pointer (some ⟨b10, 0, none⟩), Value.pointer (some ⟨b4, 0, none⟩), Value.pointer (some ⟨b5, 0, none⟩)]])) :: (6, Ent.blk b6 112 (arrC 8 .i64 x21)) :: (7, Ent.blk b7 3 [Value.int .i64 x22]) :: (8, Ent.blk b8 114 (arrC 8 .i64 x23 ++ [Value.int .i64 x24])) :: (9, Ent.mp b9 (mpE ek_112 ev_114 x25)) :: (10, Ent.blk b10 47 [Value.int .i64 x26, Value.int .i64 x27, Value.slice a29 (List.length x28) c30]) :: fr))) (fun K => by kernel_rfl) 2 (by kernel_rfl) ?_
  refine ⟨rfl, ?_⟩
  refine WO.done (by kernel_rfl) ?_
  refine PO.nx ?_
  refine WP.reg (by kernel_rfl) ?_
  refine U.seg 6 [7, 12] [(0, .ld 13), (2, .ld 2), (4, .ld 2)] (fun K => (b40 = b40) ∧ ((b2 = b2) ∧ ((b2 = b2) ∧ (K [(7, Value.func (.func 75) #[] #[Value.pointer (some ⟨b2, 0, none⟩), Value.pointer (some ⟨b38, 0, none⟩), Value.pointer (some ⟨b39, 0, none⟩), Value.pointer (some ⟨b3, 0, none⟩), Value.pointer (some ⟨b40, 0, none⟩)]), (12, Value.int .i64 (w64 (x14 + x15)))] ((13, Ent.blk b40 173 ([Value.func (.func 75) #[] #[Value.pointer (some ⟨b2, 0, none⟩), Value.pointer (some ⟨b38, 0, none⟩), Value.pointer (some ⟨b39, 0, none⟩), Value.pointer (some ⟨b3, 0, none⟩), Value.pointer (some ⟨b40, 0, none⟩)]])) :: (12, Ent.blk b39 112 (arrC 8 .i64 (List.replicate 8 (0 : Int)))) :: (11, Ent.blk b38 172 [yv b1]) :: (1, Ent.ob b1 (.loop (lrec b11 T12 #[22] (C_33.r.r.r.r.l.r.l.l) (C_33.r.r.r.r.l.r.l.r) b13 [] 0))) :: (2, Ent.blk b2 47 [Value.int .i64 x14, Value.int .i64 x15, Value.slice a17 (List.length x16) c18]) :: (3, Ent.blk b3 112 (arrC 8 .i64 x20)) :: (4, Ent.blk b4 109 [Value.map (some b9)]) :: (5, Ent.blk b5 110 ([Value.func (.func 33) #[] #[Value.pointer (some ⟨b10, 0, none⟩), Value.pointer (some ⟨b4, 0, none⟩), Value.pointer (some ⟨b5, 0, none⟩)]])) :: (6, Ent.blk b6 112 (arrC 8 .i64 x21)) :: (7, Ent.blk b7 3 [Value.int .i64 x22]) :: (8, Ent.blk b8 114 (arrC 8 .i64 x23 ++ [Value.int .i64 x24])) :: (9, Ent.mp b9 (mpE ek_112 ev_114 x25)) :: (10, Ent.blk b10 47 [Value.int .i64 x26, Value.int .i64 x27, Value.slice a29 (List.length x28) c30]) :: fr))))) (fun K => by kernel_rfl) 6 (by kernel_rfl) ?_
  refine ⟨rfl, ?_⟩
  refine ⟨rfl, ?_⟩
  refine ⟨rfl, ?_⟩
  obtain ⟨x41, h42, H⟩ := bnd_some H
  refine U.step 7 (by kernel_rfl) (U.call (dst := some 13) (fun w hw => c_f75_1 kk F_f37 hF_f37 0 (w64 (x14 + x15)) x14 x15 x16 (List.replicate 8 (0 : Int)) x20 x21 x22 x23 x24 x25 x26 x27 x28 b2 b38 b39 b3 b40 b1 b4 b5 b6 b7 b8 b9 b10 a17 c18 b11 T12 b13 a29 c30 h33 (List.length_replicate ..) h34 h32 h35 h36 h37 h42 (okNT 13 [(1, 4), (2, 2), (3, 1), (4, 5), (5, 0), (6, 3), (7, 6), (8, 7), (9, 8), (10, 9), (11, 10), (12, 11), (13, 12)] (by kernel_rfl) rfl hw)) (by kernel_rfl) (enters_of Try.func75 (by kernel_rfl) rfl)) ?_
  rintro _ ⟨h45, h46⟩
  refine U.pick  13 [(2, 0), (11, 1), (12, 2), (3, 3), (13, 4), (1, 5), (4, 6), (5, 7), (6, 8), (7, 9), (8, 10), (9, 11), (10, 12)] ((2, Ent.blk b2 47 [Value.int .i64 x14, Value.int .i64 x15, Value.slice a17 (List.length x16) c18]) :: (11, Ent.blk b38 172 [yv b1]) :: (12, Ent.blk b39 112 (arrC 8 .i64 x41.2.1)) :: (3, Ent.blk b3 112 (arrC 8 .i64 x20)) :: (13, Ent.blk b40 173 ([Value.func (.func 75) #[] #[Value.pointer (some ⟨b2, 0, none⟩), Value.pointer (some ⟨b38, 0, none⟩), Value.pointer (some ⟨b39, 0, none⟩), Value.pointer (some ⟨b3, 0, none⟩), Value.pointer (some ⟨b40, 0, none⟩)]])) :: (1, Ent.ob b1 (.loop (lrec b11 T12 #[22] (C_33.r.r.r.r.l.r.l.l) (C_33.r.r.r.r.l.r.l.r) b13 [] 0))) :: (4, Ent.blk b4 109 [Value.map (some b9)]) :: (5, Ent.blk b5 110 ([Value.func (.func 33) #[] #[Value.pointer (some ⟨b10, 0, none⟩), Value.pointer (some ⟨b4, 0, none⟩), Value.pointer (some ⟨b5, 0, none⟩)]])) :: (6, Ent.blk b6 112 (arrC 8 .i64 x21)) :: (7, Ent.blk b7 3 [Value.int .i64 x22]) :: (8, Ent.blk b8 114 (arrC 8 .i64 x41.2.2.1 ++ [Value.int .i64 x41.2.2.2.1])) :: (9, Ent.mp b9 (mpE ek_112 ev_114 x41.2.2.2.2)) :: (10, Ent.blk b10 47 [Value.int .i64 x26, Value.int .i64 x27, Value.slice a29 (List.length x28) c30]) :: fr) (by kernel_rfl) rfl ?_
  refine WO.done (by kernel_rfl) ?_
  have hr := Option.some.inj H
  subst hr
  refine PO.bodyN ?_
  refine PO.body [] ((2, Ent.blk b2 47 [Value.int .i64 x14, Value.int .i64 x15, Value.slice a17 (List.length x16) c18]) :: (11, Ent.blk b38 172 [yv b1]) :: (12, Ent.blk b39 112 (arrC 8 .i64 x41.2.1)) :: (3, Ent.blk b3 112 (arrC 8 .i64 x20)) :: (13, Ent.blk b40 173 ([Value.func (.func 75) #[] #[Value.pointer (some ⟨b2, 0, none⟩), Value.pointer (some ⟨b38, 0, none⟩), Value.pointer (some ⟨b39, 0, none⟩), Value.pointer (some ⟨b3, 0, none⟩), Value.pointer (some ⟨b40, 0, none⟩)]])) :: (1, Ent.ob b1 (.loop (lrec b11 T12 #[22] (C_33.r.r.r.r.l.r.l.l) (C_33.r.r.r.r.l.r.l.r) b13 [] 0))) :: (4, Ent.blk b4 109 [Value.map (some b9)]) :: (5, Ent.blk b5 110 ([Value.func (.func 33) #[] #[Value.pointer (some ⟨b10, 0, none⟩), Value.pointer (some ⟨b4, 0, none⟩), Value.pointer (some ⟨b5, 0, none⟩)]])) :: (6, Ent.blk b6 112 (arrC 8 .i64 x21)) :: (7, Ent.blk b7 3 [Value.int .i64 x22]) :: (8, Ent.blk b8 114 (arrC 8 .i64 x41.2.2.1 ++ [Value.int .i64 x41.2.2.2.1])) :: (9, Ent.mp b9 (mpE ek_112 ev_114 x41.2.2.2.2)) :: (10, Ent.blk b10 47 [Value.int .i64 x26, Value.int .i64 x27, Value.slice a29 (List.length x28) c30]) :: fr) rfl Res.nil ?_
  exact fun w hw => Ret.mk () h46 rfl (okNT 13 [(1, 5), (2, 0), (3, 3), (4, 6), (5, 7), (6, 8), (7, 9), (8, 10), (9, 11), (10, 12)] (by kernel_rfl) rfl hw)

set_option maxRecDepth 100000 in
theorem c_f33 (kk : Nat) (F_f37 : (List Int) → Int → Int → (List (Int × Int)) → (List ((List Int) × ((List Int) × Int))) → Option ((List Int) × Int × (List ((List Int) × ((List Int) × Int))))) (hF_f37 : S_f37 F_f37) (x5 : (List Int)) (x6 : Int) (x7 : Int) (x8 : (List (Int × Int))) (x12 : (List ((List Int) × ((List Int) × Int)))) (b1 : Nat) (b2 : Nat) (b3 : Nat) (b4 : Nat) (a9 : Option Addr) (c10 : Nat) {g : GH} (h13 : x5.length = 8) (h14 : Sl (Kd.pair (Kd.int .i64) (Kd.int .i64)) g a9 (List.length x8) c10 x8) {r : ((List Int) × Int × (List ((List Int) × ((List Int) × Int))))} (H : m_f33 kk F_f37 x5 x6 x7 x8 x12 = some r) {fr : Hs} {w : World} (hw : Ok g ((1, Ent.blk b1 47 [Value.int .i64 x6, Value.int .i64 x7, Value.slice a9 (List.length x8) c10]) :: (2, Ent.blk b2 109 [Value.map (some b4)]) :: (3, Ent.blk b3 110 ([Value.func (.func 33) #[] #[Value.pointer (some ⟨b1, 0, none⟩), Value.pointer (some ⟨b2, 0, none⟩), Value.pointer (some ⟨b3, 0, none⟩)]])) :: (4, Ent.mp b4 (mpE ek_112 ev_114 x12)) :: fr) w) :
    Calls Try.prog 33 (List.toArray [Value.agg ((arrC 8 .i64 x5)).toArray, Value.pointer (some ⟨b1, 0, none⟩), Value.pointer (some ⟨b2, 0, none⟩), Value.pointer (some ⟨b3, 0, none⟩)]) w (Ret (fun _ : Unit => List.length r.1 = 8) (fun _ => Value.agg ((arrC 8 .i64 r.1 ++ [Value.int .i64 r.2.1])).toArray) (fun _ => g) (fun _ => ((1, Ent.blk b1 47 [Value.int .i64 x6, Value.int .i64 x7, Value.slice a9 (List.length x8) c10]) :: (2, Ent.blk b2 109 [Value.map (some b4)]) :: (3, Ent.blk b3 110 ([Value.func (.func 33) #[] #[Value.pointer (some ⟨b1, 0, none⟩), Value.pointer (some ⟨b2, 0, none⟩), Value.pointer (some ⟨b3, 0, none⟩)]])) :: (4, Ent.mp b4 (mpE ek_112 ev_114 r.2.2)) :: fr))) := by
  refine fn_wp (args := [Value.agg ((arrC 8 .i64 x5)).toArray, Value.pointer (some ⟨b1, 0, none⟩), Value.pointer (some ⟨b2, 0, none⟩), Value.pointer (some ⟨b3, 0, none⟩)]) (c := C_33) Try.func33 (by kernel_rfl) Try.ntmps33 (by kernel_rfl) ?_ hw
  unfold m_f33 at H
  refine WP.seq (by kernel_rfl) ?_
  refine WP.reg (by kernel_rfl) ?_
  refine U.seg 2 [1, 2, 3, 4, 5] [(0, .al 5), (1, .al 6)] (fun K => ∀ b15 : Nat, ∀ b16 : Nat, K [(1, Value.pointer (some ⟨b1, 0, none⟩)), (2, Value.pointer (some ⟨b2, 0, none⟩)), (3, Value.pointer (some ⟨b3, 0, none⟩)), (4, Value.pointer (some ⟨b15, 0, none⟩)), (5, Value.pointer (some ⟨b16, 0, none⟩))] ((6, Ent.blk b16 114 (arrC 8 .i64 (List.replicate 8 (0 : Int)) ++ [Value.int .i64 0])) :: (5, Ent.blk b15 112 (arrC 8 .i64 x5)) :: (1, Ent.blk b1 47 [Value.int .i64 x6, Value.int .i64 x7, Value.slice a9 (List.length x8) c10]) :: (2, Ent.blk b2 109 [Value.map (some b4)]) :: (3, Ent.blk b3 110 ([Value.func (.func 33) #[] #[Value.pointer (some ⟨b1, 0, none⟩), Value.pointer (some ⟨b2, 0, none⟩), Value.pointer (some ⟨b3, 0, none⟩)]])) :: (4, Ent.mp b4 (mpE ek_112 ev_114 x12)) :: fr)) (fun K => by kernel_rfl) 2 (by kernel_rfl) ?_
  intro b15
  intro b16
  refine WO.done (by kernel_rfl) ?_
  refine PO.nx ?_
  refine WP.seq (by kernel_rfl) ?_
  refine WP.reg (by kernel_rfl) ?_
  refine U.seg 1 [1, 2, 3, 4, 5, 13] [] (fun K => K [(1, Value.pointer (some ⟨b1, 0, none⟩)), (2, Value.pointer (some ⟨b2, 0, none⟩)), (3, Value.pointer (some ⟨b3, 0, none⟩)), (4, Value.pointer (some ⟨b15, 0, none⟩)), (5, Value.pointer (some ⟨b16, 0, none⟩)), (13, Value.slice (some ⟨b15, 0, none⟩ : Option Addr) 8 8)] ((6, Ent.blk b16 114 (arrC 8 .i64 (List.replicate 8 (0 : Int)) ++ [Value.int .i64 0])) :: (5, Ent.blk b15 112 (arrC 8 .i64 x5)) :: (1, Ent.blk b1 47 [Value.int .i64 x6, Value.int .i64 x7, Value.slice a9 (List.length x8) c10]) :: (2, Ent.blk b2 109 [Value.map (some b4)]) :: (3, Ent.blk b3 110 ([Value.func (.func 33) #[] #[Value.pointer (some ⟨b1, 0, none⟩), Value.pointer (some ⟨b2, 0, none⟩), Value.pointer (some ⟨b3, 0, none⟩)]])) :: (4, Ent.mp b4 (mpE ek_112 ev_114 x12)) :: fr)) (fun K => by kernel_rfl) 1 (by kernel_rfl) ?_
  refine U.as (t := 13) (congrArg (fun n => Value.slice (some ⟨b15, 0, none⟩ : Option Addr) n 8) h13.symm) (by kernel_rfl) ?_
  refine U.blkSl (t := 5) (b := b15) (T := 112) (m := 8) (n' := (List.length x5)) (sz := 1) (cs := (arrC 8 .i64 x5)) ((6, Ent.blk b16 114 (arrC 8 .i64 (List.replicate 8 (0 : Int)) ++ [Value.int .i64 0])) :: (5, Ent.sl (some ⟨b15, 0, none⟩ : Option Addr) (List.length x5) 8 112 1 (arrC 8 .i64 x5)) :: (1, Ent.blk b1 47 [Value.int .i64 x6, Value.int .i64 x7, Value.slice a9 (List.length x8) c10]) :: (2, Ent.blk b2 109 [Value.map (some b4)]) :: (3, Ent.blk b3 110 ([Value.func (.func 33) #[] #[Value.pointer (some ⟨b1, 0, none⟩), Value.pointer (some ⟨b2, 0, none⟩), Value.pointer (some ⟨b3, 0, none⟩)]])) :: (4, Ent.mp b4 (mpE ek_112 ev_114 x12)) :: fr) (by kernel_rfl) rfl (by simp [arrC]) h13.symm (by decide) ?_
  obtain ⟨x18, h19, H⟩ := bnd_some H
  refine U.step 2 (by kernel_rfl) (U.call (dst := some 14) (fun w hw => c_f34 kk x5 (some ⟨b15, 0, none⟩ : Option Addr) 8 (arrC 8 .i64 x5) (Rw.arr (k := .i64) h13) h19 (okNT 6 [(1, 1), (6, 0), (1, 2), (2, 3), (3, 4), (4, 5)] (by kernel_rfl) rfl hw)) (by kernel_rfl) (enters_of Try.func34 (by kernel_rfl) rfl)) ?_
  rintro _ _
  refine U.pick  6 [(5, 0), (6, 1), (1, 2), (2, 3), (3, 4), (4, 5)] ((5, Ent.sl (some ⟨b15, 0, none⟩ : Option Addr) (List.length x5) 8 112 1 (arrC 8 .i64 x5)) :: (6, Ent.blk b16 114 (arrC 8 .i64 (List.replicate 8 (0 : Int)) ++ [Value.int .i64 0])) :: (1, Ent.blk b1 47 [Value.int .i64 x6, Value.int .i64 x7, Value.slice a9 (List.length x8) c10]) :: (2, Ent.blk b2 109 [Value.map (some b4)]) :: (3, Ent.blk b3 110 ([Value.func (.func 33) #[] #[Value.pointer (some ⟨b1, 0, none⟩), Value.pointer (some ⟨b2, 0, none⟩), Value.pointer (some ⟨b3, 0, none⟩)]])) :: (4, Ent.mp b4 (mpE ek_112 ev_114 x12)) :: fr) (by kernel_rfl) rfl ?_
  refine U.slBlk (t := 5) (b := b15) (T := 112) (m := 8) (n' := (List.length x5)) (sz := 1) (cs := (arrC 8 .i64 x5)) ((5, Ent.blk b15 112 (arrC 8 .i64 x5)) :: (6, Ent.blk b16 114 (arrC 8 .i64 (List.replicate 8 (0 : Int)) ++ [Value.int .i64 0])) :: (1, Ent.blk b1 47 [Value.int .i64 x6, Value.int .i64 x7, Value.slice a9 (List.length x8) c10]) :: (2, Ent.blk b2 109 [Value.map (some b4)]) :: (3, Ent.blk b3 110 ([Value.func (.func 33) #[] #[Value.pointer (some ⟨b1, 0, none⟩), Value.pointer (some ⟨b2, 0, none⟩), Value.pointer (some ⟨b3, 0, none⟩)]])) :: (4, Ent.mp b4 (mpE ek_112 ev_114 x12)) :: fr) (by kernel_rfl) rfl h13.symm ?_
  refine U.seg 2 [1, 2, 3, 4, 5, 6] [(2, .al 7), (3, .st 7)] (fun K => ∀ b21 : Nat, (b21 = b21) ∧ (K [(1, Value.pointer (some ⟨b1, 0, none⟩)), (2, Value.pointer (some ⟨b2, 0, none⟩)), (3, Value.pointer (some ⟨b3, 0, none⟩)), (4, Value.pointer (some ⟨b15, 0, none⟩)), (5, Value.pointer (some ⟨b16, 0, none⟩)), (6, Value.pointer (some ⟨b21, 0, none⟩))] ((7, Ent.blk b21 3 [Value.int .i64 x18]) :: (5, Ent.blk b15 112 (arrC 8 .i64 x5)) :: (6, Ent.blk b16 114 (arrC 8 .i64 (List.replicate 8 (0 : Int)) ++ [Value.int .i64 0])) :: (1, Ent.blk b1 47 [Value.int .i64 x6, Value.int .i64 x7, Value.slice a9 (List.length x8) c10]) :: (2, Ent.blk b2 109 [Value.map (some b4)]) :: (3, Ent.blk b3 110 ([Value.func (.func 33) #[] #[Value.pointer (some ⟨b1, 0, none⟩), Value.pointer (some ⟨b2, 0, none⟩), Value.pointer (some ⟨b3, 0, none⟩)]])) :: (4, Ent.mp b4 (mpE ek_112 ev_114 x12)) :: fr))) (fun K => by kernel_rfl) 4 (by kernel_rfl) ?_
  intro b21
  refine ⟨rfl, ?_⟩
  refine WO.done (by kernel_rfl) ?_
  refine PO.nx ?_
  refine WP.seq (by kernel_rfl) ?_
  refine WP.seq (by kernel_rfl) ?_
  refine WP.reg (by kernel_rfl) ?_
  refine U.seg 2 [1, 2, 3, 4, 5, 6, 16] [(0, .ld 7)] (fun K => (b21 = b21) ∧ (K [(1, Value.pointer (some ⟨b1, 0, none⟩)), (2, Value.pointer (some ⟨b2, 0, none⟩)), (3, Value.pointer (some ⟨b3, 0, none⟩)), (4, Value.pointer (some ⟨b15, 0, none⟩)), (5, Value.pointer (some ⟨b16, 0, none⟩)), (6, Value.pointer (some ⟨b21, 0, none⟩)), (16, Value.bool (decide (x18 < 0)))] ((7, Ent.blk b21 3 [Value.int .i64 x18]) :: (5, Ent.blk b15 112 (arrC 8 .i64 x5)) :: (6, Ent.blk b16 114 (arrC 8 .i64 (List.replicate 8 (0 : Int)) ++ [Value.int .i64 0])) :: (1, Ent.blk b1 47 [Value.int .i64 x6, Value.int .i64 x7, Value.slice a9 (List.length x8) c10]) :: (2, Ent.blk b2 109 [Value.map (some b4)]) :: (3, Ent.blk b3 110 ([Value.func (.func 33) #[] #[Value.pointer (some ⟨b1, 0, none⟩), Value.pointer (some ⟨b2, 0, none⟩), Value.pointer (some ⟨b3, 0, none⟩)]])) :: (4, Ent.mp b4 (mpE ek_112 ev_114 x12)) :: fr))) (fun K => by kernel_rfl) 2 (by kernel_rfl) ?_
  refine ⟨rfl, ?_⟩
  refine WO.done (by kernel_rfl) ?_
  refine PO.nx ?_
  rcases cond_some H with ⟨h22, H⟩ | ⟨h22, H⟩
  · refine U.asW (t := 16) (congrArg Value.bool h22) (by kernel_rfl) ?_
    refine WP.condT (by kernel_rfl) ?_
    refine WP.seq (by kernel_rfl) ?_
    refine WP.reg (by kernel_rfl) ?_
    refine U.seg 2 [5] [(1, .st 6)] (fun K => (b16 = b16) ∧ (K [(5, Value.pointer (some ⟨b16, 0, none⟩))] ((7, Ent.blk b21 3 [Value.int .i64 x18]) :: (5, Ent.blk b15 112 (arrC 8 .i64 x5)) :: (6, Ent.blk b16 114 (arrC 8 .i64 (List.replicate 8 (0 : Int)) ++ [Value.int .i64 0])) :: (1, Ent.blk b1 47 [Value.int .i64 x6, Value.int .i64 x7, Value.slice a9 (List.length x8) c10]) :: (2, Ent.blk b2 109 [Value.map (some b4)]) :: (3, Ent.blk b3 110 ([Value.func (.func 33) #[] #[Value.pointer (some ⟨b1, 0, none⟩), Value.pointer (some ⟨b2, 0, none⟩), Value.pointer (some ⟨b3, 0, none⟩)]])) :: (4, Ent.mp b4 (mpE ek_112 ev_114 x12)) :: fr))) (fun K => by kernel_rfl) 2 (by kernel_rfl) ?_
    refine ⟨rfl, ?_⟩
    refine WO.done (by kernel_rfl) ?_
    refine PO.nx ?_
    refine WP.ret (by kernel_rfl) ?_
    refine PO.nx_ret ?_
    have hr := Option.some.inj H
    subst hr
    refine PO.body [Value.agg ((arrC 8 .i64 (List.replicate 8 (0 : Int)) ++ [Value.int .i64 0])).toArray] ((7, Ent.blk b21 3 [Value.int .i64 x18]) :: (5, Ent.blk b15 112 (arrC 8 .i64 x5)) :: (6, Ent.blk b16 114 (arrC 8 .i64 (List.replicate 8 (0 : Int)) ++ [Value.int .i64 0])) :: (1, Ent.blk b1 47 [Value.int .i64 x6, Value.int .i64 x7, Value.slice a9 (List.length x8) c10]) :: (2, Ent.blk b2 109 [Value.map (some b4)]) :: (3, Ent.blk b3 110 ([Value.func (.func 33) #[] #[Value.pointer (some ⟨b1, 0, none⟩), Value.pointer (some ⟨b2, 0, none⟩), Value.pointer (some ⟨b3, 0, none⟩)]])) :: (4, Ent.mp b4 (mpE ek_112 ev_114 x12)) :: fr) rfl (Res.cell b16 0 6 (Ent.blk b16 114 (arrC 8 .i64 (List.replicate 8 (0 : Int)) ++ [Value.int .i64 0])) (arrC 8 .i64 (List.replicate 8 (0 : Int)) ++ [Value.int .i64 0]) true 9 (by kernel_rfl) (by kernel_rfl) (by kernel_rfl) (by kernel_rfl) (by kernel_rfl) (OwnRead.agg rfl rfl) Res.nil) ?_
    exact fun w hw => Ret.mk () (List.length_replicate ..) rfl (okNT 7 [(1, 3), (2, 4), (3, 5), (4, 6)] (by kernel_rfl) rfl hw)
  · refine U.asW (t := 16) (congrArg Value.bool h22) (by kernel_rfl) ?_
    refine WP.condF (by kernel_rfl) ?_
    refine WP.skip (by kernel_rfl) ?_
    refine PO.nx ?_
    refine WP.seq (by kernel_rfl) ?_
    refine WP.reg (by kernel_rfl) ?_
    refine U.seg 3 [1, 2, 3, 4, 5, 6, 7] [(1, .al 8), (2, .st 8)] (fun K => ∀ b23 : Nat, (b23 = b23) ∧ (K [(1, Value.pointer (some ⟨b1, 0, none⟩)), (2, Value.pointer (some ⟨b2, 0, none⟩)), (3, Value.pointer (some ⟨b3, 0, none⟩)), (4, Value.pointer (some ⟨b15, 0, none⟩)), (5, Value.pointer (some ⟨b16, 0, none⟩)), (6, Value.pointer (some ⟨b21, 0, none⟩)), (7, Value.pointer (some ⟨b23, 0, none⟩))] ((8, Ent.blk b23 114 (arrC 8 .i64 (List.replicate 8 (0 : Int)) ++ [Value.int .i64 13])) :: (7, Ent.blk b21 3 [Value.int .i64 x18]) :: (5, Ent.blk b15 112 (arrC 8 .i64 x5)) :: (6, Ent.blk b16 114 (arrC 8 .i64 (List.replicate 8 (0 : Int)) ++ [Value.int .i64 0])) :: (1, Ent.blk b1 47 [Value.int .i64 x6, Value.int .i64 x7, Value.slice a9 (List.length x8) c10]) :: (2, Ent.blk b2 109 [Value.map (some b4)]) :: (3, Ent.blk b3 110 ([Value.func (.func 33) #[] #[Value.pointer (some ⟨b1, 0, none⟩), Value.pointer (some ⟨b2, 0, none⟩), Value.pointer (some ⟨b3, 0, none⟩)]])) :: (4, Ent.mp b4 (mpE ek_112 ev_114 x12)) :: fr))) (fun K => by kernel_rfl) 3 (by kernel_rfl) ?_
    intro b23
    refine ⟨rfl, ?_⟩
    refine WO.done (by kernel_rfl) ?_
    refine PO.nx ?_
    refine WP.seq (by kernel_rfl) ?_
    refine WP.seq (by kernel_rfl) ?_
    refine WP.reg (by kernel_rfl) ?_
    refine U.seg 2 [2, 3, 4, 5, 6, 7, 19, 20] [(0, .ld 1), (1, .ld 5)] (fun K => (b1 = b1) ∧ ((b15 = b15) ∧ (K [(2, Value.pointer (some ⟨b2, 0, none⟩)), (3, Value.pointer (some ⟨b3, 0, none⟩)), (4, Value.pointer (some ⟨b15, 0, none⟩)), (5, Value.pointer (some ⟨b16, 0, none⟩)), (6, Value.pointer (some ⟨b21, 0, none⟩)), (7, Value.pointer (some ⟨b23, 0, none⟩)), (19, Value.agg #[Value.int .i64 x6, Value.int .i64 x7, Value.slice a9 (List.length x8) c10]), (20, Value.agg ((arrC 8 .i64 x5)).toArray)] ((8, Ent.blk b23 114 (arrC 8 .i64 (List.replicate 8 (0 : Int)) ++ [Value.int .i64 13])) :: (7, Ent.blk b21 3 [Value.int .i64 x18]) :: (5, Ent.blk b15 112 (arrC 8 .i64 x5)) :: (6, Ent.blk b16 114 (arrC 8 .i64 (List.replicate 8 (0 : Int)) ++ [Value.int .i64 0])) :: (1, Ent.blk b1 47 [Value.int .i64 x6, Value.int .i64 x7, Value.slice a9 (List.length x8) c10]) :: (2, Ent.blk b2 109 [Value.map (some b4)]) :: (3, Ent.blk b3 110 ([Value.func (.func 33) #[] #[Value.pointer (some ⟨b1, 0, none⟩), Value.pointer (some ⟨b2, 0, none⟩), Value.pointer (some ⟨b3, 0, none⟩)]])) :: (4, Ent.mp b4 (mpE ek_112 ev_114 x12)) :: fr)))) (fun K => by kernel_rfl) 2 (by kernel_rfl) ?_
    refine ⟨rfl, ?_⟩
    refine ⟨rfl, ?_⟩
    obtain ⟨x24, h25, H⟩ := bnd_some H
    refine U.step 3 (by kernel_rfl) (U.call (dst := some 21) (fun w hw => c_f36 kk x6 x7 x8 x5 a9 c10 h14 h13 h25 hw) (by kernel_rfl) (enters_of Try.func36 (by kernel_rfl) rfl)) ?_
    rintro ⟨g26, b28, b29, a30, c31⟩ ⟨h27, h33, h34⟩
    refine U.pick  10 [(9, 0), (10, 1), (8, 2), (7, 3), (5, 4), (6, 5), (1, 6), (2, 7), (3, 8), (4, 9)] ((9, Ent.blk b28 47 [Value.int .i64 x24.1, Value.int .i64 x24.2.1, Value.slice a30 (List.length x24.2.2.1) c31]) :: (10, Ent.blk b29 112 (arrC 8 .i64 x24.2.2.2)) :: (8, Ent.blk b23 114 (arrC 8 .i64 (List.replicate 8 (0 : Int)) ++ [Value.int .i64 13])) :: (7, Ent.blk b21 3 [Value.int .i64 x18]) :: (5, Ent.blk b15 112 (arrC 8 .i64 x5)) :: (6, Ent.blk b16 114 (arrC 8 .i64 (List.replicate 8 (0 : Int)) ++ [Value.int .i64 0])) :: (1, Ent.blk b1 47 [Value.int .i64 x6, Value.int .i64 x7, Value.slice a9 (List.length x8) c10]) :: (2, Ent.blk b2 109 [Value.map (some b4)]) :: (3, Ent.blk b3 110 ([Value.func (.func 33) #[] #[Value.pointer (some ⟨b1, 0, none⟩), Value.pointer (some ⟨b2, 0, none⟩), Value.pointer (some ⟨b3, 0, none⟩)]])) :: (4, Ent.mp b4 (mpE ek_112 ev_114 x12)) :: fr) (by kernel_rfl) rfl ?_
    refine WO.done (by kernel_rfl) ?_
    refine PO.nx ?_
    refine WP.block (id := 0) (by kernel_rfl) ?_
    refine U.selW [2, 3, 4, 5, 6, 7, 21] [(2, Value.pointer (some ⟨b2, 0, none⟩)), (3, Value.pointer (some ⟨b3, 0, none⟩)), (4, Value.pointer (some ⟨b15, 0, none⟩)), (5, Value.pointer (some ⟨b16, 0, none⟩)), (6, Value.pointer (some ⟨b21, 0, none⟩)), (7, Value.pointer (some ⟨b23, 0, none⟩)), (21, Value.func (.func 74) #[] #[Value.pointer (some ⟨b28, 0, none⟩), Value.pointer (some ⟨b29, 0, none⟩)])] rfl ?_
    obtain ⟨x40, h41, H⟩ := bnd_some H
    refine U.range (K := 74) (first := []) (cap := [Value.pointer (some ⟨b28, 0, none⟩), Value.pointer (some ⟨b29, 0, none⟩)]) (ps := #[22]) [] 11 12 1 (by kernel_rfl) (enters_of Try.func74 (by kernel_rfl) rfl) (fun b38 T37 b36 b35 h39 => ⟨_, _, _, _, _, fun w hw => c_f74_1 kk F_f37 hF_f37 x24.1 x24.2.1 x24.2.2.1 x24.2.2.2 x5 x18 (List.replicate 8 (0 : Int)) 13 x12 x6 x7 x8 b35 b28 b29 b2 b3 b15 b21 b23 b4 b1 b38 T37 b36 a30 c31 a9 c10 (h39.sel [2, 3, 4, 6, 7] rfl) h33 h34 h13 (List.length_replicate ..) (h14.mono h27) h41 (okNT 12 [(1, 0), (2, 2), (3, 3), (4, 9), (5, 10), (6, 6), (7, 5), (8, 4), (9, 11), (10, 8), (12, 1), (6, 7)] (by kernel_rfl) rfl hw), ?_⟩)
    rintro _ h44
    refine ⟨0, by kernel_rfl, ?_⟩
    refine U.pickJ 11 [(9, 0), (10, 1), (2, 2), (3, 3), (5, 4), (7, 5), (8, 6), (4, 7), (1, 8), (12, 9), (6, 10)] ((9, Ent.blk b28 47 [Value.int .i64 x24.1, Value.int .i64 x24.2.1, Value.slice a30 (List.length x24.2.2.1) c31]) :: (10, Ent.blk b29 112 (arrC 8 .i64 x24.2.2.2)) :: (2, Ent.blk b2 109 [Value.map (some b4)]) :: (3, Ent.blk b3 110 ([Value.func (.func 33) #[] #[Value.pointer (some ⟨b1, 0, none⟩), Value.pointer (some ⟨b2, 0, none⟩), Value.pointer (some ⟨b3, 0, none⟩)]])) :: (5, Ent.blk b15 112 (arrC 8 .i64 x5)) :: (7, Ent.blk b21 3 [Value.int .i64 x18]) :: (8, Ent.blk b23 114 (arrC 8 .i64 x40.1 ++ [Value.int .i64 x40.2.1])) :: (4, Ent.mp b4 (mpE ek_112 ev_114 x40.2.2)) :: (1, Ent.blk b1 47 [Value.int .i64 x6, Value.int .i64 x7, Value.slice a9 (List.length x8) c10]) :: (12, Ent.ob b36 (.deferred (some []))) :: (6, Ent.blk b16 114 (arrC 8 .i64 (List.replicate 8 (0 : Int)) ++ [Value.int .i64 0])) :: fr) (by kernel_rfl) rfl ?_
    refine PJ.zero rfl ?_
    refine PO.blk_normal ?_
    refine PO.nx ?_
    refine WP.seq (by kernel_rfl) ?_
    refine WP.reg (by kernel_rfl) ?_
    refine U.seg 2 [5] [(0, .ld 8), (1, .st 6)] (fun K => (b23 = b23) ∧ ((b16 = b16) ∧ (K [(5, Value.pointer (some ⟨b16, 0, none⟩))] ((9, Ent.blk b28 47 [Value.int .i64 x24.1, Value.int .i64 x24.2.1, Value.slice a30 (List.length x24.2.2.1) c31]) :: (10, Ent.blk b29 112 (arrC 8 .i64 x24.2.2.2)) :: (2, Ent.blk b2 109 [Value.map (some b4)]) :: (3, Ent.blk b3 110 ([Value.func (.func 33) #[] #[Value.pointer (some ⟨b1, 0, none⟩), Value.pointer (some ⟨b2, 0, none⟩), Value.pointer (some ⟨b3, 0, none⟩)]])) :: (5, Ent.blk b15 112 (arrC 8 .i64 x5)) :: (7, Ent.blk b21 3 [Value.int .i64 x18]) :: (8, Ent.blk b23 114 (arrC 8 .i64 x40.1 ++ [Value.int .i64 x40.2.1])) :: (4, Ent.mp b4 (mpE ek_112 ev_114 x40.2.2)) :: (1, Ent.blk b1 47 [Value.int .i64 x6, Value.int .i64 x7, Value.slice a9 (List.length x8) c10]) :: (12, Ent.ob b36 (.deferred (some []))) :: (6, Ent.blk b16 114 (arrC 8 .i64 x40.1 ++ [Value.int .i64 x40.2.1])) :: fr)))) (fun K => by kernel_rfl) 2 (by kernel_rfl) ?_
    refine ⟨rfl, ?_⟩
    refine ⟨rfl, ?_⟩
    refine WO.done (by kernel_rfl) ?_
    refine PO.nx ?_
    refine WP.ret (by kernel_rfl) ?_
    have hr := Option.some.inj H
    subst hr
    refine PO.body [Value.agg ((arrC 8 .i64 x40.1 ++ [Value.int .i64 x40.2.1])).toArray] ((9, Ent.blk b28 47 [Value.int .i64 x24.1, Value.int .i64 x24.2.1, Value.slice a30 (List.length x24.2.2.1) c31]) :: (10, Ent.blk b29 112 (arrC 8 .i64 x24.2.2.2)) :: (2, Ent.blk b2 109 [Value.map (some b4)]) :: (3, Ent.blk b3 110 ([Value.func (.func 33) #[] #[Value.pointer (some ⟨b1, 0, none⟩), Value.pointer (some ⟨b2, 0, none⟩), Value.pointer (some ⟨b3, 0, none⟩)]])) :: (5, Ent.blk b15 112 (arrC 8 .i64 x5)) :: (7, Ent.blk b21 3 [Value.int .i64 x18]) :: (8, Ent.blk b23 114 (arrC 8 .i64 x40.1 ++ [Value.int .i64 x40.2.1])) :: (4, Ent.mp b4 (mpE ek_112 ev_114 x40.2.2)) :: (1, Ent.blk b1 47 [Value.int .i64 x6, Value.int .i64 x7, Value.slice a9 (List.length x8) c10]) :: (12, Ent.ob b36 (.deferred none)) :: (6, Ent.blk b16 114 (arrC 8 .i64 x40.1 ++ [Value.int .i64 x40.2.1])) :: fr) ⟨b36, 12, rfl, by kernel_rfl, rfl⟩ (Res.cell b16 0 6 (Ent.blk b16 114 (arrC 8 .i64 x40.1 ++ [Value.int .i64 x40.2.1])) (arrC 8 .i64 x40.1 ++ [Value.int .i64 x40.2.1]) true 9 (by kernel_rfl) (by kernel_rfl) (by kernel_rfl) (by kernel_rfl) (by kernel_rfl) (OwnRead.agg rfl rfl) Res.nil) ?_
    exact fun w hw => Ret.mk () h44 rfl (Ok.gweak h27 (okNT 11 [(1, 8), (2, 2), (3, 3), (4, 7)] (by kernel_rfl) rfl hw))

set_option maxRecDepth 100000 in
theorem w_f37 (kk : Nat) (F_f37 : (List Int) → Int → Int → (List (Int × Int)) → (List ((List Int) × ((List Int) × Int))) → Option ((List Int) × Int × (List ((List Int) × ((List Int) × Int))))) (hF_f37 : S_f37 F_f37) (x5 : (List Int)) (x6 : Int) (x7 : Int) (x8 : (List (Int × Int))) (x12 : (List ((List Int) × ((List Int) × Int)))) (b1 : Nat) (b2 : Nat) (b3 : Nat) (b4 : Nat) (a9 : Option Addr) (c10 : Nat) {g : GH} (h13 : x5.length = 8) (h14 : Sl (Kd.pair (Kd.int .i64) (Kd.int .i64)) g a9 (List.length x8) c10 x8) {r : ((List Int) × Int × (List ((List Int) × ((List Int) × Int))))} (H : m_f37_s kk F_f37 x5 x6 x7 x8 x12 = some r) {fr : Hs} {w : World} (hw : Ok g ((1, Ent.blk b1 109 [Value.map (some b4)]) :: (2, Ent.blk b2 47 [Value.int .i64 x6, Value.int .i64 x7, Value.slice a9 (List.length x8) c10]) :: (3, Ent.blk b3 110 ([Value.func (.func 33) #[] #[Value.pointer (some ⟨b2, 0, none⟩), Value.pointer (some ⟨b1, 0, none⟩), Value.pointer (some ⟨b3, 0, none⟩)]])) :: (4, Ent.mp b4 (mpE ek_112 ev_114 x12)) :: fr) w) :
    Calls Try.prog 37 (List.toArray [Value.pointer (some ⟨b1, 0, none⟩), Value.agg ((arrC 8 .i64 x5)).toArray, Value.func (.func 33) #[] #[Value.pointer (some ⟨b2, 0, none⟩), Value.pointer (some ⟨b1, 0, none⟩), Value.pointer (some ⟨b3, 0, none⟩)]]) w (Ret (fun _ : Unit => List.length r.1 = 8) (fun _ => Value.agg ((arrC 8 .i64 r.1 ++ [Value.int .i64 r.2.1])).toArray) (fun _ => g) (fun _ => ((1, Ent.blk b1 109 [Value.map (some b4)]) :: (2, Ent.blk b2 47 [Value.int .i64 x6, Value.int .i64 x7, Value.slice a9 (List.length x8) c10]) :: (3, Ent.blk b3 110 ([Value.func (.func 33) #[] #[Value.pointer (some ⟨b2, 0, none⟩), Value.pointer (some ⟨b1, 0, none⟩), Value.pointer (some ⟨b3, 0, none⟩)]])) :: (4, Ent.mp b4 (mpE ek_112 ev_114 r.2.2)) :: fr))) := by
  refine fn_wp (args := [Value.pointer (some ⟨b1, 0, none⟩), Value.agg ((arrC 8 .i64 x5)).toArray, Value.func (.func 33) #[] #[Value.pointer (some ⟨b2, 0, none⟩), Value.pointer (some ⟨b1, 0, none⟩), Value.pointer (some ⟨b3, 0, none⟩)]]) (c := C_37) Try.func37 (by kernel_rfl) Try.ntmps37 (by kernel_rfl) ?_ hw
  unfold m_f37_s at H
  refine WP.seq (by kernel_rfl) ?_
  refine WP.reg (by kernel_rfl) ?_
  refine U.seg 2 [0, 2, 4, 6] [(0, .al 5), (1, .al 6)] (fun K => ∀ b15 : Nat, ∀ b16 : Nat, K [(0, Value.pointer (some ⟨b1, 0, none⟩)), (2, Value.func (.func 33) #[] #[Value.pointer (some ⟨b2, 0, none⟩), Value.pointer (some ⟨b1, 0, none⟩), Value.pointer (some ⟨b3, 0, none⟩)]), (4, Value.pointer (some ⟨b15, 0, none⟩)), (6, Value.pointer (some ⟨b16, 0, none⟩))] ((6, Ent.blk b16 114 (arrC 8 .i64 (List.replicate 8 (0 : Int)) ++ [Value.int .i64 0])) :: (5, Ent.blk b15 112 (arrC 8 .i64 x5)) :: (1, Ent.blk b1 109 [Value.map (some b4)]) :: (2, Ent.blk b2 47 [Value.int .i64 x6, Value.int .i64 x7, Value.slice a9 (List.length x8) c10]) :: (3, Ent.blk b3 110 ([Value.func (.func 33) #[] #[Value.pointer (some ⟨b2, 0, none⟩), Value.pointer (some ⟨b1, 0, none⟩), Value.pointer (some ⟨b3, 0, none⟩)]])) :: (4, Ent.mp b4 (mpE ek_112 ev_114 x12)) :: fr)) (fun K => by kernel_rfl) 2 (by kernel_rfl) ?_
  intro b15
  intro b16
  refine WO.done (by kernel_rfl) ?_
  refine PO.nx ?_
  refine WP.seq (by kernel_rfl) ?_
  refine U.draw [] g [(6, Ent.blk b16 114 (arrC 8 .i64 (List.replicate 8 (0 : Int)) ++ [Value.int .i64 0])), (5, Ent.blk b15 112 (arrC 8 .i64 x5)), (1, Ent.blk b1 109 [Value.map (some b4)]), (2, Ent.blk b2 47 [Value.int .i64 x6, Value.int .i64 x7, Value.slice a9 (List.length x8) c10]), (3, Ent.blk b3 110 ([Value.func (.func 33) #[] #[Value.pointer (some ⟨b2, 0, none⟩), Value.pointer (some ⟨b1, 0, none⟩), Value.pointer (some ⟨b3, 0, none⟩)]])), (4, Ent.mp b4 (mpE ek_112 ev_114 x12))] (by kernel_rfl) (by kernel_rfl) 12 (by kernel_rfl) (fun w hw => Ok.pickTo [(6, 0), (5, 1), (1, 2), (2, 3), (3, 4), (4, 5)] (by kernel_rfl) (by kernel_rfl) (GH.le_refl _) hw) ?_
  obtain ⟨x21, h22, H⟩ := bnd_some H
  obtain ⟨h23, H⟩ := grd_some H
  refine U.take 3 [0, 1, 2, 3, 4, 5, 6, 7, 8] [0, 2, 4, 6, 16, 17] [8, 7, 6, 5, 4, 3, 2, 1, 0] [(3, .ld 1), (4, .ld 5), (5, .mg 4 (Value.tuple #[Value.agg ((arrC 8 .i64 (Option.getD x21 ((List.replicate 8 (0 : Int)), 0)).1 ++ [Value.int .i64 (Option.getD x21 ((List.replicate 8 (0 : Int)), 0)).2])).toArray, Value.bool (Option.isSome x21)]))] (fun K => (b1 = b1) ∧ ((b15 = b15) ∧ ((b4 = b4 ∧ LookOk Try.prog 107 (mpE ek_112 ev_114 x12) (Value.agg ((arrC 8 .i64 x5)).toArray) true (Value.tuple #[Value.agg ((arrC 8 .i64 (Option.getD x21 ((List.replicate 8 (0 : Int)), 0)).1 ++ [Value.int .i64 (Option.getD x21 ((List.replicate 8 (0 : Int)), 0)).2])).toArray, Value.bool (Option.isSome x21)])) ∧ (K [(0, Value.pointer (some ⟨b1, 0, none⟩)), (2, Value.func (.func 33) #[] #[Value.pointer (some ⟨b2, 0, none⟩), Value.pointer (some ⟨b1, 0, none⟩), Value.pointer (some ⟨b3, 0, none⟩)]), (4, Value.pointer (some ⟨b15, 0, none⟩)), (6, Value.pointer (some ⟨b16, 0, none⟩)), (16, Value.agg ((arrC 8 .i64 (Option.getD x21 ((List.replicate 8 (0 : Int)), 0)).1 ++ [Value.int .i64 (Option.getD x21 ((List.replicate 8 (0 : Int)), 0)).2])).toArray), (17, Value.bool (Option.isSome x21))])))) (fun K => by kernel_rfl) (by kernel_rfl) (by kernel_rfl) (by kernel_rfl) ?_
  refine ⟨rfl, ?_⟩
  refine ⟨rfl, ?_⟩
  refine ⟨⟨rfl, look_ok (cok := true) (ev := ev_114) (k := x5) (z := ((List.replicate 8 (0 : Int)), 0)) (el := 114) KT_112 (by kernel_rfl) (by kernel_rfl) (Option.some.inj h22)⟩, ?_⟩
  refine U.one 2 9 [0, 2, 4, 6, 7, 16, 17] [(9, .al 8)] (fun K => ∀ b24 : Nat, K [(0, Value.pointer (some ⟨b1, 0, none⟩)), (2, Value.func (.func 33) #[] #[Value.pointer (some ⟨b2, 0, none⟩), Value.pointer (some ⟨b1, 0, none⟩), Value.pointer (some ⟨b3, 0, none⟩)]), (4, Value.pointer (some ⟨b15, 0, none⟩)), (6, Value.pointer (some ⟨b16, 0, none⟩)), (7, Value.pointer (some ⟨b24, 0, none⟩)), (16, Value.agg ((arrC 8 .i64 (Option.getD x21 ((List.replicate 8 (0 : Int)), 0)).1 ++ [Value.int .i64 (Option.getD x21 ((List.replicate 8 (0 : Int)), 0)).2])).toArray), (17, Value.bool (Option.isSome x21))] ((8, Ent.blk b24 114 (arrC 8 .i64 (List.replicate 8 (0 : Int)) ++ [Value.int .i64 0])) :: (6, Ent.blk b16 114 (arrC 8 .i64 (List.replicate 8 (0 : Int)) ++ [Value.int .i64 0])) :: (5, Ent.blk b15 112 (arrC 8 .i64 x5)) :: (1, Ent.blk b1 109 [Value.map (some b4)]) :: (2, Ent.blk b2 47 [Value.int .i64 x6, Value.int .i64 x7, Value.slice a9 (List.length x8) c10]) :: (3, Ent.blk b3 110 ([Value.func (.func 33) #[] #[Value.pointer (some ⟨b2, 0, none⟩), Value.pointer (some ⟨b1, 0, none⟩), Value.pointer (some ⟨b3, 0, none⟩)]])) :: (4, Ent.mp b4 (mpE ek_112 ev_114 x12)) :: fr)) (fun K => by kernel_rfl) (by kernel_rfl) (by kernel_rfl) ?_
  intro b24
  refine ⟨(fun w hw => .inr (Ok.pickTo [(6, 1), (5, 2), (1, 3), (2, 4), (3, 5), (4, 6)] (by kernel_rfl) (by kernel_rfl) (GH.le_refl _) hw)), ?_⟩
  refine U.one 1 10 [0, 2, 4, 6, 7, 17] [(10, .st 8)] (fun K => (b24 = b24) ∧ (K [(0, Value.pointer (some ⟨b1, 0, none⟩)), (2, Value.func (.func 33) #[] #[Value.pointer (some ⟨b2, 0, none⟩), Value.pointer (some ⟨b1, 0, none⟩), Value.pointer (some ⟨b3, 0, none⟩)]), (4, Value.pointer (some ⟨b15, 0, none⟩)), (6, Value.pointer (some ⟨b16, 0, none⟩)), (7, Value.pointer (some ⟨b24, 0, none⟩)), (17, Value.bool (Option.isSome x21))] ((8, Ent.blk b24 114 (arrC 8 .i64 (Option.getD x21 ((List.replicate 8 (0 : Int)), 0)).1 ++ [Value.int .i64 (Option.getD x21 ((List.replicate 8 (0 : Int)), 0)).2])) :: (6, Ent.blk b16 114 (arrC 8 .i64 (List.replicate 8 (0 : Int)) ++ [Value.int .i64 0])) :: (5, Ent.blk b15 112 (arrC 8 .i64 x5)) :: (1, Ent.blk b1 109 [Value.map (some b4)]) :: (2, Ent.blk b2 47 [Value.int .i64 x6, Value.int .i64 x7, Value.slice a9 (List.length x8) c10]) :: (3, Ent.blk b3 110 ([Value.func (.func 33) #[] #[Value.pointer (some ⟨b2, 0, none⟩), Value.pointer (some ⟨b1, 0, none⟩), Value.pointer (some ⟨b3, 0, none⟩)]])) :: (4, Ent.mp b4 (mpE ek_112 ev_114 x12)) :: fr))) (fun K => by kernel_rfl) (by kernel_rfl) (by kernel_rfl) ?_
  refine ⟨rfl, ?_⟩
  refine ⟨(fun w hw => .inr (Ok.pickTo [(6, 1), (5, 2), (1, 3), (2, 4), (3, 5), (4, 6)] (by kernel_rfl) (by kernel_rfl) (GH.le_refl _) hw)), ?_⟩
  refine U.take 0 [11] [0, 2, 4, 6, 7, 8] [11, 10, 9, 8, 7, 6, 5, 4, 3, 2, 1, 0] [] (fun K => K [(0, Value.pointer (some ⟨b1, 0, none⟩)), (2, Value.func (.func 33) #[] #[Value.pointer (some ⟨b2, 0, none⟩), Value.pointer (some ⟨b1, 0, none⟩), Value.pointer (some ⟨b3, 0, none⟩)]), (4, Value.pointer (some ⟨b15, 0, none⟩)), (6, Value.pointer (some ⟨b16, 0, none⟩)), (7, Value.pointer (some ⟨b24, 0, none⟩)), (8, Value.bool (Option.isSome x21))]) (fun K => by kernel_rfl) (by kernel_rfl) (by kernel_rfl) (by kernel_rfl) ?_
  refine WD.done (by kernel_rfl) ?_
  refine PO.nx ?_
  refine WP.seq (by kernel_rfl) ?_
  refine WP.seq (by kernel_rfl) ?_
  refine WP.reg (by kernel_rfl) ?_
  refine U.seg 2 [0, 2, 4, 6, 7, 19] [] (fun K => K [(0, Value.pointer (some ⟨b1, 0, none⟩)), (2, Value.func (.func 33) #[] #[Value.pointer (some ⟨b2, 0, none⟩), Value.pointer (some ⟨b1, 0, none⟩), Value.pointer (some ⟨b3, 0, none⟩)]), (4, Value.pointer (some ⟨b15, 0, none⟩)), (6, Value.pointer (some ⟨b16, 0, none⟩)), (7, Value.pointer (some ⟨b24, 0, none⟩)), (19, Value.bool (!(Option.isSome x21)))] ((8, Ent.blk b24 114 (arrC 8 .i64 (Option.getD x21 ((List.replicate 8 (0 : Int)), 0)).1 ++ [Value.int .i64 (Option.getD x21 ((List.replicate 8 (0 : Int)), 0)).2])) :: (6, Ent.blk b16 114 (arrC 8 .i64 (List.replicate 8 (0 : Int)) ++ [Value.int .i64 0])) :: (5, Ent.blk b15 112 (arrC 8 .i64 x5)) :: (1, Ent.blk b1 109 [Value.map (some b4)]) :: (2, Ent.blk b2 47 [Value.int .i64 x6, Value.int .i64 x7, Value.slice a9 (List.length x8) c10]) :: (3, Ent.blk b3 110 ([Value.func (.func 33) #[] #[Value.pointer (some ⟨b2, 0, none⟩), Value.pointer (some ⟨b1, 0, none⟩), Value.pointer (some ⟨b3, 0, none⟩)]])) :: (4, Ent.mp b4 (mpE ek_112 ev_114 x12)) :: fr)) (fun K => by kernel_rfl) 2 (by kernel_rfl) ?_
  refine WO.done (by kernel_rfl) ?_
  refine PO.nx ?_
  refine WP.join (fun s => ∃ (x30 : (List Int)) (x32 : Int) (x33 : (List ((List Int) × ((List Int) × Int)))), x30.length = 8 ∧ f37_j1 kk F_f37 x30 x32 x33 = some r ∧ s = { n := 30, e := [(6, Value.pointer (some ⟨b16, 0, none⟩)), (7, Value.pointer (some ⟨b24, 0, none⟩))], d := [], g := g, h := ((1, Ent.blk b1 109 [Value.map (some b4)]) :: (2, Ent.blk b2 47 [Value.int .i64 x6, Value.int .i64 x7, Value.slice a9 (List.length x8) c10]) :: (3, Ent.blk b3 110 ([Value.func (.func 33) #[] #[Value.pointer (some ⟨b2, 0, none⟩), Value.pointer (some ⟨b1, 0, none⟩), Value.pointer (some ⟨b3, 0, none⟩)]])) :: (4, Ent.mp b4 (mpE ek_112 ev_114 x33)) :: (6, Ent.blk b16 114 (arrC 8 .i64 (List.replicate 8 (0 : Int)) ++ [Value.int .i64 0])) :: (8, Ent.blk b24 114 (arrC 8 .i64 x30 ++ [Value.int .i64 x32])) :: fr) }) ?_ ?_
  · rcases cond_some H with ⟨h25, H⟩ | ⟨h25, H⟩
    · refine U.asW (t := 19) (congrArg Value.bool h25) (by kernel_rfl) ?_
      refine WP.condT (by kernel_rfl) ?_
      refine WP.seq (by kernel_rfl) ?_
      refine WP.reg (by kernel_rfl) ?_
      refine U.seg 2 [0, 4, 6, 7, 20, 21] [(1, .ld 5)] (fun K => (b15 = b15) ∧ (K [(0, Value.pointer (some ⟨b1, 0, none⟩)), (4, Value.pointer (some ⟨b15, 0, none⟩)), (6, Value.pointer (some ⟨b16, 0, none⟩)), (7, Value.pointer (some ⟨b24, 0, none⟩)), (20, Value.func (.func 33) #[] #[Value.pointer (some ⟨b2, 0, none⟩), Value.pointer (some ⟨b1, 0, none⟩), Value.pointer (some ⟨b3, 0, none⟩)]), (21, Value.agg ((arrC 8 .i64 x5)).toArray)] ((8, Ent.blk b24 114 (arrC 8 .i64 (Option.getD x21 ((List.replicate 8 (0 : Int)), 0)).1 ++ [Value.int .i64 (Option.getD x21 ((List.replicate 8 (0 : Int)), 0)).2])) :: (6, Ent.blk b16 114 (arrC 8 .i64 (List.replicate 8 (0 : Int)) ++ [Value.int .i64 0])) :: (5, Ent.blk b15 112 (arrC 8 .i64 x5)) :: (1, Ent.blk b1 109 [Value.map (some b4)]) :: (2, Ent.blk b2 47 [Value.int .i64 x6, Value.int .i64 x7, Value.slice a9 (List.length x8) c10]) :: (3, Ent.blk b3 110 ([Value.func (.func 33) #[] #[Value.pointer (some ⟨b2, 0, none⟩), Value.pointer (some ⟨b1, 0, none⟩), Value.pointer (some ⟨b3, 0, none⟩)]])) :: (4, Ent.mp b4 (mpE ek_112 ev_114 x12)) :: fr))) (fun K => by kernel_rfl) 2 (by kernel_rfl) ?_
      refine ⟨rfl, ?_⟩
      obtain ⟨x26, h27, H⟩ := bnd_some H
      refine U.step 3 (by kernel_rfl) (U.call (dst := some 22) (fun w hw => c_f33 kk F_f37 hF_f37 x5 x6 x7 x8 x12 b2 b1 b3 b4 a9 c10 h13 h14 h27 (okNT 7 [(1, 4), (2, 3), (3, 5), (4, 6), (8, 0), (6, 1), (5, 2)] (by kernel_rfl) rfl hw)) (by kernel_rfl) (enters_of Try.func33 (by kernel_rfl) rfl)) ?_
      rintro _ h29
      refine U.pick  7 [(2, 0), (1, 1), (3, 2), (4, 3), (8, 4), (6, 5), (5, 6)] ((2, Ent.blk b2 47 [Value.int .i64 x6, Value.int .i64 x7, Value.slice a9 (List.length x8) c10]) :: (1, Ent.blk b1 109 [Value.map (some b4)]) :: (3, Ent.blk b3 110 ([Value.func (.func 33) #[] #[Value.pointer (some ⟨b2, 0, none⟩), Value.pointer (some ⟨b1, 0, none⟩), Value.pointer (some ⟨b3, 0, none⟩)]])) :: (4, Ent.mp b4 (mpE ek_112 ev_114 x26.2.2)) :: (8, Ent.blk b24 114 (arrC 8 .i64 (Option.getD x21 ((List.replicate 8 (0 : Int)), 0)).1 ++ [Value.int .i64 (Option.getD x21 ((List.replicate 8 (0 : Int)), 0)).2])) :: (6, Ent.blk b16 114 (arrC 8 .i64 (List.replicate 8 (0 : Int)) ++ [Value.int .i64 0])) :: (5, Ent.blk b15 112 (arrC 8 .i64 x5)) :: fr) (by kernel_rfl) rfl ?_
      refine U.seg 1 [0, 4, 6, 7] [(3, .st 8)] (fun K => (b24 = b24) ∧ (K [(0, Value.pointer (some ⟨b1, 0, none⟩)), (4, Value.pointer (some ⟨b15, 0, none⟩)), (6, Value.pointer (some ⟨b16, 0, none⟩)), (7, Value.pointer (some ⟨b24, 0, none⟩))] ((2, Ent.blk b2 47 [Value.int .i64 x6, Value.int .i64 x7, Value.slice a9 (List.length x8) c10]) :: (1, Ent.blk b1 109 [Value.map (some b4)]) :: (3, Ent.blk b3 110 ([Value.func (.func 33) #[] #[Value.pointer (some ⟨b2, 0, none⟩), Value.pointer (some ⟨b1, 0, none⟩), Value.pointer (some ⟨b3, 0, none⟩)]])) :: (4, Ent.mp b4 (mpE ek_112 ev_114 x26.2.2)) :: (8, Ent.blk b24 114 (arrC 8 .i64 x26.1 ++ [Value.int .i64 x26.2.1])) :: (6, Ent.blk b16 114 (arrC 8 .i64 (List.replicate 8 (0 : Int)) ++ [Value.int .i64 0])) :: (5, Ent.blk b15 112 (arrC 8 .i64 x5)) :: fr))) (fun K => by kernel_rfl) 4 (by kernel_rfl) ?_
      refine ⟨rfl, ?_⟩
      refine WO.done (by kernel_rfl) ?_
      refine PO.nx ?_
      refine U.draw [6] g [(2, Ent.blk b2 47 [Value.int .i64 x6, Value.int .i64 x7, Value.slice a9 (List.length x8) c10]), (1, Ent.blk b1 109 [Value.map (some b4)]), (3, Ent.blk b3 110 ([Value.func (.func 33) #[] #[Value.pointer (some ⟨b2, 0, none⟩), Value.pointer (some ⟨b1, 0, none⟩), Value.pointer (some ⟨b3, 0, none⟩)]])), (4, Ent.mp b4 (mpE ek_112 ev_114 x26.2.2)), (8, Ent.blk b24 114 (arrC 8 .i64 x26.1 ++ [Value.int .i64 x26.2.1])), (6, Ent.blk b16 114 (arrC 8 .i64 (List.replicate 8 (0 : Int)) ++ [Value.int .i64 0])), (5, Ent.blk b15 112 (arrC 8 .i64 x5))] (by kernel_rfl) (by kernel_rfl) 7 (by kernel_rfl) (fun w hw => Ok.pickTo [(2, 0), (1, 1), (3, 2), (4, 3), (8, 4), (6, 5), (5, 6)] (by kernel_rfl) (by kernel_rfl) (GH.le_refl _) hw) ?_
      refine U.take 1 [0, 1, 2, 3, 4, 5] [6, 7, 26, 27, 28] [5, 4, 3, 2, 1, 0] [(3, .ld 1), (4, .ld 5), (5, .ld 8)] (fun K => (b1 = b1) ∧ ((b15 = b15) ∧ ((b24 = b24) ∧ (K [(6, Value.pointer (some ⟨b16, 0, none⟩)), (7, Value.pointer (some ⟨b24, 0, none⟩)), (26, Value.map (some b4)), (27, Value.agg ((arrC 8 .i64 x5)).toArray), (28, Value.agg ((arrC 8 .i64 x26.1 ++ [Value.int .i64 x26.2.1])).toArray)])))) (fun K => by kernel_rfl) (by kernel_rfl) (by kernel_rfl) (by kernel_rfl) ?_
      refine ⟨rfl, ?_⟩
      refine ⟨rfl, ?_⟩
      refine ⟨rfl, ?_⟩
      refine U.force 0 6 (by kernel_rfl) (by kernel_rfl) (U.put (dst := none) (T := 107) (el := 114) (t := 4) (b := b4) (ev := ev_114) x26.2.2 x5 (x26.1, x26.2.1) KT_112 (by kernel_rfl) (by kernel_rfl) (by kernel_rfl)) ?_
      rintro _ _
      refine ⟨(fun w hw => .inl (by kernel_rfl)), ?_⟩
      refine WD.done (by kernel_rfl) ?_
      refine PO.jn ⟨x26.1, x26.2.1, (mput qk_112 x26.2.2 x5 (x26.1, x26.2.1)), h29, H, rfl⟩ ?_
      exact (St.ok.to [6, 7] 7 [(1, 1), (2, 0), (3, 2), (4, 3), (6, 5), (8, 4)] (by kernel_rfl) rfl (by kernel_rfl) rfl rfl (by kernel_rfl))
    · refine U.asW (t := 19) (congrArg Value.bool h25) (by kernel_rfl) ?_
      refine WP.condF (by kernel_rfl) ?_
      refine WP.skip (by kernel_rfl) ?_
      refine PO.jn ⟨(Option.getD x21 ((List.replicate 8 (0 : Int)), 0)).1, (Option.getD x21 ((List.replicate 8 (0 : Int)), 0)).2, x12, h23, H, rfl⟩ ?_
      exact (St.ok.to [6, 7] 7 [(1, 3), (2, 4), (3, 5), (4, 6), (6, 1), (8, 0)] (by kernel_rfl) rfl (by kernel_rfl) rfl rfl (by kernel_rfl))
  · rintro _ ⟨x30, x32, x33, h31, H, rfl⟩
    unfold f37_j1 at H
    refine PO.nx ?_
    refine WP.seq (by kernel_rfl) ?_
    refine WP.reg (by kernel_rfl) ?_
    refine U.seg 2 [6] [(0, .ld 8), (1, .st 6)] (fun K => (b24 = b24) ∧ ((b16 = b16) ∧ (K [(6, Value.pointer (some ⟨b16, 0, none⟩))] ((1, Ent.blk b1 109 [Value.map (some b4)]) :: (2, Ent.blk b2 47 [Value.int .i64 x6, Value.int .i64 x7, Value.slice a9 (List.length x8) c10]) :: (3, Ent.blk b3 110 ([Value.func (.func 33) #[] #[Value.pointer (some ⟨b2, 0, none⟩), Value.pointer (some ⟨b1, 0, none⟩), Value.pointer (some ⟨b3, 0, none⟩)]])) :: (4, Ent.mp b4 (mpE ek_112 ev_114 x33)) :: (6, Ent.blk b16 114 (arrC 8 .i64 x30 ++ [Value.int .i64 x32])) :: (8, Ent.blk b24 114 (arrC 8 .i64 x30 ++ [Value.int .i64 x32])) :: fr)))) (fun K => by kernel_rfl) 2 (by kernel_rfl) ?_
    refine ⟨rfl, ?_⟩
    refine ⟨rfl, ?_⟩
    refine WO.done (by kernel_rfl) ?_
    refine PO.nx ?_
    refine WP.ret (by kernel_rfl) ?_
    have hr := Option.some.inj H
    subst hr
    refine PO.body [Value.agg ((arrC 8 .i64 x30 ++ [Value.int .i64 x32])).toArray] ((1, Ent.blk b1 109 [Value.map (some b4)]) :: (2, Ent.blk b2 47 [Value.int .i64 x6, Value.int .i64 x7, Value.slice a9 (List.length x8) c10]) :: (3, Ent.blk b3 110 ([Value.func (.func 33) #[] #[Value.pointer (some ⟨b2, 0, none⟩), Value.pointer (some ⟨b1, 0, none⟩), Value.pointer (some ⟨b3, 0, none⟩)]])) :: (4, Ent.mp b4 (mpE ek_112 ev_114 x33)) :: (6, Ent.blk b16 114 (arrC 8 .i64 x30 ++ [Value.int .i64 x32])) :: (8, Ent.blk b24 114 (arrC 8 .i64 x30 ++ [Value.int .i64 x32])) :: fr) rfl (Res.cell b16 0 6 (Ent.blk b16 114 (arrC 8 .i64 x30 ++ [Value.int .i64 x32])) (arrC 8 .i64 x30 ++ [Value.int .i64 x32]) true 9 (by kernel_rfl) (by kernel_rfl) (by kernel_rfl) (by kernel_rfl) (by kernel_rfl) (OwnRead.agg rfl rfl) Res.nil) ?_
    exact fun w hw => Ret.mk () h31 rfl (okNT 6 [(1, 0), (2, 1), (3, 2), (4, 3)] (by kernel_rfl) rfl hw)
theorem c_f37 (kk : Nat) : S_f37 (m_f37 kk) := by
  induction kk with
  | zero => exact fun x5 x6 x7 x8 x12 b1 b2 b3 b4 a9 c10 {g} h13 h14 {r} H {fr w} hw => by cases H
  | succ kk ih => exact fun x5 x6 x7 x8 x12 b1 b2 b3 b4 a9 c10 {g} h13 h14 {r} H {fr w} hw => w_f37 kk (m_f37 kk) ih x5 x6 x7 x8 x12 b1 b2 b3 b4 a9 c10 h13 h14 H hw

set_option maxRecDepth 100000 in
theorem c_f117 (kk : Nat) (x1 : Int) (x2 : Int) {g : GH} {r : (Int × Int)} (H : m_f117 kk x1 x2 = some r) {fr : Hs} {w : World} (hw : Ok g (fr) w) :
    Calls Try.prog 117 (List.toArray [Value.int .u64 x1, Value.int .u64 x2]) w (Ret (fun _ : Unit => True) (fun _ => Value.tuple #[Value.int .u64 r.1, Value.int .u64 r.2]) (fun _ => g) (fun _ => (fr))) := by
  refine fn_wp (args := [Value.int .u64 x1, Value.int .u64 x2]) (c := C_117) Try.func117 (by kernel_rfl) Try.ntmps117 (by kernel_rfl) ?_ hw
  unfold m_f117 at H
  refine WP.seq (by kernel_rfl) ?_
  refine WP.reg (by kernel_rfl) ?_
  refine U.seg 2 [0, 1] [] (fun K => K [(0, Value.int .u64 x1), (1, Value.int .u64 x2)] (fr)) (fun K => by kernel_rfl) 2 (by kernel_rfl) ?_
  refine WO.done (by kernel_rfl) ?_
  refine PO.nx ?_
  refine WP.seq (by kernel_rfl) ?_
  refine WP.reg (by kernel_rfl) ?_
  refine U.seg 3 [0, 1, 6] [] (fun K => K [(0, Value.int .u64 x1), (1, Value.int .u64 x2), (6, Value.int .u64 (IntKind.wrap .u64 (((BitVec.ofInt 64 x1 &&& BitVec.ofInt 64 4294967295).toNat : Int))))] (fr)) (fun K => by kernel_rfl) 3 (by kernel_rfl) ?_
  refine WO.done (by kernel_rfl) ?_
  refine PO.nx ?_
  refine WP.seq (by kernel_rfl) ?_
  refine WP.reg (by kernel_rfl) ?_
  refine U.seg 3 [0, 1, 6, 7] [] (fun K => K [(0, Value.int .u64 x1), (1, Value.int .u64 x2), (6, Value.int .u64 (IntKind.wrap .u64 (((BitVec.ofInt 64 x1 &&& BitVec.ofInt 64 4294967295).toNat : Int)))), (7, Value.int .u64 (Int.fdiv x1 (2 ^ 32)))] (fr)) (fun K => by kernel_rfl) 3 (by kernel_rfl) ?_
  refine WO.done (by kernel_rfl) ?_
  refine PO.nx ?_
  refine WP.seq (by kernel_rfl) ?_
  refine WP.reg (by kernel_rfl) ?_
  refine U.seg 3 [0, 1, 6, 7, 8] [] (fun K => K [(0, Value.int .u64 x1), (1, Value.int .u64 x2), (6, Value.int .u64 (IntKind.wrap .u64 (((BitVec.ofInt 64 x1 &&& BitVec.ofInt 64 4294967295).toNat : Int)))), (7, Value.int .u64 (Int.fdiv x1 (2 ^ 32))), (8, Value.int .u64 (IntKind.wrap .u64 (((BitVec.ofInt 64 x2 &&& BitVec.ofInt 64 4294967295).toNat : Int))))] (fr)) (fun K => by kernel_rfl) 3 (by kernel_rfl) ?_
  refine WO.done (by kernel_rfl) ?_
  refine PO.nx ?_
  refine WP.seq (by kernel_rfl) ?_
  refine WP.reg (by kernel_rfl) ?_
  refine U.seg 3 [0, 1, 6, 7, 8, 9] [] (fun K => K [(0, Value.int .u64 x1), (1, Value.int .u64 x2), (6, Value.int .u64 (IntKind.wrap .u64 (((BitVec.ofInt 64 x1 &&& BitVec.ofInt 64 4294967295).toNat : Int)))), (7, Value.int .u64 (Int.fdiv x1 (2 ^ 32))), (8, Value.int .u64 (IntKind.wrap .u64 (((BitVec.ofInt 64 x2 &&& BitVec.ofInt 64 4294967295).toNat : Int)))), (9, Value.int .u64 (Int.fdiv x2 (2 ^ 32)))] (fr)) (fun K => by kernel_rfl) 3 (by kernel_rfl) ?_
  refine WO.done (by kernel_rfl) ?_
  refine PO.nx ?_
  refine WP.seq (by kernel_rfl) ?_
  refine WP.reg (by kernel_rfl) ?_
  refine U.seg 4 [0, 1, 6, 7, 8, 9, 10] [] (fun K => K [(0, Value.int .u64 x1), (1, Value.int .u64 x2), (6, Value.int .u64 (IntKind.wrap .u64 (((BitVec.ofInt 64 x1 &&& BitVec.ofInt 64 4294967295).toNat : Int)))), (7, Value.int .u64 (Int.fdiv x1 (2 ^ 32))), (8, Value.int .u64 (IntKind.wrap .u64 (((BitVec.ofInt 64 x2 &&& BitVec.ofInt 64 4294967295).toNat : Int)))), (9, Value.int .u64 (Int.fdiv x2 (2 ^ 32))), (10, Value.int .u64 (IntKind.wrap .u64 ((IntKind.wrap .u64 (((BitVec.ofInt 64 x1 &&& BitVec.ofInt 64 4294967295).toNat : Int))) * (IntKind.wrap .u64 (((BitVec.ofInt 64 x2 &&& BitVec.ofInt 64 4294967295).toNat : Int))))))] (fr)) (fun K => by kernel_rfl) 4 (by kernel_rfl) ?_
  refine WO.done (by kernel_rfl) ?_
  refine PO.nx ?_
  refine WP.seq (by kernel_rfl) ?_
  refine WP.reg (by kernel_rfl) ?_
  refine U.seg 7 [0, 1, 6, 7, 9, 11] [] (fun K => K [(0, Value.int .u64 x1), (1, Value.int .u64 x2), (6, Value.int .u64 (IntKind.wrap .u64 (((BitVec.ofInt 64 x1 &&& BitVec.ofInt 64 4294967295).toNat : Int)))), (7, Value.int .u64 (Int.fdiv x1 (2 ^ 32))), (9, Value.int .u64 (Int.fdiv x2 (2 ^ 32))), (11, Value.int .u64 (IntKind.wrap .u64 ((IntKind.wrap .u64 ((Int.fdiv x1 (2 ^ 32)) * (IntKind.wrap .u64 (((BitVec.ofInt 64 x2 &&& BitVec.ofInt 64 4294967295).toNat : Int))))) + (Int.fdiv (IntKind.wrap .u64 ((IntKind.wrap .u64 (((BitVec.ofInt 64 x1 &&& BitVec.ofInt 64 4294967295).toNat : Int))) * (IntKind.wrap .u64 (((BitVec.ofInt 64 x2 &&& BitVec.ofInt 64 4294967295).toNat : Int))))) (2 ^ 32)))))] (fr)) (fun K => by kernel_rfl) 7 (by kernel_rfl) ?_
  refine WO.done (by kernel_rfl) ?_
  refine PO.nx ?_
  refine WP.seq (by kernel_rfl) ?_
  refine WP.reg (by kernel_rfl) ?_
  refine U.seg 3 [0, 1, 6, 7, 9, 11, 12] [] (fun K => K [(0, Value.int .u64 x1), (1, Value.int .u64 x2), (6, Value.int .u64 (IntKind.wrap .u64 (((BitVec.ofInt 64 x1 &&& BitVec.ofInt 64 4294967295).toNat : Int)))), (7, Value.int .u64 (Int.fdiv x1 (2 ^ 32))), (9, Value.int .u64 (Int.fdiv x2 (2 ^ 32))), (11, Value.int .u64 (IntKind.wrap .u64 ((IntKind.wrap .u64 ((Int.fdiv x1 (2 ^ 32)) * (IntKind.wrap .u64 (((BitVec.ofInt 64 x2 &&& BitVec.ofInt 64 4294967295).toNat : Int))))) + (Int.fdiv (IntKind.wrap .u64 ((IntKind.wrap .u64 (((BitVec.ofInt 64 x1 &&& BitVec.ofInt 64 4294967295).toNat : Int))) * (IntKind.wrap .u64 (((BitVec.ofInt 64 x2 &&& BitVec.ofInt 64 4294967295).toNat : Int))))) (2 ^ 32))))), (12, Value.int .u64 (IntKind.wrap .u64 (((BitVec.ofInt 64 (IntKind.wrap .u64 ((IntKind.wrap .u64 ((Int.fdiv x1 (2 ^ 32)) * (IntKind.wrap .u64 (((BitVec.ofInt 64 x2 &&& BitVec.ofInt 64 4294967295).toNat : Int))))) + (Int.fdiv (IntKind.wrap .u64 ((IntKind.wrap .u64 (((BitVec.ofInt 64 x1 &&& BitVec.ofInt 64 4294967295).toNat : Int))) * (IntKind.wrap .u64 (((BitVec.ofInt 64 x2 &&& BitVec.ofInt 64 4294967295).toNat : Int))))) (2 ^ 32)))) &&& BitVec.ofInt 64 4294967295).toNat : Int))))] (fr)) (fun K => by kernel_rfl) 3 (by kernel_rfl) ?_
  refine WO.done (by kernel_rfl) ?_
  refine PO.nx ?_
  refine WP.seq (by kernel_rfl) ?_
  refine WP.reg (by kernel_rfl) ?_
  refine U.seg 3 [0, 1, 6, 7, 9, 12, 13] [] (fun K => K [(0, Value.int .u64 x1), (1, Value.int .u64 x2), (6, Value.int .u64 (IntKind.wrap .u64 (((BitVec.ofInt 64 x1 &&& BitVec.ofInt 64 4294967295).toNat : Int)))), (7, Value.int .u64 (Int.fdiv x1 (2 ^ 32))), (9, Value.int .u64 (Int.fdiv x2 (2 ^ 32))), (12, Value.int .u64 (IntKind.wrap .u64 (((BitVec.ofInt 64 (IntKind.wrap .u64 ((IntKind.wrap .u64 ((Int.fdiv x1 (2 ^ 32)) * (IntKind.wrap .u64 (((BitVec.ofInt 64 x2 &&& BitVec.ofInt 64 4294967295).toNat : Int))))) + (Int.fdiv (IntKind.wrap .u64 ((IntKind.wrap .u64 (((BitVec.ofInt 64 x1 &&& BitVec.ofInt 64 4294967295).toNat : Int))) * (IntKind.wrap .u64 (((BitVec.ofInt 64 x2 &&& BitVec.ofInt 64 4294967295).toNat : Int))))) (2 ^ 32)))) &&& BitVec.ofInt 64 4294967295).toNat : Int)))), (13, Value.int .u64 (Int.fdiv (IntKind.wrap .u64 ((IntKind.wrap .u64 ((Int.fdiv x1 (2 ^ 32)) * (IntKind.wrap .u64 (((BitVec.ofInt 64 x2 &&& BitVec.ofInt 64 4294967295).toNat : Int))))) + (Int.fdiv (IntKind.wrap .u64 ((IntKind.wrap .u64 (((BitVec.ofInt 64 x1 &&& BitVec.ofInt 64 4294967295).toNat : Int))) * (IntKind.wrap .u64 (((BitVec.ofInt 64 x2 &&& BitVec.ofInt 64 4294967295).toNat : Int))))) (2 ^ 32)))) (2 ^ 32)))] (fr)) (fun K => by kernel_rfl) 3 (by kernel_rfl) ?_
  refine WO.done (by kernel_rfl) ?_
  refine PO.nx ?_
  refine WP.seq (by kernel_rfl) ?_
  refine WP.reg (by kernel_rfl) ?_
  refine U.seg 6 [0, 1, 7, 9, 12, 13] [] (fun K => K [(0, Value.int .u64 x1), (1, Value.int .u64 x2), (7, Value.int .u64 (Int.fdiv x1 (2 ^ 32))), (9, Value.int .u64 (Int.fdiv x2 (2 ^ 32))), (12, Value.int .u64 (IntKind.wrap .u64 ((IntKind.wrap .u64 (((BitVec.ofInt 64 (IntKind.wrap .u64 ((IntKind.wrap .u64 ((Int.fdiv x1 (2 ^ 32)) * (IntKind.wrap .u64 (((BitVec.ofInt 64 x2 &&& BitVec.ofInt 64 4294967295).toNat : Int))))) + (Int.fdiv (IntKind.wrap .u64 ((IntKind.wrap .u64 (((BitVec.ofInt 64 x1 &&& BitVec.ofInt 64 4294967295).toNat : Int))) * (IntKind.wrap .u64 (((BitVec.ofInt 64 x2 &&& BitVec.ofInt 64 4294967295).toNat : Int))))) (2 ^ 32)))) &&& BitVec.ofInt 64 4294967295).toNat : Int))) + (IntKind.wrap .u64 ((IntKind.wrap .u64 (((BitVec.ofInt 64 x1 &&& BitVec.ofInt 64 4294967295).toNat : Int))) * (Int.fdiv x2 (2 ^ 32))))))), (13, Value.int .u64 (Int.fdiv (IntKind.wrap .u64 ((IntKind.wrap .u64 ((Int.fdiv x1 (2 ^ 32)) * (IntKind.wrap .u64 (((BitVec.ofInt 64 x2 &&& BitVec.ofInt 64 4294967295).toNat : Int))))) + (Int.fdiv (IntKind.wrap .u64 ((IntKind.wrap .u64 (((BitVec.ofInt 64 x1 &&& BitVec.ofInt 64 4294967295).toNat : Int))) * (IntKind.wrap .u64 (((BitVec.ofInt 64 x2 &&& BitVec.ofInt 64 4294967295).toNat : Int))))) (2 ^ 32)))) (2 ^ 32)))] (fr)) (fun K => by kernel_rfl) 6 (by kernel_rfl) ?_
  refine WO.done (by kernel_rfl) ?_
  refine PO.nx ?_
  refine WP.seq (by kernel_rfl) ?_
  refine WP.reg (by kernel_rfl) ?_
  refine U.seg 9 [0, 1, 4] [] (fun K => K [(0, Value.int .u64 x1), (1, Value.int .u64 x2), (4, Value.int .u64 (IntKind.wrap .u64 ((IntKind.wrap .u64 ((IntKind.wrap .u64 ((Int.fdiv x1 (2 ^ 32)) * (Int.fdiv x2 (2 ^ 32)))) + (Int.fdiv (IntKind.wrap .u64 ((IntKind.wrap .u64 ((Int.fdiv x1 (2 ^ 32)) * (IntKind.wrap .u64 (((BitVec.ofInt 64 x2 &&& BitVec.ofInt 64 4294967295).toNat : Int))))) + (Int.fdiv (IntKind.wrap .u64 ((IntKind.wrap .u64 (((BitVec.ofInt 64 x1 &&& BitVec.ofInt 64 4294967295).toNat : Int))) * (IntKind.wrap .u64 (((BitVec.ofInt 64 x2 &&& BitVec.ofInt 64 4294967295).toNat : Int))))) (2 ^ 32)))) (2 ^ 32)))) + (Int.fdiv (IntKind.wrap .u64 ((IntKind.wrap .u64 (((BitVec.ofInt 64 (IntKind.wrap .u64 ((IntKind.wrap .u64 ((Int.fdiv x1 (2 ^ 32)) * (IntKind.wrap .u64 (((BitVec.ofInt 64 x2 &&& BitVec.ofInt 64 4294967295).toNat : Int))))) + (Int.fdiv (IntKind.wrap .u64 ((IntKind.wrap .u64 (((BitVec.ofInt 64 x1 &&& BitVec.ofInt 64 4294967295).toNat : Int))) * (IntKind.wrap .u64 (((BitVec.ofInt 64 x2 &&& BitVec.ofInt 64 4294967295).toNat : Int))))) (2 ^ 32)))) &&& BitVec.ofInt 64 4294967295).toNat : Int))) + (IntKind.wrap .u64 ((IntKind.wrap .u64 (((BitVec.ofInt 64 x1 &&& BitVec.ofInt 64 4294967295).toNat : Int))) * (Int.fdiv x2 (2 ^ 32)))))) (2 ^ 32)))))] (fr)) (fun K => by kernel_rfl) 9 (by kernel_rfl) ?_
  refine WO.done (by kernel_rfl) ?_
  refine PO.nx ?_
  refine WP.seq (by kernel_rfl) ?_
  refine WP.reg (by kernel_rfl) ?_
  refine U.seg 4 [4, 5] [] (fun K => K [(4, Value.int .u64 (IntKind.wrap .u64 ((IntKind.wrap .u64 ((IntKind.wrap .u64 ((Int.fdiv x1 (2 ^ 32)) * (Int.fdiv x2 (2 ^ 32)))) + (Int.fdiv (IntKind.wrap .u64 ((IntKind.wrap .u64 ((Int.fdiv x1 (2 ^ 32)) * (IntKind.wrap .u64 (((BitVec.ofInt 64 x2 &&& BitVec.ofInt 64 4294967295).toNat : Int))))) + (Int.fdiv (IntKind.wrap .u64 ((IntKind.wrap .u64 (((BitVec.ofInt 64 x1 &&& BitVec.ofInt 64 4294967295).toNat : Int))) * (IntKind.wrap .u64 (((BitVec.ofInt 64 x2 &&& BitVec.ofInt 64 4294967295).toNat : Int))))) (2 ^ 32)))) (2 ^ 32)))) + (Int.fdiv (IntKind.wrap .u64 ((IntKind.wrap .u64 (((BitVec.ofInt 64 (IntKind.wrap .u64 ((IntKind.wrap .u64 ((Int.fdiv x1 (2 ^ 32)) * (IntKind.wrap .u64 (((BitVec.ofInt 64 x2 &&& BitVec.ofInt 64 4294967295).toNat : Int))))) + (Int.fdiv (IntKind.wrap .u64 ((IntKind.wrap .u64 (((BitVec.ofInt 64 x1 &&& BitVec.ofInt 64 4294967295).toNat : Int))) * (IntKind.wrap .u64 (((BitVec.ofInt 64 x2 &&& BitVec.ofInt 64 4294967295).toNat : Int))))) (2 ^ 32)))) &&& BitVec.ofInt 64 4294967295).toNat : Int))) + (IntKind.wrap .u64 ((IntKind.wrap .u64 (((BitVec.ofInt 64 x1 &&& BitVec.ofInt 64 4294967295).toNat : Int))) * (Int.fdiv x2 (2 ^ 32)))))) (2 ^ 32))))), (5, Value.int .u64 (IntKind.wrap .u64 (x1 * x2)))] (fr)) (fun K => by kernel_rfl) 4 (by kernel_rfl) ?_
  refine WO.done (by kernel_rfl) ?_
  refine PO.nx ?_
  refine WP.ret (by kernel_rfl) ?_
  have hr := Option.some.inj H
  subst hr
  refine PO.body [Value.int .u64 (IntKind.wrap .u64 ((IntKind.wrap .u64 ((IntKind.wrap .u64 ((Int.fdiv x1 (2 ^ 32)) * (Int.fdiv x2 (2 ^ 32)))) + (Int.fdiv (IntKind.wrap .u64 ((IntKind.wrap .u64 ((Int.fdiv x1 (2 ^ 32)) * (IntKind.wrap .u64 (((BitVec.ofInt 64 x2 &&& BitVec.ofInt 64 4294967295).toNat : Int))))) + (Int.fdiv (IntKind.wrap .u64 ((IntKind.wrap .u64 (((BitVec.ofInt 64 x1 &&& BitVec.ofInt 64 4294967295).toNat : Int))) * (IntKind.wrap .u64 (((BitVec.ofInt 64 x2 &&& BitVec.ofInt 64 4294967295).toNat : Int))))) (2 ^ 32)))) (2 ^ 32)))) + (Int.fdiv (IntKind.wrap .u64 ((IntKind.wrap .u64 (((BitVec.ofInt 64 (IntKind.wrap .u64 ((IntKind.wrap .u64 ((Int.fdiv x1 (2 ^ 32)) * (IntKind.wrap .u64 (((BitVec.ofInt 64 x2 &&& BitVec.ofInt 64 4294967295).toNat : Int))))) + (Int.fdiv (IntKind.wrap .u64 ((IntKind.wrap .u64 (((BitVec.ofInt 64 x1 &&& BitVec.ofInt 64 4294967295).toNat : Int))) * (IntKind.wrap .u64 (((BitVec.ofInt 64 x2 &&& BitVec.ofInt 64 4294967295).toNat : Int))))) (2 ^ 32)))) &&& BitVec.ofInt 64 4294967295).toNat : Int))) + (IntKind.wrap .u64 ((IntKind.wrap .u64 (((BitVec.ofInt 64 x1 &&& BitVec.ofInt 64 4294967295).toNat : Int))) * (Int.fdiv x2 (2 ^ 32)))))) (2 ^ 32)))), Value.int .u64 (IntKind.wrap .u64 (x1 * x2))] (fr) rfl (Res.tmp (by kernel_rfl) (Res.tmp (by kernel_rfl) Res.nil)) ?_
  exact fun w hw => Ret.mk () trivial rfl (okNT 0 [] (by kernel_rfl) rfl hw)

set_option maxRecDepth 100000 in
theorem c_f76 (kk : Nat) (x1 : Int) (x2 : Int) {g : GH} {r : (Int × Int)} (H : m_f76 kk x1 x2 = some r) {fr : Hs} {w : World} (hw : Ok g (fr) w) :
    Calls Try.prog 76 (List.toArray [Value.int .u64 x1, Value.int .u64 x2]) w (Ret (fun _ : Unit => True) (fun _ => Value.tuple #[Value.int .u64 r.1, Value.int .u64 r.2]) (fun _ => g) (fun _ => (fr))) := by
  refine fn_wp (args := [Value.int .u64 x1, Value.int .u64 x2]) (c := C_76) Try.func76 (by kernel_rfl) Try.ntmps76 (by kernel_rfl) ?_ hw
  unfold m_f76 at H
  refine WP.seq (by kernel_rfl) ?_
  refine WP.reg (by kernel_rfl) ?_
  refine U.seg 2 [0, 1] [] (fun K => K [(0, Value.int .u64 x1), (1, Value.int .u64 x2)] (fr)) (fun K => by kernel_rfl) 2 (by kernel_rfl) ?_
  refine WO.done (by kernel_rfl) ?_
  refine PO.nx ?_
  refine WP.seq (by kernel_rfl) ?_
  refine WP.condF (by kernel_rfl) ?_
  refine WP.skip (by kernel_rfl) ?_
  refine PO.nx ?_
  refine WP.seq (by kernel_rfl) ?_
  refine WP.reg (by kernel_rfl) ?_
  refine U.seg 2 [23, 24] [] (fun K => K [(23, Value.int .u64 x1), (24, Value.int .u64 x2)] (fr)) (fun K => by kernel_rfl) 2 (by kernel_rfl) ?_
  obtain ⟨x3, h4, H⟩ := bnd_some H
  refine U.step 3 (by kernel_rfl) (U.call (dst := some 25) (fun w hw => c_f117 kk x1 x2 h4 hw) (by kernel_rfl) (enters_of Try.func117 (by kernel_rfl) rfl)) ?_
  rintro _ _
  refine U.seg 5 [8, 9] [] (fun K => K [(8, Value.int .u64 x3.1), (9, Value.int .u64 x3.2)] (fr)) (fun K => by kernel_rfl) 8 (by kernel_rfl) ?_
  refine WO.done (by kernel_rfl) ?_
  refine PO.nx ?_
  refine WP.seq (by kernel_rfl) ?_
  refine WP.reg (by kernel_rfl) ?_
  refine U.seg 4 [4, 5] [] (fun K => K [(4, Value.int .u64 x3.1), (5, Value.int .u64 x3.2)] (fr)) (fun K => by kernel_rfl) 4 (by kernel_rfl) ?_
  refine WO.done (by kernel_rfl) ?_
  refine PO.nx ?_
  refine WP.ret (by kernel_rfl) ?_
  have hr := Option.some.inj H
  subst hr
  refine PO.body [Value.int .u64 x3.1, Value.int .u64 x3.2] (fr) rfl (Res.tmp (by kernel_rfl) (Res.tmp (by kernel_rfl) Res.nil)) ?_
  exact fun w hw => Ret.mk () trivial rfl (okNT 0 [] (by kernel_rfl) rfl hw)

end Go.Proofs.Ytmkjcahdjphimaa
