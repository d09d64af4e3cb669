/- printed: the walks -/
import Derived.Test.YtmkjcahdjphimaaRSP4
namespace Go.Proofs.Ytmkjcahdjphimaa
open Go Go.Eng
set_option maxRecDepth 100000 in
theorem c_f39 (kk : Nat) (x1 : (List Int)) (x5 : Int) (a2 : Option Addr) (c3 : Nat) {g : GH} (h6 : Sl (Kd.int .i64) g a2 (List.length x1) c3 x1) {r : (List Int)} (H : m_f39 kk x1 x5 = some r) {fr : Hs} {w : World} (hw : Ok g (fr) w) :
    Calls Try.prog 39 (List.toArray [Value.slice a2 (List.length x1) c3, Value.int .i64 x5]) w (Ret (fun y : (GH) × (Option Addr) × (Nat) => GH.le g y.1 ∧ Sl (Kd.int .i64) y.1 y.2.1 (List.length r) y.2.2 r) (fun y => Value.slice y.2.1 (List.length r) y.2.2) (fun y => y.1) (fun y => (fr))) := by
  refine fn_wp (args := [Value.slice a2 (List.length x1) c3, Value.int .i64 x5]) (c := C_39) Try.func39 (by kernel_rfl) Try.ntmps39 (by kernel_rfl) ?_ hw
  unfold m_f39 at H
  refine WP.seq (by kernel_rfl) ?_
  refine WP.reg (by kernel_rfl) ?_
  refine U.seg 1 [0, 1] [] (fun K => K [(0, Value.slice a2 (List.length x1) c3), (1, Value.int .i64 x5)] (fr)) (fun K => by kernel_rfl) 1 (by kernel_rfl) ?_
  refine WO.done (by kernel_rfl) ?_
  refine PO.nx ?_
  refine WP.seq (by kernel_rfl) ?_
  refine WP.seq (by kernel_rfl) ?_
  refine WP.reg (by kernel_rfl) ?_
  refine U.seg 2 [0, 1, 10] [] (fun K => K [(0, Value.slice a2 (List.length x1) c3), (1, Value.int .i64 x5), (10, Value.bool (decide (x5 < 0)))] (fr)) (fun K => by kernel_rfl) 2 (by kernel_rfl) ?_
  refine WO.done (by kernel_rfl) ?_
  refine PO.nx ?_
  rcases cond_some H with ⟨h8, H⟩ | ⟨h8, H⟩
  · refine U.asW (t := 10) (congrArg Value.bool h8) (by kernel_rfl) ?_
    refine WP.condT (by kernel_rfl) ?_
    refine WP.reg (by kernel_rfl) ?_
    cases H
  · refine U.asW (t := 10) (congrArg Value.bool h8) (by kernel_rfl) ?_
    refine WP.condF (by kernel_rfl) ?_
    refine WP.skip (by kernel_rfl) ?_
    refine PO.nx ?_
    refine WP.seq (by kernel_rfl) ?_
    refine WP.reg (by kernel_rfl) ?_
    refine U.seg 5 [0, 15, 17] [] (fun K => K [(0, Value.slice a2 (List.length x1) c3), (15, Value.int .u64 (IntKind.wrap .u64 (((List.length x1) : Int)))), (17, Value.int .u64 (IntKind.wrap .u64 (x5)))] (fr)) (fun K => by kernel_rfl) 5 (by kernel_rfl) ?_
    obtain ⟨x9, h10, H⟩ := bnd_some H
    refine U.step 6 (by kernel_rfl) (U.call (dst := some 18) (fun w hw => c_f76 kk (IntKind.wrap .u64 (((List.length x1) : Int))) (IntKind.wrap .u64 (x5)) h10 hw) (by kernel_rfl) (enters_of Try.func76 (by kernel_rfl) rfl)) ?_
    rintro _ _
    refine U.seg 5 [0, 5, 6] [] (fun K => K [(0, Value.slice a2 (List.length x1) c3), (5, Value.int .u64 x9.1), (6, Value.int .u64 x9.2)] (fr)) (fun K => by kernel_rfl) 11 (by kernel_rfl) ?_
    refine WO.done (by kernel_rfl) ?_
    refine PO.nx ?_
    refine WP.seq (by kernel_rfl) ?_
    refine WP.seq (by kernel_rfl) ?_
    refine WP.join (fun s => ∃ (x12 : Bool), f39_j1 kk x12 x9 x1 = some r ∧ s = { n := 48, e := [(0, Value.slice a2 (List.length x1) c3), (6, Value.int .u64 x9.2), (26, Value.bool x12)], d := [], g := g, h := (fr) }) ?_ ?_
    · refine WP.reg (by kernel_rfl) ?_
      refine U.seg 3 [0, 6, 23] [] (fun K => K [(0, Value.slice a2 (List.length x1) c3), (6, Value.int .u64 x9.2), (23, Value.bool (decide (x9.1 > 0)))] (fr)) (fun K => by kernel_rfl) 3 (by kernel_rfl) ?_
      rcases cond_some H with ⟨h11, H⟩ | ⟨h11, H⟩
      · refine U.as (t := 23) (congrArg Value.bool h11) (by kernel_rfl) ?_
        refine U.seg 3 [0, 6, 26] [] (fun K => K [(0, Value.slice a2 (List.length x1) c3), (6, Value.int .u64 x9.2), (26, Value.bool true)] (fr)) (fun K => by kernel_rfl) 6 (by kernel_rfl) ?_
        refine WO.done (by kernel_rfl) ?_
        refine PO.jn ⟨true, H, rfl⟩ ?_
        exact (St.ok.to [0, 6, 26] 0 [] (by kernel_rfl) rfl (by kernel_rfl) rfl rfl (by kernel_rfl))
      · refine U.as (t := 23) (congrArg Value.bool h11) (by kernel_rfl) ?_
        refine U.seg 3 [0, 6, 26] [] (fun K => K [(0, Value.slice a2 (List.length x1) c3), (6, Value.int .u64 x9.2), (26, Value.bool (decide (x9.2 > 9223372036854775807)))] (fr)) (fun K => by kernel_rfl) 6 (by kernel_rfl) ?_
        refine WO.done (by kernel_rfl) ?_
        refine PO.jn ⟨(decide (x9.2 > 9223372036854775807)), H, rfl⟩ ?_
        exact (St.ok.to [0, 6, 26] 0 [] (by kernel_rfl) rfl (by kernel_rfl) rfl rfl (by kernel_rfl))
    · rintro _ ⟨x12, H, rfl⟩
      unfold f39_j1 at H
      refine PO.nx ?_
      rcases cond_some H with ⟨h13, H⟩ | ⟨h13, H⟩
      · refine U.asW (t := 26) (congrArg Value.bool h13) (by kernel_rfl) ?_
        refine WP.condT (by kernel_rfl) ?_
        refine WP.reg (by kernel_rfl) ?_
        cases H
      · refine U.asW (t := 26) (congrArg Value.bool h13) (by kernel_rfl) ?_
        refine WP.condF (by kernel_rfl) ?_
        refine WP.skip (by kernel_rfl) ?_
        refine PO.nx ?_
        refine WP.seq (by kernel_rfl) ?_
        refine WP.reg (by kernel_rfl) ?_
        refine U.seg 2 [0, 29] [] (fun K => K [(0, Value.slice a2 (List.length x1) c3), (29, Value.int .i64 (w64 (x9.2)))] (fr)) (fun K => by kernel_rfl) 2 (by kernel_rfl) ?_
        obtain ⟨h14, H⟩ := grd_some H
        have h15 : Rw (Kd.int .i64) g (List.flatten (List.replicate (Int.toNat ((w64 (x9.2)))) [Value.int .i64 0])) (List.replicate (Int.toNat ((w64 (x9.2)))) (0 : Int)) := Rw.rep (show ((Kd.int .i64)).R _ [Value.int .i64 0] _ from rfl) _
        refine U.step 3 (by kernel_rfl) (U.makeN (T := 53) (k := .i64) (k' := .i64) (z := (w64 (x9.2))) (dst := some 30) (t := 1) (el := 3) (sz := 1) (List.length (List.replicate (Int.toNat ((w64 (x9.2)))) (0 : Int))) (List.length_replicate ..).symm (by kernel_rfl) (by kernel_rfl) h14.1 h14.2) ?_
        rintro b16 _
        refine U.seg 1 [0, 7] [] (fun K => K [(0, Value.slice a2 (List.length x1) c3), (7, Value.slice (some ⟨b16, 0, none⟩ : Option Addr) (List.length (List.replicate (Int.toNat ((w64 (x9.2)))) (0 : Int))) (List.length (List.replicate (Int.toNat ((w64 (x9.2)))) (0 : Int))))] ((1, Ent.sl (some ⟨b16, 0, none⟩ : Option Addr) (List.length (List.replicate (Int.toNat ((w64 (x9.2)))) (0 : Int))) (List.length (List.replicate (Int.toNat ((w64 (x9.2)))) (0 : Int))) 3 1 (List.flatten (List.replicate (Int.toNat ((w64 (x9.2)))) [Value.int .i64 0]))) :: fr)) (fun K => by kernel_rfl) 4 (by kernel_rfl) ?_
        refine WO.done (by kernel_rfl) ?_
        refine PO.nx ?_
        refine WP.seq (by kernel_rfl) ?_
        refine WP.reg (by kernel_rfl) ?_
        refine U.seg 2 [7, 31, 32] [] (fun K => K [(7, Value.slice (some ⟨b16, 0, none⟩ : Option Addr) (List.length (List.replicate (Int.toNat ((w64 (x9.2)))) (0 : Int))) (List.length (List.replicate (Int.toNat ((w64 (x9.2)))) (0 : Int)))), (31, Value.slice (some ⟨b16, 0, none⟩ : Option Addr) (List.length (List.replicate (Int.toNat ((w64 (x9.2)))) (0 : Int))) (List.length (List.replicate (Int.toNat ((w64 (x9.2)))) (0 : Int)))), (32, Value.slice a2 (List.length x1) c3)] ((1, Ent.sl (some ⟨b16, 0, none⟩ : Option Addr) (List.length (List.replicate (Int.toNat ((w64 (x9.2)))) (0 : Int))) (List.length (List.replicate (Int.toNat ((w64 (x9.2)))) (0 : Int))) 3 1 (List.flatten (List.replicate (Int.toNat ((w64 (x9.2)))) [Value.int .i64 0]))) :: fr)) (fun K => by kernel_rfl) 2 (by kernel_rfl) ?_
        obtain ⟨s18, h19, h20⟩ := Reads.gh (d := (Kd.int .i64)) (h := ((1, Ent.sl (some ⟨b16, 0, none⟩ : Option Addr) (List.length (List.replicate (Int.toNat ((w64 (x9.2)))) (0 : Int))) (List.length (List.replicate (Int.toNat ((w64 (x9.2)))) (0 : Int))) 3 1 (List.flatten (List.replicate (Int.toNat ((w64 (x9.2)))) [Value.int .i64 0]))) :: fr)) h6
        have h21 : Rw (Kd.int .i64) g (splice (List.flatten (List.replicate (Int.toNat ((w64 (x9.2)))) [Value.int .i64 0])) (0 * 1) (List.take ((Nat.min (List.length x1) (List.length (List.replicate (Int.toNat ((w64 (x9.2)))) (0 : Int)) - 0)) * 1) s18)) (lcopy (List.replicate (Int.toNat ((w64 (x9.2)))) (0 : Int)) 0 x1) := Rw.copy h15 h19 (Nat.zero_le _) rfl
        refine U.step 3 (by kernel_rfl) (U.copy (T := 53) (el := 3) (sz := 1) (dst := some 33) (t := 1) (da := (some ⟨b16, 0, none⟩ : Option Addr)) (m := (List.length (List.replicate (Int.toNat ((w64 (x9.2)))) (0 : Int)))) (c1 := (List.length (List.replicate (Int.toNat ((w64 (x9.2)))) (0 : Int)))) (nn := (List.length (List.replicate (Int.toNat ((w64 (x9.2)))) (0 : Int)))) (cap := (List.length (List.replicate (Int.toNat ((w64 (x9.2)))) (0 : Int)))) (bT := 3) (a := (some ⟨b16, 0, none⟩ : Option Addr)) (cs := (List.flatten (List.replicate (Int.toNat ((w64 (x9.2)))) [Value.int .i64 0]))) (b := a2) (k := (List.length x1)) (cc := c3) (news := s18) 0 (Nat.min (List.length x1) (List.length (List.replicate (Int.toNat ((w64 (x9.2)))) (0 : Int)) - 0)) (by kernel_rfl) (by kernel_rfl) (by kernel_rfl) (by kernel_rfl) (part_own (t := 1) (nn := (List.length (List.replicate (Int.toNat ((w64 (x9.2)))) (0 : Int)))) (cap := (List.length (List.replicate (Int.toNat ((w64 (x9.2)))) (0 : Int)))) (bT := 3) (sz := 1) (a := (some ⟨b16, 0, none⟩ : Option Addr)) (cs := (List.flatten (List.replicate (Int.toNat ((w64 (x9.2)))) [Value.int .i64 0]))) (by kernel_rfl)) (by omega) (Rw.len h15) (h20) (Rw.len h19) (Rw.one h19) rfl) ?_
        rintro _ _
        refine U.selEq [7, 33] [(7, Value.slice (some ⟨b16, 0, none⟩ : Option Addr) (List.length (lcopy (List.replicate (Int.toNat ((w64 (x9.2)))) (0 : Int)) 0 x1)) (List.length (List.replicate (Int.toNat ((w64 (x9.2)))) (0 : Int)))), (33, Value.int .i64 ((Nat.min (List.length x1) (List.length (List.replicate (Int.toNat ((w64 (x9.2)))) (0 : Int)) - 0)) : Int))] ((1, Ent.sl (some ⟨b16, 0, none⟩ : Option Addr) (List.length (lcopy (List.replicate (Int.toNat ((w64 (x9.2)))) (0 : Int)) 0 x1)) (List.length (List.replicate (Int.toNat ((w64 (x9.2)))) (0 : Int))) 3 1 (splice (List.flatten (List.replicate (Int.toNat ((w64 (x9.2)))) [Value.int .i64 0])) (0 * 1) (List.take ((Nat.min (List.length x1) (List.length (List.replicate (Int.toNat ((w64 (x9.2)))) (0 : Int)) - 0)) * 1) s18))) :: fr) (by first | rfl | (rw [lcopy_len (Nat.zero_le _)] <;> rfl)) (by first | rfl | (rw [lcopy_len (Nat.zero_le _)] <;> rfl)) ?_
        refine U.seg 1 [7, 8] [] (fun K => K [(7, Value.slice (some ⟨b16, 0, none⟩ : Option Addr) (List.length (lcopy (List.replicate (Int.toNat ((w64 (x9.2)))) (0 : Int)) 0 x1)) (List.length (List.replicate (Int.toNat ((w64 (x9.2)))) (0 : Int)))), (8, Value.int .i64 ((Nat.min (List.length x1) (List.length (List.replicate (Int.toNat ((w64 (x9.2)))) (0 : Int)) - 0)) : Int))] ((1, Ent.sl (some ⟨b16, 0, none⟩ : Option Addr) (List.length (lcopy (List.replicate (Int.toNat ((w64 (x9.2)))) (0 : Int)) 0 x1)) (List.length (List.replicate (Int.toNat ((w64 (x9.2)))) (0 : Int))) 3 1 (splice (List.flatten (List.replicate (Int.toNat ((w64 (x9.2)))) [Value.int .i64 0])) (0 * 1) (List.take ((Nat.min (List.length x1) (List.length (List.replicate (Int.toNat ((w64 (x9.2)))) (0 : Int)) - 0)) * 1) s18))) :: fr)) (fun K => by kernel_rfl) 4 (by kernel_rfl) ?_
        refine WO.done (by kernel_rfl) ?_
        refine PO.nx ?_
        refine WP.seq (by kernel_rfl) ?_
        refine WP.join (fun s => ∃ (x113 : (List Int)) (a110 : Option Addr) (c111 : Nat) (s114 : List Value), Rw (Kd.int .i64) g s114 x113 ∧ f39_j3 kk x113 = some r ∧ s = { n := 48, e := [(7, Value.slice a110 (List.length x113) c111)], d := [], g := g, h := ((1, Ent.sl a110 (List.length x113) c111 3 1 s114) :: fr) }) ?_ ?_
        · refine WP.block (id := 0) (by kernel_rfl) ?_
          obtain ⟨o76, h108, h79⟩ := bnd_some H
          refine WP.loopW (by kernel_rfl) (fun n s => ∃ (x69 : Int) (x74 : (List Int)) (a71 : Option Addr) (c72 : Nat) (s75 : List Value), Rw (Kd.int .i64) g s75 x74 ∧ iter (fun y : (Int × (List Int)) => f39_l2 kk y.1 y.2) n (x69, x74) = some o76 ∧ s = { n := 48, e := [(7, Value.slice a71 (List.length x74) c72), (8, Value.int .i64 x69)], d := [], g := g, h := ((1, Ent.sl a71 (List.length x74) c72 3 1 s75) :: fr) }) (k := kk) ⟨((Nat.min (List.length x1) (List.length (List.replicate (Int.toNat ((w64 (x9.2)))) (0 : Int)) - 0)) : Int), (lcopy (List.replicate (Int.toNat ((w64 (x9.2)))) (0 : Int)) 0 x1), (some ⟨b16, 0, none⟩ : Option Addr), (List.length (List.replicate (Int.toNat ((w64 (x9.2)))) (0 : Int))), (splice (List.flatten (List.replicate (Int.toNat ((w64 (x9.2)))) [Value.int .i64 0])) (0 * 1) (List.take ((Nat.min (List.length x1) (List.length (List.replicate (Int.toNat ((w64 (x9.2)))) (0 : Int)) - 0)) * 1) s18)), h21, h108, rfl⟩ (St.ok.to [7, 8] 1 [(1, 0)] (by kernel_rfl) rfl (by kernel_rfl) rfl rfl (by kernel_rfl)) ?_
          intro n103 s
          rintro ⟨x69, x74, a71, c72, s75, h73, h104, rfl⟩
          obtain ⟨n80, q77, h106, h107, h78⟩ := iter_some h104
          subst h106
          have H : f39_l2 kk x69 x74 = some q77 := h107
          unfold f39_l2 at H
          refine WP.seq (by kernel_rfl) ?_
          refine WP.seq (by kernel_rfl) ?_
          refine WP.reg (by kernel_rfl) ?_
          refine U.seg 4 [7, 8, 37] [] (fun K => K [(7, Value.slice a71 (List.length x74) c72), (8, Value.int .i64 x69), (37, Value.bool (decide (x69 < ((List.length x74) : Int))))] ((1, Ent.sl a71 (List.length x74) c72 3 1 s75) :: fr)) (fun K => by kernel_rfl) 4 (by kernel_rfl) ?_
          refine WO.done (by kernel_rfl) ?_
          refine PO.nx ?_
          rcases cond_some H with ⟨h81, H⟩ | ⟨h81, H⟩
          · refine U.asW (t := 37) (congrArg Value.bool h81) (by kernel_rfl) ?_
            refine WP.condT (by kernel_rfl) ?_
            refine WP.skip (by kernel_rfl) ?_
            refine PO.nx ?_
            refine WP.block (id := 1) (by kernel_rfl) ?_
            refine U.draw [] g [] (by kernel_rfl) (by kernel_rfl) 10 (by kernel_rfl) (fun w hw => Ok.pickTo [] (by kernel_rfl) (by kernel_rfl) (GH.le_refl _) hw) ?_
            obtain ⟨h89, H⟩ := grd_some H
            obtain ⟨h90, H⟩ := grd_some H
            refine U.knowD (own_le (t := 1) (nn := (List.length x74)) (cap := c72) (bT := 3) (sz := 1) (a := a71) (cs := s75) (by kernel_rfl)) (fun h91 => ?_)
            refine U.take 3 [0, 1, 2, 3, 4, 5, 6] [7, 8, 38, 41, 44] [6, 5, 4, 3, 2, 1, 0] [(3, .s), (6, .s)] (fun K => ((0 : Int) ≤ x69 ∧ x69 ≤ ((List.length x74) : Nat)) ∧ (((0 : Int) ≤ x69 ∧ x69 ≤ (c72 : Nat)) ∧ (K [(7, Value.slice a71 (List.length x74) c72), (8, Value.int .i64 x69), (38, Value.int .i64 x69), (41, Value.slice (subA a71 c72 (Int.toNat (x69)) 1) ((List.length x74) - (Int.toNat (x69))) (c72 - (Int.toNat (x69)))), (44, Value.slice (subA a71 c72 0 1) ((Int.toNat (x69))) (c72))]))) (fun K => by kernel_rfl) (by kernel_rfl) (by kernel_rfl) (by kernel_rfl) ?_
            refine ⟨h89, ?_⟩
            refine ⟨(by have h0 := h90; omega), ?_⟩
            have h92 : (Int.toNat (x69)) ≤ List.length x74 := by have h0 := h89; omega
            have h93 : Rw (Kd.int .i64) g (List.take ((Int.toNat (x69)) * 1) s75) (List.take (Int.toNat (x69)) x74) := Rw.take (Int.toNat (x69)) h73
            have h94 : List.length (List.take (Int.toNat (x69)) x74) = (Int.toNat (x69)) := by have h0 := h90; rw [List.length_take]; omega
            have h95 : Rw (Kd.int .i64) g (splice s75 ((Int.toNat (x69)) * 1) (List.take ((Nat.min (List.length (List.take (Int.toNat (x69)) x74)) (List.length x74 - (Int.toNat (x69)))) * 1) (List.take ((Int.toNat (x69)) * 1) s75))) (lcopy x74 (Int.toNat (x69)) (List.take (Int.toNat (x69)) x74)) := Rw.copy h73 h93 h92 rfl
            refine U.force 2 7 (by kernel_rfl) (by kernel_rfl) (U.copy (T := 53) (el := 3) (sz := 1) (dst := some 45) (t := 1) (da := (subA a71 c72 (Int.toNat (x69)) 1)) (m := ((List.length x74) - (Int.toNat (x69)))) (c1 := (c72 - (Int.toNat (x69)))) (nn := (List.length x74)) (cap := c72) (bT := 3) (a := a71) (cs := s75) (b := (subA a71 c72 0 1)) (k := (Int.toNat (x69))) (cc := c72) (news := (List.take ((Int.toNat (x69)) * 1) s75)) (Int.toNat (x69)) (Nat.min (List.length (List.take (Int.toNat (x69)) x74)) (List.length x74 - (Int.toNat (x69)))) (by kernel_rfl) (by kernel_rfl) (by kernel_rfl) (by kernel_rfl) (part_sub (t := 1) (nn := (List.length x74)) (cap := c72) (bT := 3) (sz := 1) (a := a71) (cs := s75) (by kernel_rfl) (Int.toNat (x69))) (by have h0 := h92; omega) (Rw.len h73) (reads_pre (t := 1) (nn := (List.length x74)) (cap := c72) (bT := 3) (sz := 1) (a := a71) (cs := s75) (by kernel_rfl) (by have h0 := h90; omega)) ((Rw.len h93).trans (by rw [h94]; rfl)) (Rw.one h93) (by rw [h94])) ?_
            rintro _ _
            refine ⟨(fun w hw => .inr (Ok.pickTo [] (by kernel_rfl) (by kernel_rfl) (GH.le_refl _) hw)), ?_⟩
            refine U.selEqD [7, 8, 38, 45] [(7, Value.slice a71 (List.length (lcopy x74 (Int.toNat (x69)) (List.take (Int.toNat (x69)) x74))) c72), (8, Value.int .i64 x69), (38, Value.int .i64 x69), (45, Value.int .i64 ((Nat.min (List.length (List.take (Int.toNat (x69)) x74)) (List.length x74 - (Int.toNat (x69)))) : Int))] ((1, Ent.sl a71 (List.length (lcopy x74 (Int.toNat (x69)) (List.take (Int.toNat (x69)) x74))) c72 3 1 (splice s75 ((Int.toNat (x69)) * 1) (List.take ((Nat.min (List.length (List.take (Int.toNat (x69)) x74)) (List.length x74 - (Int.toNat (x69)))) * 1) (List.take ((Int.toNat (x69)) * 1) s75)))) :: fr) (by first | rfl | (rw [lcopy_len h92] <;> rfl)) (by first | rfl | (rw [lcopy_len h92] <;> rfl)) ?_
            refine U.take 0 [8, 9] [7, 8] [9, 8, 7, 6, 5, 4, 3, 2, 1, 0] [] (fun K => K [(7, Value.slice a71 (List.length (lcopy x74 (Int.toNat (x69)) (List.take (Int.toNat (x69)) x74))) c72), (8, Value.int .i64 (w64 (x69 + ((Nat.min (List.length (List.take (Int.toNat (x69)) x74)) (List.length x74 - (Int.toNat (x69)))) : Int))))]) (fun K => by kernel_rfl) (by kernel_rfl) (by kernel_rfl) (by kernel_rfl) ?_
            refine WD.done (by kernel_rfl) ?_
            refine PO.blk_normal ?_
            have hq := Option.some.inj H
            subst hq
            refine PO.againW ⟨(w64 (x69 + ((Nat.min (List.length (List.take (Int.toNat (x69)) x74)) (List.length x74 - (Int.toNat (x69)))) : Int))), (lcopy x74 (Int.toNat (x69)) (List.take (Int.toNat (x69)) x74)), a71, c72, (splice s75 ((Int.toNat (x69)) * 1) (List.take ((Nat.min (List.length (List.take (Int.toNat (x69)) x74)) (List.length x74 - (Int.toNat (x69)))) * 1) (List.take ((Int.toNat (x69)) * 1) s75))), h95, h78, rfl⟩ ?_ (Nat.lt_succ_self _)
            exact (St.ok.to [7, 8] 1 [(1, 0)] (by kernel_rfl) rfl (by kernel_rfl) rfl rfl (by kernel_rfl))
          · refine U.asW (t := 37) (congrArg Value.bool h81) (by kernel_rfl) ?_
            refine WP.condF (by kernel_rfl) ?_
            refine WP.exit (id := 0) (by kernel_rfl) ?_
            refine PO.nx_exit ?_
            refine PO.lp_exit ?_
            refine PO.blk_exit ?_
            have hq := Option.some.inj H
            subst hq
            have H := h79
            rw [← (show _ = o76 from h78)] at H
            have H : f39_j3 kk x74 = some r := H
            refine PO.jn ⟨x74, a71, c72, s75, h73, H, rfl⟩ ?_
            exact (St.ok.to [7] 1 [(1, 0)] (by kernel_rfl) rfl (by kernel_rfl) rfl rfl (by kernel_rfl))
        · rintro _ ⟨x113, a110, c111, s114, h112, H, rfl⟩
          unfold f39_j3 at H
          refine PO.nx ?_
          refine WP.seq (by kernel_rfl) ?_
          refine WP.reg (by kernel_rfl) ?_
          refine U.seg 2 [4] [] (fun K => K [(4, Value.slice a110 (List.length x113) c111)] ((1, Ent.sl a110 (List.length x113) c111 3 1 s114) :: fr)) (fun K => by kernel_rfl) 2 (by kernel_rfl) ?_
          refine WO.done (by kernel_rfl) ?_
          refine PO.nx ?_
          refine WP.ret (by kernel_rfl) ?_
          refine U.freezeP (dd := (Kd.int .i64)) (t := 1) (a := a110) (n1 := (List.length x113)) (cc := c111) (T := 3) (cs := s114) (by kernel_rfl) h112 rfl (fun g115 h116 h117 => ?_)
          have hr := Option.some.inj H
          subst hr
          refine PO.body [Value.slice a110 (List.length x113) c111] (fr) rfl (Res.tmp (by kernel_rfl) Res.nil) ?_
          exact fun w hw => Ret.mk (g115, a110, c111) ⟨h116, h117⟩ rfl (okNT 0 [] (by kernel_rfl) rfl hw)

set_option maxRecDepth 100000 in
theorem c_f9 (kk : Nat) (x1 : Int) (x2 : Int) (x3 : (List (Int × Int))) (a4 : Option Addr) (c5 : Nat) {g : GH} (h7 : Sl (Kd.pair (Kd.int .i64) (Kd.int .i64)) g a4 (List.length x3) c5 x3) {r : ((List (List Int)) × Int)} (H : m_f9 kk x1 x2 x3 = some r) {fr : Hs} {w : World} (hw : Ok g (fr) w) :
    Calls Try.prog 9 (List.toArray [Value.agg #[Value.int .i64 x1, Value.int .i64 x2, Value.slice a4 (List.length x3) c5]]) w (Ret (fun y : (GH) × (Option Addr) × (Nat) => GH.le g y.1 ∧ Sl (Kd.sl (Kd.int .i64)) y.1 y.2.1 (List.length r.1) y.2.2 r.1) (fun y => Value.tuple #[Value.slice y.2.1 (List.length r.1) y.2.2, Value.int .i64 r.2]) (fun y => y.1) (fun y => (fr))) := by
  refine fn_wp (args := [Value.agg #[Value.int .i64 x1, Value.int .i64 x2, Value.slice a4 (List.length x3) c5]]) (c := C_9) Try.func9 (by kernel_rfl) Try.ntmps9 (by kernel_rfl) ?_ hw
  unfold m_f9 at H
  refine WP.seq (by kernel_rfl) ?_
  refine WP.reg (by kernel_rfl) ?_
  refine U.seg 3 [1] [(0, .al 1)] (fun K => ∀ b8 : Nat, K [(1, Value.pointer (some ⟨b8, 0, none⟩))] ((1, Ent.blk b8 47 [Value.int .i64 x1, Value.int .i64 x2, Value.slice a4 (List.length x3) c5]) :: fr)) (fun K => by kernel_rfl) 3 (by kernel_rfl) ?_
  intro b8
  refine WO.done (by kernel_rfl) ?_
  refine PO.nx ?_
  refine WP.seq (by kernel_rfl) ?_
  refine WP.seq (by kernel_rfl) ?_
  refine WP.reg (by kernel_rfl) ?_
  refine U.seg 1 [1, 13] [(0, .ld 1)] (fun K => (b8 = b8) ∧ (K [(1, Value.pointer (some ⟨b8, 0, none⟩)), (13, Value.agg #[Value.int .i64 x1, Value.int .i64 x2, Value.slice a4 (List.length x3) c5])] ((1, Ent.blk b8 47 [Value.int .i64 x1, Value.int .i64 x2, Value.slice a4 (List.length x3) c5]) :: fr))) (fun K => by kernel_rfl) 1 (by kernel_rfl) ?_
  refine ⟨rfl, ?_⟩
  obtain ⟨x10, h11, H⟩ := bnd_some H
  refine U.step 2 (by kernel_rfl) (U.call (dst := some 14) (fun w hw => c_f32 kk x1 x2 x3 a4 c5 h7 h11 hw) (by kernel_rfl) (enters_of Try.func32 (by kernel_rfl) rfl)) ?_
  rintro _ _
  refine U.seg 1 [1, 4] [] (fun K => K [(1, Value.pointer (some ⟨b8, 0, none⟩)), (4, Value.int .i64 x10)] ((1, Ent.blk b8 47 [Value.int .i64 x1, Value.int .i64 x2, Value.slice a4 (List.length x3) c5]) :: fr)) (fun K => by kernel_rfl) 3 (by kernel_rfl) ?_
  refine WO.done (by kernel_rfl) ?_
  refine PO.nx ?_
  refine WP.seq (by kernel_rfl) ?_
  refine WP.reg (by kernel_rfl) ?_
  refine U.seg 2 [1, 4, 16] [] (fun K => K [(1, Value.pointer (some ⟨b8, 0, none⟩)), (4, Value.int .i64 x10), (16, Value.bool (x10 != 0))] ((1, Ent.blk b8 47 [Value.int .i64 x1, Value.int .i64 x2, Value.slice a4 (List.length x3) c5]) :: fr)) (fun K => by kernel_rfl) 2 (by kernel_rfl) ?_
  refine WO.done (by kernel_rfl) ?_
  refine PO.nx ?_
  rcases cond_some H with ⟨h12, H⟩ | ⟨h12, H⟩
  · refine U.asW (t := 16) (congrArg Value.bool h12) (by kernel_rfl) ?_
    refine WP.condT (by kernel_rfl) ?_
    refine WP.seq (by kernel_rfl) ?_
    refine WP.reg (by kernel_rfl) ?_
    refine U.seg 3 [2, 3] [] (fun K => K [(2, Value.slice none 0 0), (3, Value.int .i64 x10)] ((1, Ent.blk b8 47 [Value.int .i64 x1, Value.int .i64 x2, Value.slice a4 (List.length x3) c5]) :: fr)) (fun K => by kernel_rfl) 3 (by kernel_rfl) ?_
    refine WO.done (by kernel_rfl) ?_
    refine PO.nx ?_
    refine WP.ret (by kernel_rfl) ?_
    refine PO.nx_ret ?_
    have hr := Option.some.inj H
    subst hr
    refine PO.body [Value.slice none 0 0, Value.int .i64 x10] ((1, Ent.blk b8 47 [Value.int .i64 x1, Value.int .i64 x2, Value.slice a4 (List.length x3) c5]) :: fr) rfl (Res.tmp (by kernel_rfl) (Res.tmp (by kernel_rfl) Res.nil)) ?_
    exact fun w hw => Ret.mk (g, none, 0) ⟨(GH.le_refl _), Sl.nil'⟩ rfl (okNT 1 [] (by kernel_rfl) rfl hw)
  · refine U.asW (t := 16) (congrArg Value.bool h12) (by kernel_rfl) ?_
    refine WP.condF (by kernel_rfl) ?_
    refine WP.skip (by kernel_rfl) ?_
    refine PO.nx ?_
    refine WP.seq (by kernel_rfl) ?_
    refine WP.reg (by kernel_rfl) ?_
    refine U.seg 4 [1, 5] [(0, .al 2), (2, .al 3), (3, .st 3)] (fun K => ∀ b14 : Nat, ∀ b15 : Nat, (b15 = b15) ∧ (K [(1, Value.pointer (some ⟨b8, 0, none⟩)), (5, Value.pointer (some ⟨b15, 0, none⟩))] ((3, Ent.blk b15 109 [Value.map (some b14)]) :: (2, Ent.mp b14 (mpE ek_112 ev_114 [])) :: (1, Ent.blk b8 47 [Value.int .i64 x1, Value.int .i64 x2, Value.slice a4 (List.length x3) c5]) :: fr))) (fun K => by kernel_rfl) 4 (by kernel_rfl) ?_
    intro b14
    intro b15
    refine ⟨rfl, ?_⟩
    refine WO.done (by kernel_rfl) ?_
    refine PO.nx ?_
    refine WP.seq (by kernel_rfl) ?_
    refine WP.reg (by kernel_rfl) ?_
    refine U.seg 1 [1, 5, 6] [(0, .al 4)] (fun K => ∀ b16 : Nat, K [(1, Value.pointer (some ⟨b8, 0, none⟩)), (5, Value.pointer (some ⟨b15, 0, none⟩)), (6, Value.pointer (some ⟨b16, 0, none⟩))] ((4, Ent.blk b16 110 [Value.nilFunc]) :: (3, Ent.blk b15 109 [Value.map (some b14)]) :: (2, Ent.mp b14 (mpE ek_112 ev_114 [])) :: (1, Ent.blk b8 47 [Value.int .i64 x1, Value.int .i64 x2, Value.slice a4 (List.length x3) c5]) :: fr)) (fun K => by kernel_rfl) 1 (by kernel_rfl) ?_
    intro b16
    refine WO.done (by kernel_rfl) ?_
    refine PO.nx ?_
    refine WP.seq (by kernel_rfl) ?_
    refine WP.reg (by kernel_rfl) ?_
    refine U.seg 2 [1, 5, 6] [(1, .st 4)] (fun K => (b16 = b16) ∧ (K [(1, Value.pointer (some ⟨b8, 0, none⟩)), (5, Value.pointer (some ⟨b15, 0, none⟩)), (6, Value.pointer (some ⟨b16, 0, none⟩))] ((4, Ent.blk b16 110 ([Value.func (.func 33) #[] #[Value.pointer (some ⟨b8, 0, none⟩), Value.pointer (some ⟨b15, 0, none⟩), Value.pointer (some ⟨b16, 0, none⟩)]])) :: (3, Ent.blk b15 109 [Value.map (some b14)]) :: (2, Ent.mp b14 (mpE ek_112 ev_114 [])) :: (1, Ent.blk b8 47 [Value.int .i64 x1, Value.int .i64 x2, Value.slice a4 (List.length x3) c5]) :: fr))) (fun K => by kernel_rfl) 2 (by kernel_rfl) ?_
    refine ⟨rfl, ?_⟩
    refine WO.done (by kernel_rfl) ?_
    refine PO.nx ?_
    refine WP.seq (by kernel_rfl) ?_
    refine WP.reg (by kernel_rfl) ?_
    refine U.seg 1 [1, 5, 6, 7] [] (fun K => K [(1, Value.pointer (some ⟨b8, 0, none⟩)), (5, Value.pointer (some ⟨b15, 0, none⟩)), (6, Value.pointer (some ⟨b16, 0, none⟩)), (7, Value.slice none 0 0)] ((4, Ent.blk b16 110 ([Value.func (.func 33) #[] #[Value.pointer (some ⟨b8, 0, none⟩), Value.pointer (some ⟨b15, 0, none⟩), Value.pointer (some ⟨b16, 0, none⟩)]])) :: (3, Ent.blk b15 109 [Value.map (some b14)]) :: (2, Ent.mp b14 (mpE ek_112 ev_114 [])) :: (1, Ent.blk b8 47 [Value.int .i64 x1, Value.int .i64 x2, Value.slice a4 (List.length x3) c5]) :: fr)) (fun K => by kernel_rfl) 1 (by kernel_rfl) ?_
    refine WO.done (by kernel_rfl) ?_
    refine PO.nx ?_
    refine WP.seq (by kernel_rfl) ?_
    refine WP.seq (by kernel_rfl) ?_
    refine WP.reg (by kernel_rfl) ?_
    refine U.seg 1 [5, 6, 7, 21] [(0, .ld 1)] (fun K => (b8 = b8) ∧ (K [(5, Value.pointer (some ⟨b15, 0, none⟩)), (6, Value.pointer (some ⟨b16, 0, none⟩)), (7, Value.slice none 0 0), (21, Value.agg #[Value.int .i64 x1, Value.int .i64 x2, Value.slice a4 (List.length x3) c5])] ((4, Ent.blk b16 110 ([Value.func (.func 33) #[] #[Value.pointer (some ⟨b8, 0, none⟩), Value.pointer (some ⟨b15, 0, none⟩), Value.pointer (some ⟨b16, 0, none⟩)]])) :: (3, Ent.blk b15 109 [Value.map (some b14)]) :: (2, Ent.mp b14 (mpE ek_112 ev_114 [])) :: (1, Ent.blk b8 47 [Value.int .i64 x1, Value.int .i64 x2, Value.slice a4 (List.length x3) c5]) :: fr))) (fun K => by kernel_rfl) 1 (by kernel_rfl) ?_
    refine ⟨rfl, ?_⟩
    obtain ⟨x18, h19, H⟩ := bnd_some H
    refine U.step 2 (by kernel_rfl) (U.call (dst := some 22) (fun w hw => c_f38 kk x1 x2 x3 a4 c5 h7 h19 hw) (by kernel_rfl) (enters_of Try.func38 (by kernel_rfl) rfl)) ?_
    rintro _ h20
    refine U.seg 2 [5, 6, 7, 8] [(2, .al 5), (3, .st 5)] (fun K => ∀ b21 : Nat, (b21 = b21) ∧ (K [(5, Value.pointer (some ⟨b15, 0, none⟩)), (6, Value.pointer (some ⟨b16, 0, none⟩)), (7, Value.slice none 0 0), (8, Value.pointer (some ⟨b21, 0, none⟩))] ((5, Ent.blk b21 112 (arrC 8 .i64 x18)) :: (4, Ent.blk b16 110 ([Value.func (.func 33) #[] #[Value.pointer (some ⟨b8, 0, none⟩), Value.pointer (some ⟨b15, 0, none⟩), Value.pointer (some ⟨b16, 0, none⟩)]])) :: (3, Ent.blk b15 109 [Value.map (some b14)]) :: (2, Ent.mp b14 (mpE ek_112 ev_114 [])) :: (1, Ent.blk b8 47 [Value.int .i64 x1, Value.int .i64 x2, Value.slice a4 (List.length x3) c5]) :: fr))) (fun K => by kernel_rfl) 4 (by kernel_rfl) ?_
    intro b21
    refine ⟨rfl, ?_⟩
    refine WO.done (by kernel_rfl) ?_
    refine PO.nx ?_
    refine WP.join (fun s => ∃ (x569 : (List (List Int))) (g563 : GH) (a566 : Option Addr) (c567 : Nat) (s570 : List Value), GH.le g g563 ∧ Rw (Kd.sl (Kd.int .i64)) g563 s570 x569 ∧ f9_j8 kk x569 = some r ∧ s = { n := 54, e := [(7, Value.slice a566 (List.length x569) c567)], d := [], g := g563, h := ((58, Ent.sl a566 (List.length x569) c567 53 1 s570) :: fr) }) ?_ ?_
    · refine WP.block (id := 0) (by kernel_rfl) ?_
      obtain ⟨o381, h562, h384⟩ := bnd_some H
      refine U.nilW 56 53 1 ?_
      refine WP.loopW (by kernel_rfl) (fun n s => ∃ (x371 : (List Int)) (x377 : (List (List Int))) (x380 : (List ((List Int) × ((List Int) × Int)))) (g369 : GH) (a374 : Option Addr) (c375 : Nat) (s378 : List Value) (b379 : Nat), GH.le g g369 ∧ x371.length = 8 ∧ Rw (Kd.sl (Kd.int .i64)) g369 s378 x377 ∧ iter (fun y : ((List Int) × (List (List Int)) × (List ((List Int) × ((List Int) × Int)))) => f9_l5 kk y.1 y.2.1 y.2.2 x1 x2 x3) n (x371, x377, x380) = some o381 ∧ s = { n := 54, e := [(5, Value.pointer (some ⟨b15, 0, none⟩)), (6, Value.pointer (some ⟨b16, 0, none⟩)), (7, Value.slice a374 (List.length x377) c375), (8, Value.pointer (some ⟨b379, 0, none⟩))], d := [], g := g369, h := ((1, Ent.blk b8 47 [Value.int .i64 x1, Value.int .i64 x2, Value.slice a4 (List.length x3) c5]) :: (2, Ent.mp b14 (mpE ek_112 ev_114 x380)) :: (3, Ent.blk b15 109 [Value.map (some b14)]) :: (4, Ent.blk b16 110 ([Value.func (.func 33) #[] #[Value.pointer (some ⟨b8, 0, none⟩), Value.pointer (some ⟨b15, 0, none⟩), Value.pointer (some ⟨b16, 0, none⟩)]])) :: (38, Ent.sl a374 (List.length x377) c375 53 1 s378) :: (40, Ent.blk b379 112 (arrC 8 .i64 x371)) :: fr) }) (k := kk) ⟨x18, [], [], g, none, 0, [], b21, (GH.le_refl _), h20, Rw.nil, h562, rfl⟩ (St.ok.to [5, 6, 7, 8] 6 [(1, 5), (2, 4), (3, 3), (4, 2), (38, 0), (40, 1)] (by kernel_rfl) rfl (by kernel_rfl) rfl rfl (by kernel_rfl)) ?_
      intro n557 s
      rintro ⟨x371, x377, x380, g369, a374, c375, s378, b379, h370, h372, h376, h558, rfl⟩
      obtain ⟨n385, q382, h560, h561, h383⟩ := iter_some h558
      subst h560
      have H : f9_l5 kk x371 x377 x380 x1 x2 x3 = some q382 := h561
      unfold f9_l5 at H
      refine WP.seq (by kernel_rfl) ?_
      refine WP.seq (by kernel_rfl) ?_
      refine WP.reg (by kernel_rfl) ?_
      refine U.seg 3 [5, 6, 7, 8, 25] [(0, .ld 40), (2, .s)] (fun K => (b379 = b379) ∧ ((Try.prog.eqGuardType Try.prog.depth 112 = false) ∧ (K [(5, Value.pointer (some ⟨b15, 0, none⟩)), (6, Value.pointer (some ⟨b16, 0, none⟩)), (7, Value.slice a374 (List.length x377) c375), (8, Value.pointer (some ⟨b379, 0, none⟩)), (25, Value.bool (!(eqA x371 (List.replicate 8 (0 : Int)) (List.range 8))))] ((1, Ent.blk b8 47 [Value.int .i64 x1, Value.int .i64 x2, Value.slice a4 (List.length x3) c5]) :: (2, Ent.mp b14 (mpE ek_112 ev_114 x380)) :: (3, Ent.blk b15 109 [Value.map (some b14)]) :: (4, Ent.blk b16 110 ([Value.func (.func 33) #[] #[Value.pointer (some ⟨b8, 0, none⟩), Value.pointer (some ⟨b15, 0, none⟩), Value.pointer (some ⟨b16, 0, none⟩)]])) :: (38, Ent.sl a374 (List.length x377) c375 53 1 s378) :: (40, Ent.blk b379 112 (arrC 8 .i64 x371)) :: fr)))) (fun K => by kernel_rfl) 3 (by kernel_rfl) ?_
      refine ⟨rfl, ?_⟩
      refine ⟨(by kernel_rfl), ?_⟩
      refine WO.done (by kernel_rfl) ?_
      refine PO.nx ?_
      rcases cond_some H with ⟨h386, H⟩ | ⟨h386, H⟩
      · refine U.asW (t := 25) (congrArg Value.bool h386) (by kernel_rfl) ?_
        refine WP.condT (by kernel_rfl) ?_
        refine WP.skip (by kernel_rfl) ?_
        refine PO.nx ?_
        refine WP.seq (by kernel_rfl) ?_
        refine WP.block (id := 1) (by kernel_rfl) ?_
        refine WP.seq (by kernel_rfl) ?_
        refine WP.reg (by kernel_rfl) ?_
        refine U.seg 2 [5, 6, 7, 8, 26, 27] [(0, .ld 40), (1, .ld 4)] (fun K => (b379 = b379) ∧ ((b16 = b16) ∧ (K [(5, Value.pointer (some ⟨b15, 0, none⟩)), (6, Value.pointer (some ⟨b16, 0, none⟩)), (7, Value.slice a374 (List.length x377) c375), (8, Value.pointer (some ⟨b379, 0, none⟩)), (26, Value.agg ((arrC 8 .i64 x371)).toArray), (27, Value.func (.func 33) #[] #[Value.pointer (some ⟨b8, 0, none⟩), Value.pointer (some ⟨b15, 0, none⟩), Value.pointer (some ⟨b16, 0, none⟩)])] ((1, Ent.blk b8 47 [Value.int .i64 x1, Value.int .i64 x2, Value.slice a4 (List.length x3) c5]) :: (2, Ent.mp b14 (mpE ek_112 ev_114 x380)) :: (3, Ent.blk b15 109 [Value.map (some b14)]) :: (4, Ent.blk b16 110 ([Value.func (.func 33) #[] #[Value.pointer (some ⟨b8, 0, none⟩), Value.pointer (some ⟨b15, 0, none⟩), Value.pointer (some ⟨b16, 0, none⟩)]])) :: (38, Ent.sl a374 (List.length x377) c375 53 1 s378) :: (40, Ent.blk b379 112 (arrC 8 .i64 x371)) :: fr)))) (fun K => by kernel_rfl) 2 (by kernel_rfl) ?_
        refine ⟨rfl, ?_⟩
        refine ⟨rfl, ?_⟩
        obtain ⟨x387, h388, H⟩ := bnd_some H
        refine U.step 3 (by kernel_rfl) (U.call (dst := some 28) (fun w hw => c_f37 kk x371 x1 x2 x3 x380 b15 b8 b16 b14 a4 c5 h372 (h7.mono h370) h388 (okNT 6 [(1, 2), (2, 0), (3, 3), (4, 1), (38, 4), (40, 5)] (by kernel_rfl) rfl hw)) (by kernel_rfl) (enters_of Try.func37 (by kernel_rfl) rfl)) ?_
        rintro _ h390
        refine U.pick  6 [(3, 0), (1, 1), (4, 2), (2, 3), (38, 4), (40, 5)] ((3, Ent.blk b15 109 [Value.map (some b14)]) :: (1, Ent.blk b8 47 [Value.int .i64 x1, Value.int .i64 x2, Value.slice a4 (List.length x3) c5]) :: (4, Ent.blk b16 110 ([Value.func (.func 33) #[] #[Value.pointer (some ⟨b8, 0, none⟩), Value.pointer (some ⟨b15, 0, none⟩), Value.pointer (some ⟨b16, 0, none⟩)]])) :: (2, Ent.mp b14 (mpE ek_112 ev_114 x387.2.2)) :: (38, Ent.sl a374 (List.length x377) c375 53 1 s378) :: (40, Ent.blk b379 112 (arrC 8 .i64 x371)) :: fr) (by kernel_rfl) rfl ?_
        refine U.seg 3 [5, 6, 7, 8, 9] [(4, .al 41), (5, .st 41)] (fun K => ∀ b391 : Nat, (b391 = b391) ∧ (K [(5, Value.pointer (some ⟨b15, 0, none⟩)), (6, Value.pointer (some ⟨b16, 0, none⟩)), (7, Value.slice a374 (List.length x377) c375), (8, Value.pointer (some ⟨b379, 0, none⟩)), (9, Value.pointer (some ⟨b391, 0, none⟩))] ((41, Ent.blk b391 112 (arrC 8 .i64 x387.1)) :: (3, Ent.blk b15 109 [Value.map (some b14)]) :: (1, Ent.blk b8 47 [Value.int .i64 x1, Value.int .i64 x2, Value.slice a4 (List.length x3) c5]) :: (4, Ent.blk b16 110 ([Value.func (.func 33) #[] #[Value.pointer (some ⟨b8, 0, none⟩), Value.pointer (some ⟨b15, 0, none⟩), Value.pointer (some ⟨b16, 0, none⟩)]])) :: (2, Ent.mp b14 (mpE ek_112 ev_114 x387.2.2)) :: (38, Ent.sl a374 (List.length x377) c375 53 1 s378) :: (40, Ent.blk b379 112 (arrC 8 .i64 x371)) :: fr))) (fun K => by kernel_rfl) 6 (by kernel_rfl) ?_
        intro b391
        refine ⟨rfl, ?_⟩
        refine WO.done (by kernel_rfl) ?_
        refine PO.nx ?_
        refine WP.seq (by kernel_rfl) ?_
        refine WP.reg (by kernel_rfl) ?_
        refine U.seg 1 [5, 6, 7, 8, 9, 10] [] (fun K => K [(5, Value.pointer (some ⟨b15, 0, none⟩)), (6, Value.pointer (some ⟨b16, 0, none⟩)), (7, Value.slice a374 (List.length x377) c375), (8, Value.pointer (some ⟨b379, 0, none⟩)), (9, Value.pointer (some ⟨b391, 0, none⟩)), (10, Value.slice none 0 0)] ((41, Ent.blk b391 112 (arrC 8 .i64 x387.1)) :: (3, Ent.blk b15 109 [Value.map (some b14)]) :: (1, Ent.blk b8 47 [Value.int .i64 x1, Value.int .i64 x2, Value.slice a4 (List.length x3) c5]) :: (4, Ent.blk b16 110 ([Value.func (.func 33) #[] #[Value.pointer (some ⟨b8, 0, none⟩), Value.pointer (some ⟨b15, 0, none⟩), Value.pointer (some ⟨b16, 0, none⟩)]])) :: (2, Ent.mp b14 (mpE ek_112 ev_114 x387.2.2)) :: (38, Ent.sl a374 (List.length x377) c375 53 1 s378) :: (40, Ent.blk b379 112 (arrC 8 .i64 x371)) :: fr)) (fun K => by kernel_rfl) 1 (by kernel_rfl) ?_
        refine WO.done (by kernel_rfl) ?_
        refine PO.nx ?_
        refine WP.seq (by kernel_rfl) ?_
        refine WP.seq (by kernel_rfl) ?_
        refine WP.reg (by kernel_rfl) ?_
        refine U.seg 2 [5, 6, 7, 8, 10, 30, 31] [(0, .ld 41)] (fun K => (b391 = b391) ∧ (K [(5, Value.pointer (some ⟨b15, 0, none⟩)), (6, Value.pointer (some ⟨b16, 0, none⟩)), (7, Value.slice a374 (List.length x377) c375), (8, Value.pointer (some ⟨b379, 0, none⟩)), (10, Value.slice none 0 0), (30, Value.agg ((arrC 8 .i64 x387.1)).toArray), (31, Value.int .i64 0)] ((41, Ent.blk b391 112 (arrC 8 .i64 x387.1)) :: (3, Ent.blk b15 109 [Value.map (some b14)]) :: (1, Ent.blk b8 47 [Value.int .i64 x1, Value.int .i64 x2, Value.slice a4 (List.length x3) c5]) :: (4, Ent.blk b16 110 ([Value.func (.func 33) #[] #[Value.pointer (some ⟨b8, 0, none⟩), Value.pointer (some ⟨b15, 0, none⟩), Value.pointer (some ⟨b16, 0, none⟩)]])) :: (2, Ent.mp b14 (mpE ek_112 ev_114 x387.2.2)) :: (38, Ent.sl a374 (List.length x377) c375 53 1 s378) :: (40, Ent.blk b379 112 (arrC 8 .i64 x371)) :: fr))) (fun K => by kernel_rfl) 2 (by kernel_rfl) ?_
        refine ⟨rfl, ?_⟩
        refine WO.done (by kernel_rfl) ?_
        refine PO.nx ?_
        refine WP.join (fun s => ∃ (x524 : (List Int)) (x530 : (List Int)) (g522 : GH) (a527 : Option Addr) (c528 : Nat) (s531 : List Value), GH.le g369 g522 ∧ x524.length = 8 ∧ Rw (Kd.int .i64) g522 s531 x530 ∧ f9_j7 kk x377 x530 x524 x387 = some q382 ∧ s = { n := 54, e := [(5, Value.pointer (some ⟨b15, 0, none⟩)), (6, Value.pointer (some ⟨b16, 0, none⟩)), (7, Value.slice a374 (List.length x377) c375), (8, Value.pointer (some ⟨b379, 0, none⟩)), (10, Value.slice a527 (List.length x530) c528)], d := [], g := g522, h := ((1, Ent.blk b8 47 [Value.int .i64 x1, Value.int .i64 x2, Value.slice a4 (List.length x3) c5]) :: (2, Ent.mp b14 (mpE ek_112 ev_114 x387.2.2)) :: (3, Ent.blk b15 109 [Value.map (some b14)]) :: (4, Ent.blk b16 110 ([Value.func (.func 33) #[] #[Value.pointer (some ⟨b8, 0, none⟩), Value.pointer (some ⟨b15, 0, none⟩), Value.pointer (some ⟨b16, 0, none⟩)]])) :: (38, Ent.sl a374 (List.length x377) c375 53 1 s378) :: (40, Ent.blk b379 112 (arrC 8 .i64 x524)) :: (52, Ent.sl a527 (List.length x530) c528 3 1 s531) :: fr) }) ?_ ?_
        · refine WP.block (id := 2) (by kernel_rfl) ?_
          obtain ⟨o476, h521, h479⟩ := bnd_some H
          refine U.nilW 51 3 1 ?_
          refine WP.loopW (by kernel_rfl) (fun n s => ∃ (x467 : Int) (x468 : (List Int)) (x474 : (List Int)) (g465 : GH) (a471 : Option Addr) (c472 : Nat) (s475 : List Value), GH.le g369 g465 ∧ x468.length = 8 ∧ Rw (Kd.int .i64) g465 s475 x474 ∧ iter (fun y : (Int × (List Int) × (List Int)) => f9_l6 kk y.1 y.2.1 y.2.2 x387 x377) n (x467, x468, x474) = some o476 ∧ s = { n := 54, e := [(5, Value.pointer (some ⟨b15, 0, none⟩)), (6, Value.pointer (some ⟨b16, 0, none⟩)), (7, Value.slice a374 (List.length x377) c375), (8, Value.pointer (some ⟨b379, 0, none⟩)), (10, Value.slice a471 (List.length x474) c472), (30, Value.agg ((arrC 8 .i64 x387.1)).toArray), (31, Value.int .i64 x467)], d := [], g := g465, h := ((1, Ent.blk b8 47 [Value.int .i64 x1, Value.int .i64 x2, Value.slice a4 (List.length x3) c5]) :: (2, Ent.mp b14 (mpE ek_112 ev_114 x387.2.2)) :: (3, Ent.blk b15 109 [Value.map (some b14)]) :: (4, Ent.blk b16 110 ([Value.func (.func 33) #[] #[Value.pointer (some ⟨b8, 0, none⟩), Value.pointer (some ⟨b15, 0, none⟩), Value.pointer (some ⟨b16, 0, none⟩)]])) :: (38, Ent.sl a374 (List.length x377) c375 53 1 s378) :: (40, Ent.blk b379 112 (arrC 8 .i64 x468)) :: (47, Ent.sl a471 (List.length x474) c472 3 1 s475) :: fr) }) (k := kk) ⟨0, x371, [], g369, none, 0, [], (GH.le_refl _), h372, Rw.nil, h521, rfl⟩ (St.ok.to [5, 6, 7, 8, 10, 30, 31] 8 [(1, 3), (2, 5), (3, 2), (4, 4), (38, 6), (40, 7), (47, 0)] (by kernel_rfl) rfl (by kernel_rfl) rfl rfl (by kernel_rfl)) ?_
          intro n516 s
          rintro ⟨x467, x468, x474, g465, a471, c472, s475, h466, h469, h473, h517, rfl⟩
          obtain ⟨n480, q477, h519, h520, h478⟩ := iter_some h517
          subst h519
          have H : f9_l6 kk x467 x468 x474 x387 x377 = some q477 := h520
          unfold f9_l6 at H
          refine WP.seq (by kernel_rfl) ?_
          refine WP.reg (by kernel_rfl) ?_
          refine U.seg 1 [5, 6, 7, 8, 10, 30, 31, 32] [] (fun K => K [(5, Value.pointer (some ⟨b15, 0, none⟩)), (6, Value.pointer (some ⟨b16, 0, none⟩)), (7, Value.slice a374 (List.length x377) c375), (8, Value.pointer (some ⟨b379, 0, none⟩)), (10, Value.slice a471 (List.length x474) c472), (30, Value.agg ((arrC 8 .i64 x387.1)).toArray), (31, Value.int .i64 x467), (32, Value.bool (decide (x467 < 8)))] ((1, Ent.blk b8 47 [Value.int .i64 x1, Value.int .i64 x2, Value.slice a4 (List.length x3) c5]) :: (2, Ent.mp b14 (mpE ek_112 ev_114 x387.2.2)) :: (3, Ent.blk b15 109 [Value.map (some b14)]) :: (4, Ent.blk b16 110 ([Value.func (.func 33) #[] #[Value.pointer (some ⟨b8, 0, none⟩), Value.pointer (some ⟨b15, 0, none⟩), Value.pointer (some ⟨b16, 0, none⟩)]])) :: (38, Ent.sl a374 (List.length x377) c375 53 1 s378) :: (40, Ent.blk b379 112 (arrC 8 .i64 x468)) :: (47, Ent.sl a471 (List.length x474) c472 3 1 s475) :: fr)) (fun K => by kernel_rfl) 1 (by kernel_rfl) ?_
          refine WO.done (by kernel_rfl) ?_
          refine PO.nx ?_
          refine WP.seq (by kernel_rfl) ?_
          rcases cond_some H with ⟨h481, H⟩ | ⟨h481, H⟩
          · refine U.asW (t := 32) (congrArg Value.bool h481) (by kernel_rfl) ?_
            refine WP.condT (by kernel_rfl) ?_
            refine WP.skip (by kernel_rfl) ?_
            refine PO.nx ?_
            refine WP.seq (by kernel_rfl) ?_
            refine WP.block (id := 3) (by kernel_rfl) ?_
            refine WP.seq (by kernel_rfl) ?_
            refine WP.reg (by kernel_rfl) ?_
            obtain ⟨h482, H⟩ := grd_some H
            refine U.seg 4 [5, 6, 7, 8, 10, 11, 12, 30, 31] [(1, .w (Value.int .i64 (List.getD x387.1 (Int.toNat (x467)) 0)))] (fun K => ((0 : Int) ≤ x467 ∧ x467 < ((8 : Nat) : Int) ∧ ((arrC 8 .i64 x387.1))[(Int.toNat (x467))]? = some (Value.int .i64 (List.getD x387.1 (Int.toNat (x467)) 0))) ∧ (K [(5, Value.pointer (some ⟨b15, 0, none⟩)), (6, Value.pointer (some ⟨b16, 0, none⟩)), (7, Value.slice a374 (List.length x377) c375), (8, Value.pointer (some ⟨b379, 0, none⟩)), (10, Value.slice a471 (List.length x474) c472), (11, Value.int .i64 x467), (12, Value.int .i64 (List.getD x387.1 (Int.toNat (x467)) 0)), (30, Value.agg ((arrC 8 .i64 x387.1)).toArray), (31, Value.int .i64 x467)] ((1, Ent.blk b8 47 [Value.int .i64 x1, Value.int .i64 x2, Value.slice a4 (List.length x3) c5]) :: (2, Ent.mp b14 (mpE ek_112 ev_114 x387.2.2)) :: (3, Ent.blk b15 109 [Value.map (some b14)]) :: (4, Ent.blk b16 110 ([Value.func (.func 33) #[] #[Value.pointer (some ⟨b8, 0, none⟩), Value.pointer (some ⟨b15, 0, none⟩), Value.pointer (some ⟨b16, 0, none⟩)]])) :: (38, Ent.sl a374 (List.length x377) c375 53 1 s378) :: (40, Ent.blk b379 112 (arrC 8 .i64 x468)) :: (47, Ent.sl a471 (List.length x474) c472 3 1 s475) :: fr))) (fun K => by kernel_rfl) 4 (by kernel_rfl) ?_
            refine ⟨⟨h482.1, h482.2, arrC_get (by omega)⟩, ?_⟩
            refine WO.done (by kernel_rfl) ?_
            refine PO.nx ?_
            refine WP.seq (by kernel_rfl) ?_
            refine WP.reg (by kernel_rfl) ?_
            have h484 : Rw (Kd.int .i64) g465 [Value.int .i64 x467] [x467] := ⟨[Value.int .i64 x467], [], rfl, rfl, rfl⟩
            refine U.seg 4 [5, 6, 7, 8, 11, 12, 30, 31, 35, 37, 38] [(2, .al 49)] (fun K => ∀ b483 : Nat, K [(5, Value.pointer (some ⟨b15, 0, none⟩)), (6, Value.pointer (some ⟨b16, 0, none⟩)), (7, Value.slice a374 (List.length x377) c375), (8, Value.pointer (some ⟨b379, 0, none⟩)), (11, Value.int .i64 x467), (12, Value.int .i64 (List.getD x387.1 (Int.toNat (x467)) 0)), (30, Value.agg ((arrC 8 .i64 x387.1)).toArray), (31, Value.int .i64 x467), (35, Value.slice a471 (List.length x474) c472), (37, Value.slice (some ⟨b483, 0, none⟩ : Option Addr) 1 1), (38, Value.int .i64 (List.getD x387.1 (Int.toNat (x467)) 0))] ((49, Ent.sl (some ⟨b483, 0, none⟩ : Option Addr) 1 1 3 1 [Value.int .i64 x467]) :: (1, Ent.blk b8 47 [Value.int .i64 x1, Value.int .i64 x2, Value.slice a4 (List.length x3) c5]) :: (2, Ent.mp b14 (mpE ek_112 ev_114 x387.2.2)) :: (3, Ent.blk b15 109 [Value.map (some b14)]) :: (4, Ent.blk b16 110 ([Value.func (.func 33) #[] #[Value.pointer (some ⟨b8, 0, none⟩), Value.pointer (some ⟨b15, 0, none⟩), Value.pointer (some ⟨b16, 0, none⟩)]])) :: (38, Ent.sl a374 (List.length x377) c375 53 1 s378) :: (40, Ent.blk b379 112 (arrC 8 .i64 x468)) :: (47, Ent.sl a471 (List.length x474) c472 3 1 s475) :: fr)) (fun K => by kernel_rfl) 4 (by kernel_rfl) ?_
            intro b483
            refine U.freeze (dd := (Kd.int .i64)) (t := 49) (a := (some ⟨b483, 0, none⟩ : Option Addr)) (n1 := 1) (cc := 1) (T := 3) (cs := [Value.int .i64 x467]) (by kernel_rfl) h484 rfl (fun g486 h487 h488 => ?_)
            obtain ⟨x489, h490, H⟩ := bnd_some H
            refine U.step 5 (by kernel_rfl) (U.call (dst := some 39) (fun w hw => c_f39 kk [x467] (List.getD x387.1 (Int.toNat (x467)) 0) (some ⟨b483, 0, none⟩ : Option Addr) 1 h488 h490 hw) (by kernel_rfl) (enters_of Try.func39 (by kernel_rfl) rfl)) ?_
            rintro ⟨g491, a493, c494⟩ ⟨h492, h496⟩
            obtain ⟨s497, h498, h499⟩ := Reads.gh (d := (Kd.int .i64)) (h := ((1, Ent.blk b8 47 [Value.int .i64 x1, Value.int .i64 x2, Value.slice a4 (List.length x3) c5]) :: (2, Ent.mp b14 (mpE ek_112 ev_114 x387.2.2)) :: (3, Ent.blk b15 109 [Value.map (some b14)]) :: (4, Ent.blk b16 110 ([Value.func (.func 33) #[] #[Value.pointer (some ⟨b8, 0, none⟩), Value.pointer (some ⟨b15, 0, none⟩), Value.pointer (some ⟨b16, 0, none⟩)]])) :: (38, Ent.sl a374 (List.length x377) c375 53 1 s378) :: (40, Ent.blk b379 112 (arrC 8 .i64 x468)) :: (47, Ent.sl a471 (List.length x474) c472 3 1 s475) :: fr)) h496
            obtain ⟨h500, H⟩ := grd_some H
            have h503 : Rw (Kd.int .i64) g491 (s475 ++ s497) (x474 ++ x489) := Rw.app (Rw.mono (GH.le_trans h487 h492) h473) h498
            refine U.step 6 (by kernel_rfl) (U.append (T := 53) (el := 3) (sz := 1) (dst := some 40) (t := 47) (n1 := (List.length x474)) (m := (List.length x489)) (a := a471) (cc := c472) (b := a493) (cc2 := c494) (cs := s475) (news := s497) (List.length (x474 ++ x489)) (by kernel_rfl) (by kernel_rfl) (by kernel_rfl) (h499) (Rw.len h498) (Rw.one h498) (by simp) h500) ?_
            rintro ⟨a501, c502⟩ _
            refine U.seg 1 [5, 6, 7, 8, 10, 11, 12, 30, 31] [] (fun K => K [(5, Value.pointer (some ⟨b15, 0, none⟩)), (6, Value.pointer (some ⟨b16, 0, none⟩)), (7, Value.slice a374 (List.length x377) c375), (8, Value.pointer (some ⟨b379, 0, none⟩)), (10, Value.slice a501 (List.length (x474 ++ x489)) c502), (11, Value.int .i64 x467), (12, Value.int .i64 (List.getD x387.1 (Int.toNat (x467)) 0)), (30, Value.agg ((arrC 8 .i64 x387.1)).toArray), (31, Value.int .i64 x467)] ((1, Ent.blk b8 47 [Value.int .i64 x1, Value.int .i64 x2, Value.slice a4 (List.length x3) c5]) :: (2, Ent.mp b14 (mpE ek_112 ev_114 x387.2.2)) :: (3, Ent.blk b15 109 [Value.map (some b14)]) :: (4, Ent.blk b16 110 ([Value.func (.func 33) #[] #[Value.pointer (some ⟨b8, 0, none⟩), Value.pointer (some ⟨b15, 0, none⟩), Value.pointer (some ⟨b16, 0, none⟩)]])) :: (38, Ent.sl a374 (List.length x377) c375 53 1 s378) :: (40, Ent.blk b379 112 (arrC 8 .i64 x468)) :: (47, Ent.sl a501 (List.length (x474 ++ x489)) c502 3 1 (s475 ++ s497)) :: fr)) (fun K => by kernel_rfl) 7 (by kernel_rfl) ?_
            refine WO.done (by kernel_rfl) ?_
            refine PO.nx ?_
            refine WP.reg (by kernel_rfl) ?_
            refine U.seg 7 [5, 6, 7, 8, 10, 30, 31] [(1, .s), (2, .lv 40 (Value.int .i64 (List.getD x468 (Int.toNat (x467)) 0))), (5, .s), (6, .sv 40 (arrC 8 .i64 (setA 8 x468 x467 (w64 ((List.getD x468 (Int.toNat (x467)) 0) - (List.getD x387.1 (Int.toNat (x467)) 0))))))] (fun K => ((0 : Int) ≤ x467 ∧ x467 < ((8 : Nat) : Int) ∧ (⟨b379, 0, none⟩ : Addr).spot = none) ∧ ((b379 = b379 ∧ OwnRead (arrC 8 .i64 x468) (0 + (Int.toNat (x467)) * 1) false 1 (Value.int .i64 (List.getD x468 (Int.toNat (x467)) 0))) ∧ (((0 : Int) ≤ x467 ∧ x467 < ((8 : Nat) : Int) ∧ (⟨b379, 0, none⟩ : Addr).spot = none) ∧ ((b379 = b379 ∧ [Value.int .i64 (w64 ((List.getD x468 (Int.toNat (x467)) 0) - (List.getD x387.1 (Int.toNat (x467)) 0)))].length = 1 ∧ 0 + (Int.toNat (x467)) * 1 + [Value.int .i64 (w64 ((List.getD x468 (Int.toNat (x467)) 0) - (List.getD x387.1 (Int.toNat (x467)) 0)))].length ≤ (arrC 8 .i64 x468).length ∧ (∀ u ∈ [Value.int .i64 (w64 ((List.getD x468 (Int.toNat (x467)) 0) - (List.getD x387.1 (Int.toNat (x467)) 0)))], u.oneCell' = true) ∧ splice (arrC 8 .i64 x468) (0 + (Int.toNat (x467)) * 1) [Value.int .i64 (w64 ((List.getD x468 (Int.toNat (x467)) 0) - (List.getD x387.1 (Int.toNat (x467)) 0)))] = (arrC 8 .i64 (setA 8 x468 x467 (w64 ((List.getD x468 (Int.toNat (x467)) 0) - (List.getD x387.1 (Int.toNat (x467)) 0)))))) ∧ (K [(5, Value.pointer (some ⟨b15, 0, none⟩)), (6, Value.pointer (some ⟨b16, 0, none⟩)), (7, Value.slice a374 (List.length x377) c375), (8, Value.pointer (some ⟨b379, 0, none⟩)), (10, Value.slice a501 (List.length (x474 ++ x489)) c502), (30, Value.agg ((arrC 8 .i64 x387.1)).toArray), (31, Value.int .i64 x467)] ((1, Ent.blk b8 47 [Value.int .i64 x1, Value.int .i64 x2, Value.slice a4 (List.length x3) c5]) :: (2, Ent.mp b14 (mpE ek_112 ev_114 x387.2.2)) :: (3, Ent.blk b15 109 [Value.map (some b14)]) :: (4, Ent.blk b16 110 ([Value.func (.func 33) #[] #[Value.pointer (some ⟨b8, 0, none⟩), Value.pointer (some ⟨b15, 0, none⟩), Value.pointer (some ⟨b16, 0, none⟩)]])) :: (38, Ent.sl a374 (List.length x377) c375 53 1 s378) :: (40, Ent.blk b379 112 (arrC 8 .i64 (setA 8 x468 x467 (w64 ((List.getD x468 (Int.toNat (x467)) 0) - (List.getD x387.1 (Int.toNat (x467)) 0)))))) :: (47, Ent.sl a501 (List.length (x474 ++ x489)) c502 3 1 (s475 ++ s497)) :: fr)))))) (fun K => by kernel_rfl) 7 (by kernel_rfl) ?_
            refine ⟨⟨h482.1, h482.2, rfl⟩, ?_⟩
            refine ⟨⟨rfl, (arr_read (k := .i64) (xs := x468) [] [] h482.1 h482.2 (by simp) rfl)⟩, ?_⟩
            refine ⟨⟨h482.1, h482.2, rfl⟩, ?_⟩
            refine ⟨⟨rfl, rfl, arr_put (xs := x468) [] [] h482.1 h482.2 (by simp) (by simp) rfl⟩, ?_⟩
            refine WO.done (by kernel_rfl) ?_
            refine PO.blk_normal ?_
            refine PO.nx ?_
            refine WP.reg (by kernel_rfl) ?_
            refine U.seg 2 [5, 6, 7, 8, 10, 30, 31] [] (fun K => K [(5, Value.pointer (some ⟨b15, 0, none⟩)), (6, Value.pointer (some ⟨b16, 0, none⟩)), (7, Value.slice a374 (List.length x377) c375), (8, Value.pointer (some ⟨b379, 0, none⟩)), (10, Value.slice a501 (List.length (x474 ++ x489)) c502), (30, Value.agg ((arrC 8 .i64 x387.1)).toArray), (31, Value.int .i64 (w64 (x467 + 1)))] ((1, Ent.blk b8 47 [Value.int .i64 x1, Value.int .i64 x2, Value.slice a4 (List.length x3) c5]) :: (2, Ent.mp b14 (mpE ek_112 ev_114 x387.2.2)) :: (3, Ent.blk b15 109 [Value.map (some b14)]) :: (4, Ent.blk b16 110 ([Value.func (.func 33) #[] #[Value.pointer (some ⟨b8, 0, none⟩), Value.pointer (some ⟨b15, 0, none⟩), Value.pointer (some ⟨b16, 0, none⟩)]])) :: (38, Ent.sl a374 (List.length x377) c375 53 1 s378) :: (40, Ent.blk b379 112 (arrC 8 .i64 (setA 8 x468 x467 (w64 ((List.getD x468 (Int.toNat (x467)) 0) - (List.getD x387.1 (Int.toNat (x467)) 0)))))) :: (47, Ent.sl a501 (List.length (x474 ++ x489)) c502 3 1 (s475 ++ s497)) :: fr)) (fun K => by kernel_rfl) 2 (by kernel_rfl) ?_
            refine WO.done (by kernel_rfl) ?_
            have hq := Option.some.inj H
            subst hq
            refine PO.againW ⟨(w64 (x467 + 1)), (setA 8 x468 x467 (w64 ((List.getD x468 (Int.toNat (x467)) 0) - (List.getD x387.1 (Int.toNat (x467)) 0)))), (x474 ++ x489), g491, a501, c502, (s475 ++ s497), (GH.le_trans (GH.le_trans h466 h487) h492), (by simp [setA]), h503, h478, rfl⟩ ?_ (Nat.lt_succ_self _)
            exact (St.ok.to [5, 6, 7, 8, 10, 30, 31] 7 [(1, 0), (2, 1), (3, 2), (4, 3), (38, 4), (40, 5), (47, 6)] (by kernel_rfl) rfl (by kernel_rfl) rfl rfl (by kernel_rfl))
          · refine U.asW (t := 32) (congrArg Value.bool h481) (by kernel_rfl) ?_
            refine WP.condF (by kernel_rfl) ?_
            refine WP.exit (id := 2) (by kernel_rfl) ?_
            refine PO.nx_exit ?_
            refine PO.lp_exit ?_
            refine PO.blk_exit ?_
            have hq := Option.some.inj H
            subst hq
            have H := h479
            rw [← (show _ = o476 from h478)] at H
            have H : f9_j7 kk x377 x474 x468 x387 = some q382 := H
            refine PO.jn ⟨x468, x474, g465, a471, c472, s475, h466, h469, h473, H, rfl⟩ ?_
            exact (St.ok.to [5, 6, 7, 8, 10] 7 [(1, 0), (2, 1), (3, 2), (4, 3), (38, 4), (40, 5), (52, 6)] (by kernel_rfl) rfl (by kernel_rfl) rfl rfl (by kernel_rfl))
        · rintro _ ⟨x524, x530, g522, a527, c528, s531, h523, h525, h529, H, rfl⟩
          unfold f9_j7 at H
          refine PO.nx ?_
          refine WP.reg (by kernel_rfl) ?_
          refine U.seg 2 [5, 6, 8, 48, 49] [] (fun K => K [(5, Value.pointer (some ⟨b15, 0, none⟩)), (6, Value.pointer (some ⟨b16, 0, none⟩)), (8, Value.pointer (some ⟨b379, 0, none⟩)), (48, Value.slice a374 (List.length x377) c375), (49, Value.slice a527 (List.length x530) c528)] ((1, Ent.blk b8 47 [Value.int .i64 x1, Value.int .i64 x2, Value.slice a4 (List.length x3) c5]) :: (2, Ent.mp b14 (mpE ek_112 ev_114 x387.2.2)) :: (3, Ent.blk b15 109 [Value.map (some b14)]) :: (4, Ent.blk b16 110 ([Value.func (.func 33) #[] #[Value.pointer (some ⟨b8, 0, none⟩), Value.pointer (some ⟨b15, 0, none⟩), Value.pointer (some ⟨b16, 0, none⟩)]])) :: (38, Ent.sl a374 (List.length x377) c375 53 1 s378) :: (40, Ent.blk b379 112 (arrC 8 .i64 x524)) :: (52, Ent.sl a527 (List.length x530) c528 3 1 s531) :: fr)) (fun K => by kernel_rfl) 2 (by kernel_rfl) ?_
          refine U.freeze (dd := (Kd.int .i64)) (t := 52) (a := a527) (n1 := (List.length x530)) (cc := c528) (T := 3) (cs := s531) (by kernel_rfl) h529 rfl (fun g532 h533 h534 => ?_)
          have h537 : Rw (Kd.sl (Kd.int .i64)) g532 [Value.slice a527 (List.length x530) c528] [x530] := ⟨[Value.slice a527 (List.length x530) c528], [], rfl, ⟨a527, c528, rfl, h534⟩, rfl⟩
          refine U.seg 1 [5, 6, 8, 48, 50] [(2, .al 53)] (fun K => ∀ b536 : Nat, K [(5, Value.pointer (some ⟨b15, 0, none⟩)), (6, Value.pointer (some ⟨b16, 0, none⟩)), (8, Value.pointer (some ⟨b379, 0, none⟩)), (48, Value.slice a374 (List.length x377) c375), (50, Value.slice (some ⟨b536, 0, none⟩ : Option Addr) 1 1)] ((53, Ent.sl (some ⟨b536, 0, none⟩ : Option Addr) 1 1 53 1 [Value.slice a527 (List.length x530) c528]) :: (1, Ent.blk b8 47 [Value.int .i64 x1, Value.int .i64 x2, Value.slice a4 (List.length x3) c5]) :: (2, Ent.mp b14 (mpE ek_112 ev_114 x387.2.2)) :: (3, Ent.blk b15 109 [Value.map (some b14)]) :: (4, Ent.blk b16 110 ([Value.func (.func 33) #[] #[Value.pointer (some ⟨b8, 0, none⟩), Value.pointer (some ⟨b15, 0, none⟩), Value.pointer (some ⟨b16, 0, none⟩)]])) :: (38, Ent.sl a374 (List.length x377) c375 53 1 s378) :: (40, Ent.blk b379 112 (arrC 8 .i64 x524)) :: fr)) (fun K => by kernel_rfl) 3 (by kernel_rfl) ?_
          intro b536
          obtain ⟨h539, H⟩ := grd_some H
          have h542 : Rw (Kd.sl (Kd.int .i64)) g532 (s378 ++ [Value.slice a527 (List.length x530) c528]) (x377 ++ [x530]) := Rw.app (Rw.mono (GH.le_trans h523 h533) h376) h537
          refine U.step 4 (by kernel_rfl) (U.append (T := 48) (el := 53) (sz := 1) (dst := some 51) (t := 38) (n1 := (List.length x377)) (m := 1) (a := a374) (cc := c375) (b := (some ⟨b536, 0, none⟩ : Option Addr)) (cc2 := 1) (cs := s378) (news := [Value.slice a527 (List.length x530) c528]) (List.length (x377 ++ [x530])) (by kernel_rfl) (by kernel_rfl) (by kernel_rfl) (Reads.own (t := 53) (T := 53) (sz := 1) (by kernel_rfl)) (Rw.len h537) (Rw.one h537) (by simp) h539) ?_
          rintro ⟨a540, c541⟩ _
          refine U.seg 1 [5, 6, 7, 8] [] (fun K => K [(5, Value.pointer (some ⟨b15, 0, none⟩)), (6, Value.pointer (some ⟨b16, 0, none⟩)), (7, Value.slice a540 (List.length (x377 ++ [x530])) c541), (8, Value.pointer (some ⟨b379, 0, none⟩))] ((53, Ent.sl (some ⟨b536, 0, none⟩ : Option Addr) 1 1 53 1 [Value.slice a527 (List.length x530) c528]) :: (1, Ent.blk b8 47 [Value.int .i64 x1, Value.int .i64 x2, Value.slice a4 (List.length x3) c5]) :: (2, Ent.mp b14 (mpE ek_112 ev_114 x387.2.2)) :: (3, Ent.blk b15 109 [Value.map (some b14)]) :: (4, Ent.blk b16 110 ([Value.func (.func 33) #[] #[Value.pointer (some ⟨b8, 0, none⟩), Value.pointer (some ⟨b15, 0, none⟩), Value.pointer (some ⟨b16, 0, none⟩)]])) :: (38, Ent.sl a540 (List.length (x377 ++ [x530])) c541 53 1 (s378 ++ [Value.slice a527 (List.length x530) c528])) :: (40, Ent.blk b379 112 (arrC 8 .i64 x524)) :: fr)) (fun K => by kernel_rfl) 5 (by kernel_rfl) ?_
          refine WO.done (by kernel_rfl) ?_
          refine PO.blk_normal ?_
          refine PO.nx ?_
          refine WP.seq (by kernel_rfl) ?_
          refine WP.reg (by kernel_rfl) ?_
          refine U.seg 1 [5, 6, 7, 52] [(0, .ld 40)] (fun K => (b379 = b379) ∧ (K [(5, Value.pointer (some ⟨b15, 0, none⟩)), (6, Value.pointer (some ⟨b16, 0, none⟩)), (7, Value.slice a540 (List.length (x377 ++ [x530])) c541), (52, Value.agg ((arrC 8 .i64 x524)).toArray)] ((53, Ent.sl (some ⟨b536, 0, none⟩ : Option Addr) 1 1 53 1 [Value.slice a527 (List.length x530) c528]) :: (1, Ent.blk b8 47 [Value.int .i64 x1, Value.int .i64 x2, Value.slice a4 (List.length x3) c5]) :: (2, Ent.mp b14 (mpE ek_112 ev_114 x387.2.2)) :: (3, Ent.blk b15 109 [Value.map (some b14)]) :: (4, Ent.blk b16 110 ([Value.func (.func 33) #[] #[Value.pointer (some ⟨b8, 0, none⟩), Value.pointer (some ⟨b15, 0, none⟩), Value.pointer (some ⟨b16, 0, none⟩)]])) :: (38, Ent.sl a540 (List.length (x377 ++ [x530])) c541 53 1 (s378 ++ [Value.slice a527 (List.length x530) c528])) :: (40, Ent.blk b379 112 (arrC 8 .i64 x524)) :: fr))) (fun K => by kernel_rfl) 1 (by kernel_rfl) ?_
          refine ⟨rfl, ?_⟩
          refine WO.done (by kernel_rfl) ?_
          refine PO.nx ?_
          refine WP.reg (by kernel_rfl) ?_
          refine U.seg 2 [5, 6, 7, 8] [(0, .al 54), (1, .st 54)] (fun K => ∀ b544 : Nat, (b544 = b544) ∧ (K [(5, Value.pointer (some ⟨b15, 0, none⟩)), (6, Value.pointer (some ⟨b16, 0, none⟩)), (7, Value.slice a540 (List.length (x377 ++ [x530])) c541), (8, Value.pointer (some ⟨b544, 0, none⟩))] ((54, Ent.blk b544 112 (arrC 8 .i64 x524)) :: (53, Ent.sl (some ⟨b536, 0, none⟩ : Option Addr) 1 1 53 1 [Value.slice a527 (List.length x530) c528]) :: (1, Ent.blk b8 47 [Value.int .i64 x1, Value.int .i64 x2, Value.slice a4 (List.length x3) c5]) :: (2, Ent.mp b14 (mpE ek_112 ev_114 x387.2.2)) :: (3, Ent.blk b15 109 [Value.map (some b14)]) :: (4, Ent.blk b16 110 ([Value.func (.func 33) #[] #[Value.pointer (some ⟨b8, 0, none⟩), Value.pointer (some ⟨b15, 0, none⟩), Value.pointer (some ⟨b16, 0, none⟩)]])) :: (38, Ent.sl a540 (List.length (x377 ++ [x530])) c541 53 1 (s378 ++ [Value.slice a527 (List.length x530) c528])) :: (40, Ent.blk b379 112 (arrC 8 .i64 x524)) :: fr))) (fun K => by kernel_rfl) 2 (by kernel_rfl) ?_
          intro b544
          refine ⟨rfl, ?_⟩
          refine WO.done (by kernel_rfl) ?_
          have hq := Option.some.inj H
          subst hq
          refine PO.againW ⟨x524, (x377 ++ [x530]), x387.2.2, g532, a540, c541, (s378 ++ [Value.slice a527 (List.length x530) c528]), b544, (GH.le_trans (GH.le_trans h370 h523) h533), h525, h542, h383, rfl⟩ ?_ (Nat.lt_succ_self _)
          exact (St.ok.to [5, 6, 7, 8] 8 [(1, 2), (2, 3), (3, 4), (4, 5), (38, 6), (40, 0)] (by kernel_rfl) rfl (by kernel_rfl) rfl rfl (by kernel_rfl))
      · refine U.asW (t := 25) (congrArg Value.bool h386) (by kernel_rfl) ?_
        refine WP.condF (by kernel_rfl) ?_
        refine WP.exit (id := 0) (by kernel_rfl) ?_
        refine PO.nx_exit ?_
        refine PO.lp_exit ?_
        refine PO.blk_exit ?_
        have hq := Option.some.inj H
        subst hq
        have H := h384
        rw [← (show _ = o381 from h383)] at H
        have H : f9_j8 kk x377 = some r := H
        refine PO.jn ⟨x377, g369, a374, c375, s378, h370, h376, H, rfl⟩ ?_
        exact (St.ok.to [7] 6 [(58, 4)] (by kernel_rfl) rfl (by kernel_rfl) rfl rfl (by kernel_rfl))
    · rintro _ ⟨x569, g563, a566, c567, s570, h564, h568, H, rfl⟩
      unfold f9_j8 at H
      refine PO.nx ?_
      refine WP.seq (by kernel_rfl) ?_
      refine WP.reg (by kernel_rfl) ?_
      refine U.seg 3 [2, 3] [] (fun K => K [(2, Value.slice a566 (List.length x569) c567), (3, Value.int .i64 0)] ((58, Ent.sl a566 (List.length x569) c567 53 1 s570) :: fr)) (fun K => by kernel_rfl) 3 (by kernel_rfl) ?_
      refine WO.done (by kernel_rfl) ?_
      refine PO.nx ?_
      refine WP.ret (by kernel_rfl) ?_
      refine U.freezeP (dd := (Kd.sl (Kd.int .i64))) (t := 58) (a := a566) (n1 := (List.length x569)) (cc := c567) (T := 53) (cs := s570) (by kernel_rfl) h568 rfl (fun g571 h572 h573 => ?_)
      have hr := Option.some.inj H
      subst hr
      refine PO.body [Value.slice a566 (List.length x569) c567, Value.int .i64 0] (fr) rfl (Res.tmp (by kernel_rfl) (Res.tmp (by kernel_rfl) Res.nil)) ?_
      exact fun w hw => Ret.mk (g571, a566, c567) ⟨(GH.le_trans h564 h572), h573⟩ rfl (okNT 0 [] (by kernel_rfl) rfl hw)

set_option maxRecDepth 100000 in
theorem c_f41 (kk : Nat) (x1 : Int) {g : GH} {r : Bool} (H : m_f41 kk x1 = some r) {fr : Hs} {w : World} (hw : Ok g (fr) w) :
    Calls Try.prog 41 (List.toArray [Value.int .i64 x1]) w (Ret (fun _ : Unit => True) (fun _ => Value.bool r) (fun _ => g) (fun _ => (fr))) := by
  refine fn_wp (args := [Value.int .i64 x1]) (c := C_41) Try.func41 (by kernel_rfl) Try.ntmps41 (by kernel_rfl) ?_ hw
  unfold m_f41 at H
  refine WP.seq (by kernel_rfl) ?_
  refine WP.reg (by kernel_rfl) ?_
  refine U.seg 1 [0] [] (fun K => K [(0, Value.int .i64 x1)] (fr)) (fun K => by kernel_rfl) 1 (by kernel_rfl) ?_
  refine WO.done (by kernel_rfl) ?_
  refine PO.nx ?_
  refine WP.seq (by kernel_rfl) ?_
  refine WP.reg (by kernel_rfl) ?_
  refine U.seg 1 [3] [] (fun K => K [(3, Value.int .i64 x1)] (fr)) (fun K => by kernel_rfl) 1 (by kernel_rfl) ?_
  obtain ⟨x2, h3, H⟩ := bnd_some H
  refine U.step 2 (by kernel_rfl) (U.call (dst := some 4) (fun w hw => c_f42 kk x1 0 1000000 h3 hw) (by kernel_rfl) (enters_of Try.func42 (by kernel_rfl) rfl)) ?_
  rintro _ _
  refine U.seg 2 [2] [] (fun K => K [(2, Value.bool (!x2))] (fr)) (fun K => by kernel_rfl) 4 (by kernel_rfl) ?_
  refine WO.done (by kernel_rfl) ?_
  refine PO.nx ?_
  refine WP.ret (by kernel_rfl) ?_
  have hr := Option.some.inj H
  subst hr
  refine PO.body [Value.bool (!x2)] (fr) rfl (Res.tmp (by kernel_rfl) Res.nil) ?_
  exact fun w hw => Ret.mk () trivial rfl (okNT 0 [] (by kernel_rfl) rfl hw)

set_option maxRecDepth 100000 in
theorem c_f34_1 (kk : Nat) (x1 : (List Int)) (a2 : Option Addr) (c3 : Nat) {g : GH} (h5 : Sl (Kd.int .i64) g a2 (List.length x1) c3 x1) {r : Int} (H : m_f34_1 kk x1 = some r) {fr : Hs} {w : World} (hw : Ok g (fr) w) :
    Calls Try.prog 34 (List.toArray [Value.slice a2 (List.length x1) c3, Value.func (.func 41) #[] #[]]) w (Ret (fun _ : Unit => True) (fun _ => Value.int .i64 r) (fun _ => g) (fun _ => (fr))) := by
  refine fn_wp (args := [Value.slice a2 (List.length x1) c3, Value.func (.func 41) #[] #[]]) (c := C_34) Try.func34 (by kernel_rfl) Try.ntmps34 (by kernel_rfl) ?_ hw
  unfold m_f34_1 at H
  refine WP.seq (by kernel_rfl) ?_
  refine WP.reg (by kernel_rfl) ?_
  refine U.seg 1 [0, 1] [] (fun K => K [(0, Value.slice a2 (List.length x1) c3), (1, Value.func (.func 41) #[] #[])] (fr)) (fun K => by kernel_rfl) 1 (by kernel_rfl) ?_
  refine WO.done (by kernel_rfl) ?_
  refine PO.nx ?_
  refine WP.seq (by kernel_rfl) ?_
  refine WP.seq (by kernel_rfl) ?_
  refine WP.reg (by kernel_rfl) ?_
  refine U.seg 3 [0, 1, 7, 8] [] (fun K => K [(0, Value.slice a2 (List.length x1) c3), (1, Value.func (.func 41) #[] #[]), (7, Value.int .i64 ((List.length x1) : Int)), (8, Value.int .i64 0)] (fr)) (fun K => by kernel_rfl) 3 (by kernel_rfl) ?_
  refine WO.done (by kernel_rfl) ?_
  refine PO.nx ?_
  refine WP.join (fun s => f34_1_j2 kk = some r ∧ s = { n := 19, e := [], d := [], g := g, h := (fr) }) ?_ ?_
  · refine WP.block (id := 0) (by kernel_rfl) ?_
    obtain ⟨o38, h59, h41⟩ := bnd_some H
    refine WP.loopW (by kernel_rfl) (fun n s => ∃ (x37 : Int), iter (fun y : Int => f34_1_l1 kk y x1) n x37 = some o38 ∧ s = { n := 19, e := [(0, Value.slice a2 (List.length x1) c3), (1, Value.func (.func 41) #[] #[]), (7, Value.int .i64 ((List.length x1) : Int)), (8, Value.int .i64 x37)], d := [], g := g, h := (fr) }) (k := kk) ⟨0, h59, rfl⟩ (St.ok.to [0, 1, 7, 8] 0 [] (by kernel_rfl) rfl (by kernel_rfl) rfl rfl (by kernel_rfl)) ?_
    intro n54 s
    rintro ⟨x37, h55, rfl⟩
    obtain ⟨n42, q39, h57, h58, h40⟩ := iter_some h55
    subst h57
    have H : f34_1_l1 kk x37 x1 = some q39 := h58
    unfold f34_1_l1 at H
    refine WP.seq (by kernel_rfl) ?_
    refine WP.reg (by kernel_rfl) ?_
    refine U.seg 1 [0, 1, 7, 8, 9] [] (fun K => K [(0, Value.slice a2 (List.length x1) c3), (1, Value.func (.func 41) #[] #[]), (7, Value.int .i64 ((List.length x1) : Int)), (8, Value.int .i64 x37), (9, Value.bool (decide (x37 < ((List.length x1) : Int))))] (fr)) (fun K => by kernel_rfl) 1 (by kernel_rfl) ?_
    refine WO.done (by kernel_rfl) ?_
    refine PO.nx ?_
    refine WP.seq (by kernel_rfl) ?_
    rcases cond_some H with ⟨h43, H⟩ | ⟨h43, H⟩
    · refine U.asW (t := 9) (congrArg Value.bool h43) (by kernel_rfl) ?_
      refine WP.condT (by kernel_rfl) ?_
      refine WP.skip (by kernel_rfl) ?_
      refine PO.nx ?_
      refine WP.seq (by kernel_rfl) ?_
      refine WP.block (id := 1) (by kernel_rfl) ?_
      refine WP.seq (by kernel_rfl) ?_
      refine WP.reg (by kernel_rfl) ?_
      refine U.seg 2 [0, 1, 5, 7, 8] [] (fun K => K [(0, Value.slice a2 (List.length x1) c3), (1, Value.func (.func 41) #[] #[]), (5, Value.int .i64 x37), (7, Value.int .i64 ((List.length x1) : Int)), (8, Value.int .i64 x37)] (fr)) (fun K => by kernel_rfl) 2 (by kernel_rfl) ?_
      refine WO.done (by kernel_rfl) ?_
      refine PO.nx ?_
      refine WP.seq (by kernel_rfl) ?_
      refine WP.reg (by kernel_rfl) ?_
      obtain ⟨x44, h45, H⟩ := bnd_some H
      obtain ⟨h46, s47, h48, h49⟩ := Sl.at' (d := (Kd.int .i64)) h5 h45
      obtain rfl := h48
      refine U.seg 5 [0, 1, 5, 7, 8, 11, 15] [(3, .s), (4, .lg (Value.int .i64 x44))] (fun K => ((0 : Int) ≤ x37 ∧ x37 < ((List.length x1) : Nat) ∧ FlatA a2 (List.length x1)) ∧ ((GLoad g ⟨ab a2, ao a2 + (Int.toNat (x37)) * 1, none⟩ false 1 (Value.int .i64 x44)) ∧ (K [(0, Value.slice a2 (List.length x1) c3), (1, Value.func (.func 41) #[] #[]), (5, Value.int .i64 x37), (7, Value.int .i64 ((List.length x1) : Int)), (8, Value.int .i64 x37), (11, Value.func (.func 41) #[] #[]), (15, Value.int .i64 x44)] (fr)))) (fun K => by kernel_rfl) 5 (by kernel_rfl) ?_
      refine ⟨h46, ?_⟩
      refine ⟨(h49 _ 0 _ _ _ rfl rfl rfl (OwnRead.one rfl)), ?_⟩
      obtain ⟨x50, h51, H⟩ := bnd_some H
      refine U.step 6 (by kernel_rfl) (U.call (dst := some 16) (fun w hw => c_f41 kk x44 h51 hw) (by kernel_rfl) (enters_of Try.func41 (by kernel_rfl) rfl)) ?_
      rintro _ _
      refine WO.done (by kernel_rfl) ?_
      refine PO.nx ?_
      rcases cond_some H with ⟨h52, H⟩ | ⟨h52, H⟩
      · refine U.asW (t := 16) (congrArg Value.bool h52) (by kernel_rfl) ?_
        refine WP.condT (by kernel_rfl) ?_
        refine WP.seq (by kernel_rfl) ?_
        refine WP.reg (by kernel_rfl) ?_
        refine U.seg 2 [4] [] (fun K => K [(4, Value.int .i64 x37)] (fr)) (fun K => by kernel_rfl) 2 (by kernel_rfl) ?_
        refine WO.done (by kernel_rfl) ?_
        refine PO.nx ?_
        refine WP.ret (by kernel_rfl) ?_
        refine PO.blk_ret ?_
        refine PO.nx_ret ?_
        refine PO.lp_ret ?_
        refine PO.blk_ret ?_
        refine PO.jn_ret ?_
        refine PO.nx_ret ?_
        have hq := Option.some.inj H
        subst hq
        have H := h41
        rw [← (show _ = o38 from h40)] at H
        have H : some x37 = some r := H
        have hr := Option.some.inj H
        subst hr
        refine PO.body [Value.int .i64 x37] (fr) rfl (Res.tmp (by kernel_rfl) Res.nil) ?_
        exact fun w hw => Ret.mk () trivial rfl (okNT 0 [] (by kernel_rfl) rfl hw)
      · refine U.asW (t := 16) (congrArg Value.bool h52) (by kernel_rfl) ?_
        refine WP.condF (by kernel_rfl) ?_
        refine WP.skip (by kernel_rfl) ?_
        refine PO.blk_normal ?_
        refine PO.nx ?_
        refine WP.reg (by kernel_rfl) ?_
        refine U.seg 2 [0, 1, 7, 8] [] (fun K => K [(0, Value.slice a2 (List.length x1) c3), (1, Value.func (.func 41) #[] #[]), (7, Value.int .i64 ((List.length x1) : Int)), (8, Value.int .i64 (w64 (x37 + 1)))] (fr)) (fun K => by kernel_rfl) 2 (by kernel_rfl) ?_
        refine WO.done (by kernel_rfl) ?_
        have hq := Option.some.inj H
        subst hq
        refine PO.againW ⟨(w64 (x37 + 1)), h40, rfl⟩ ?_ (Nat.lt_succ_self _)
        exact (St.ok.to [0, 1, 7, 8] 0 [] (by kernel_rfl) rfl (by kernel_rfl) rfl rfl (by kernel_rfl))
    · refine U.asW (t := 9) (congrArg Value.bool h43) (by kernel_rfl) ?_
      refine WP.condF (by kernel_rfl) ?_
      refine WP.exit (id := 0) (by kernel_rfl) ?_
      refine PO.nx_exit ?_
      refine PO.lp_exit ?_
      refine PO.blk_exit ?_
      have hq := Option.some.inj H
      subst hq
      have H := h41
      rw [← (show _ = o38 from h40)] at H
      have H : f34_1_j2 kk = some r := H
      refine PO.jn ⟨H, rfl⟩ ?_
      exact (St.ok.to [] 0 [] (by kernel_rfl) rfl (by kernel_rfl) rfl rfl (by kernel_rfl))
  · rintro _ ⟨H, rfl⟩
    unfold f34_1_j2 at H
    refine PO.nx ?_
    refine WP.seq (by kernel_rfl) ?_
    refine WP.reg (by kernel_rfl) ?_
    refine U.seg 1 [4] [] (fun K => K [(4, Value.int .i64 (-1))] (fr)) (fun K => by kernel_rfl) 1 (by kernel_rfl) ?_
    refine WO.done (by kernel_rfl) ?_
    refine PO.nx ?_
    refine WP.ret (by kernel_rfl) ?_
    have hr := Option.some.inj H
    subst hr
    refine PO.body [Value.int .i64 (-1)] (fr) rfl (Res.tmp (by kernel_rfl) Res.nil) ?_
    exact fun w hw => Ret.mk () trivial rfl (okNT 0 [] (by kernel_rfl) rfl hw)

set_option maxRecDepth 100000 in
theorem c_f40 (kk : Nat) (x1 : (List Int)) (a2 : Option Addr) (c3 : Nat) {g : GH} (h5 : Sl (Kd.int .i64) g a2 (List.length x1) c3 x1) {r : Bool} (H : m_f40 kk x1 = some r) {fr : Hs} {w : World} (hw : Ok g (fr) w) :
    Calls Try.prog 40 (List.toArray [Value.slice a2 (List.length x1) c3, Value.func (.func 41) #[] #[]]) w (Ret (fun _ : Unit => True) (fun _ => Value.bool r) (fun _ => g) (fun _ => (fr))) := by
  refine fn_wp (args := [Value.slice a2 (List.length x1) c3, Value.func (.func 41) #[] #[]]) (c := C_40) Try.func40 (by kernel_rfl) Try.ntmps40 (by kernel_rfl) ?_ hw
  unfold m_f40 at H
  refine WP.seq (by kernel_rfl) ?_
  refine WP.reg (by kernel_rfl) ?_
  refine U.seg 1 [0, 1] [] (fun K => K [(0, Value.slice a2 (List.length x1) c3), (1, Value.func (.func 41) #[] #[])] (fr)) (fun K => by kernel_rfl) 1 (by kernel_rfl) ?_
  refine WO.done (by kernel_rfl) ?_
  refine PO.nx ?_
  refine WP.seq (by kernel_rfl) ?_
  refine WP.reg (by kernel_rfl) ?_
  refine U.seg 2 [5, 6] [] (fun K => K [(5, Value.slice a2 (List.length x1) c3), (6, Value.func (.func 41) #[] #[])] (fr)) (fun K => by kernel_rfl) 2 (by kernel_rfl) ?_
  obtain ⟨x6, h7, H⟩ := bnd_some H
  refine U.step 3 (by kernel_rfl) (U.call (dst := some 7) (fun w hw => c_f34_1 kk x1 a2 c3 h5 h7 hw) (by kernel_rfl) (enters_of Try.func34 (by kernel_rfl) rfl)) ?_
  rintro _ _
  refine U.seg 2 [4] [] (fun K => K [(4, Value.bool (decide (x6 ≥ 0)))] (fr)) (fun K => by kernel_rfl) 5 (by kernel_rfl) ?_
  refine WO.done (by kernel_rfl) ?_
  refine PO.nx ?_
  refine WP.ret (by kernel_rfl) ?_
  have hr := Option.some.inj H
  subst hr
  refine PO.body [Value.bool (decide (x6 ≥ 0))] (fr) rfl (Res.tmp (by kernel_rfl) Res.nil) ?_
  exact fun w hw => Ret.mk () trivial rfl (okNT 0 [] (by kernel_rfl) rfl hw)

set_option maxRecDepth 100000 in
theorem c_f10 (kk : Nat) (x1 : Int) (x2 : Int) (x3 : (List (Int × Int))) (x7 : (List Int)) (a4 : Option Addr) (c5 : Nat) (a8 : Option Addr) (c9 : Nat) {g : GH} (h11 : Sl (Kd.pair (Kd.int .i64) (Kd.int .i64)) g a4 (List.length x3) c5 x3) (h12 : Sl (Kd.int .i64) g a8 (List.length x7) c9 x7) {r : (Int × Int)} (H : m_f10 kk x1 x2 x3 x7 = some r) {fr : Hs} {w : World} (hw : Ok g (fr) w) :
    Calls Try.prog 10 (List.toArray [Value.agg #[Value.int .i64 x1, Value.int .i64 x2, Value.slice a4 (List.length x3) c5], Value.slice a8 (List.length x7) c9]) w (Ret (fun _ : Unit => True) (fun _ => Value.tuple #[Value.int .i64 r.1, Value.int .i64 r.2]) (fun _ => g) (fun _ => (fr))) := by
  refine fn_wp (args := [Value.agg #[Value.int .i64 x1, Value.int .i64 x2, Value.slice a4 (List.length x3) c5], Value.slice a8 (List.length x7) c9]) (c := C_10) Try.func10 (by kernel_rfl) Try.ntmps10 (by kernel_rfl) ?_ hw
  unfold m_f10 at H
  refine WP.seq (by kernel_rfl) ?_
  refine WP.reg (by kernel_rfl) ?_
  refine U.seg 3 [1, 2] [(0, .al 1)] (fun K => ∀ b13 : Nat, K [(1, Value.slice a8 (List.length x7) c9), (2, Value.pointer (some ⟨b13, 0, none⟩))] ((1, Ent.blk b13 47 [Value.int .i64 x1, Value.int .i64 x2, Value.slice a4 (List.length x3) c5]) :: fr)) (fun K => by kernel_rfl) 3 (by kernel_rfl) ?_
  intro b13
  refine WO.done (by kernel_rfl) ?_
  refine PO.nx ?_
  refine WP.seq (by kernel_rfl) ?_
  refine WP.seq (by kernel_rfl) ?_
  refine WP.reg (by kernel_rfl) ?_
  refine U.seg 1 [1, 2, 7] [(0, .ld 1)] (fun K => (b13 = b13) ∧ (K [(1, Value.slice a8 (List.length x7) c9), (2, Value.pointer (some ⟨b13, 0, none⟩)), (7, Value.agg #[Value.int .i64 x1, Value.int .i64 x2, Value.slice a4 (List.length x3) c5])] ((1, Ent.blk b13 47 [Value.int .i64 x1, Value.int .i64 x2, Value.slice a4 (List.length x3) c5]) :: fr))) (fun K => by kernel_rfl) 1 (by kernel_rfl) ?_
  refine ⟨rfl, ?_⟩
  obtain ⟨x14, h15, H⟩ := bnd_some H
  refine U.step 2 (by kernel_rfl) (U.call (dst := some 8) (fun w hw => c_f32 kk x1 x2 x3 a4 c5 h11 h15 hw) (by kernel_rfl) (enters_of Try.func32 (by kernel_rfl) rfl)) ?_
  rintro _ _
  refine U.seg 1 [1, 2, 6] [] (fun K => K [(1, Value.slice a8 (List.length x7) c9), (2, Value.pointer (some ⟨b13, 0, none⟩)), (6, Value.int .i64 x14)] ((1, Ent.blk b13 47 [Value.int .i64 x1, Value.int .i64 x2, Value.slice a4 (List.length x3) c5]) :: fr)) (fun K => by kernel_rfl) 3 (by kernel_rfl) ?_
  refine WO.done (by kernel_rfl) ?_
  refine PO.nx ?_
  refine WP.seq (by kernel_rfl) ?_
  refine WP.reg (by kernel_rfl) ?_
  refine U.seg 2 [1, 2, 6, 10] [] (fun K => K [(1, Value.slice a8 (List.length x7) c9), (2, Value.pointer (some ⟨b13, 0, none⟩)), (6, Value.int .i64 x14), (10, Value.bool (x14 != 0))] ((1, Ent.blk b13 47 [Value.int .i64 x1, Value.int .i64 x2, Value.slice a4 (List.length x3) c5]) :: fr)) (fun K => by kernel_rfl) 2 (by kernel_rfl) ?_
  refine WO.done (by kernel_rfl) ?_
  refine PO.nx ?_
  rcases cond_some H with ⟨h16, H⟩ | ⟨h16, H⟩
  · refine U.asW (t := 10) (congrArg Value.bool h16) (by kernel_rfl) ?_
    refine WP.condT (by kernel_rfl) ?_
    refine WP.seq (by kernel_rfl) ?_
    refine WP.reg (by kernel_rfl) ?_
    refine U.seg 3 [4, 5] [] (fun K => K [(4, Value.int .i64 0), (5, Value.int .i64 x14)] ((1, Ent.blk b13 47 [Value.int .i64 x1, Value.int .i64 x2, Value.slice a4 (List.length x3) c5]) :: fr)) (fun K => by kernel_rfl) 3 (by kernel_rfl) ?_
    refine WO.done (by kernel_rfl) ?_
    refine PO.nx ?_
    refine WP.ret (by kernel_rfl) ?_
    refine PO.nx_ret ?_
    have hr := Option.some.inj H
    subst hr
    refine PO.body [Value.int .i64 0, Value.int .i64 x14] ((1, Ent.blk b13 47 [Value.int .i64 x1, Value.int .i64 x2, Value.slice a4 (List.length x3) c5]) :: fr) rfl (Res.tmp (by kernel_rfl) (Res.tmp (by kernel_rfl) Res.nil)) ?_
    exact fun w hw => Ret.mk () trivial rfl (okNT 1 [] (by kernel_rfl) rfl hw)
  · refine U.asW (t := 10) (congrArg Value.bool h16) (by kernel_rfl) ?_
    refine WP.condF (by kernel_rfl) ?_
    refine WP.skip (by kernel_rfl) ?_
    refine PO.nx ?_
    refine WP.seq (by kernel_rfl) ?_
    refine WP.seq (by kernel_rfl) ?_
    refine WP.join (fun s => ∃ (x20 : Bool), f10_j1 kk x20 x1 x2 x3 x7 = some r ∧ s = { n := 25, e := [(1, Value.slice a8 (List.length x7) c9), (2, Value.pointer (some ⟨b13, 0, none⟩)), (21, Value.bool x20)], d := [], g := g, h := ((1, Ent.blk b13 47 [Value.int .i64 x1, Value.int .i64 x2, Value.slice a4 (List.length x3) c5]) :: fr) }) ?_ ?_
    · refine WP.reg (by kernel_rfl) ?_
      refine U.seg 7 [1, 2, 18] [(3, .ld 1)] (fun K => (b13 = b13) ∧ (K [(1, Value.slice a8 (List.length x7) c9), (2, Value.pointer (some ⟨b13, 0, none⟩)), (18, Value.bool (((List.length x7) : Int) != ((List.length x3) : Int)))] ((1, Ent.blk b13 47 [Value.int .i64 x1, Value.int .i64 x2, Value.slice a4 (List.length x3) c5]) :: fr))) (fun K => by kernel_rfl) 7 (by kernel_rfl) ?_
      refine ⟨rfl, ?_⟩
      rcases cond_some H with ⟨h17, H⟩ | ⟨h17, H⟩
      · refine U.as (t := 18) (congrArg Value.bool h17) (by kernel_rfl) ?_
        refine U.seg 3 [1, 2, 21] [] (fun K => K [(1, Value.slice a8 (List.length x7) c9), (2, Value.pointer (some ⟨b13, 0, none⟩)), (21, Value.bool true)] ((1, Ent.blk b13 47 [Value.int .i64 x1, Value.int .i64 x2, Value.slice a4 (List.length x3) c5]) :: fr)) (fun K => by kernel_rfl) 10 (by kernel_rfl) ?_
        refine WO.done (by kernel_rfl) ?_
        refine PO.jn ⟨true, H, rfl⟩ ?_
        exact (St.ok.to [1, 2, 21] 1 [(1, 0)] (by kernel_rfl) rfl (by kernel_rfl) rfl rfl (by kernel_rfl))
      · refine U.as (t := 18) (congrArg Value.bool h17) (by kernel_rfl) ?_
        refine U.seg 1 [1, 2, 18, 19] [] (fun K => K [(1, Value.slice a8 (List.length x7) c9), (2, Value.pointer (some ⟨b13, 0, none⟩)), (18, Value.bool false), (19, Value.slice a8 (List.length x7) c9)] ((1, Ent.blk b13 47 [Value.int .i64 x1, Value.int .i64 x2, Value.slice a4 (List.length x3) c5]) :: fr)) (fun K => by kernel_rfl) 8 (by kernel_rfl) ?_
        obtain ⟨x18, h19, H⟩ := bnd_some H
        refine U.step 9 (by kernel_rfl) (U.call (dst := some 20) (fun w hw => c_f40 kk x7 a8 c9 h12 h19 hw) (by kernel_rfl) (enters_of Try.func40 (by kernel_rfl) rfl)) ?_
        rintro _ _
        refine U.seg 1 [1, 2, 21] [] (fun K => K [(1, Value.slice a8 (List.length x7) c9), (2, Value.pointer (some ⟨b13, 0, none⟩)), (21, Value.bool x18)] ((1, Ent.blk b13 47 [Value.int .i64 x1, Value.int .i64 x2, Value.slice a4 (List.length x3) c5]) :: fr)) (fun K => by kernel_rfl) 10 (by kernel_rfl) ?_
        refine WO.done (by kernel_rfl) ?_
        refine PO.jn ⟨x18, H, rfl⟩ ?_
        exact (St.ok.to [1, 2, 21] 1 [(1, 0)] (by kernel_rfl) rfl (by kernel_rfl) rfl rfl (by kernel_rfl))
    · rintro _ ⟨x20, H, rfl⟩
      unfold f10_j1 at H
      refine PO.nx ?_
      rcases cond_some H with ⟨h21, H⟩ | ⟨h21, H⟩
      · refine U.asW (t := 21) (congrArg Value.bool h21) (by kernel_rfl) ?_
        refine WP.condT (by kernel_rfl) ?_
        refine WP.seq (by kernel_rfl) ?_
        refine WP.reg (by kernel_rfl) ?_
        refine U.seg 2 [4, 5] [] (fun K => K [(4, Value.int .i64 0), (5, Value.int .i64 1)] ((1, Ent.blk b13 47 [Value.int .i64 x1, Value.int .i64 x2, Value.slice a4 (List.length x3) c5]) :: fr)) (fun K => by kernel_rfl) 2 (by kernel_rfl) ?_
        refine WO.done (by kernel_rfl) ?_
        refine PO.nx ?_
        refine WP.ret (by kernel_rfl) ?_
        refine PO.nx_ret ?_
        have hr := Option.some.inj H
        subst hr
        refine PO.body [Value.int .i64 0, Value.int .i64 1] ((1, Ent.blk b13 47 [Value.int .i64 x1, Value.int .i64 x2, Value.slice a4 (List.length x3) c5]) :: fr) rfl (Res.tmp (by kernel_rfl) (Res.tmp (by kernel_rfl) Res.nil)) ?_
        exact fun w hw => Ret.mk () trivial rfl (okNT 1 [] (by kernel_rfl) rfl hw)
      · refine U.asW (t := 21) (congrArg Value.bool h21) (by kernel_rfl) ?_
        refine WP.condF (by kernel_rfl) ?_
        refine WP.skip (by kernel_rfl) ?_
        refine PO.nx ?_
        refine WP.seq (by kernel_rfl) ?_
        refine WP.reg (by kernel_rfl) ?_
        refine U.seg 2 [22, 23] [(0, .ld 1)] (fun K => (b13 = b13) ∧ (K [(22, Value.agg #[Value.int .i64 x1, Value.int .i64 x2, Value.slice a4 (List.length x3) c5]), (23, Value.slice a8 (List.length x7) c9)] ((1, Ent.blk b13 47 [Value.int .i64 x1, Value.int .i64 x2, Value.slice a4 (List.length x3) c5]) :: fr))) (fun K => by kernel_rfl) 2 (by kernel_rfl) ?_
        refine ⟨rfl, ?_⟩
        obtain ⟨x22, h23, H⟩ := bnd_some H
        refine U.step 3 (by kernel_rfl) (U.call (dst := some 24) (fun w hw => c_f43 kk x1 x2 x3 x7 a4 c5 a8 c9 h11 h12 h23 hw) (by kernel_rfl) (enters_of Try.func43 (by kernel_rfl) rfl)) ?_
        rintro _ _
        refine U.seg 2 [4, 5] [] (fun K => K [(4, Value.int .i64 x22), (5, Value.int .i64 0)] ((1, Ent.blk b13 47 [Value.int .i64 x1, Value.int .i64 x2, Value.slice a4 (List.length x3) c5]) :: fr)) (fun K => by kernel_rfl) 5 (by kernel_rfl) ?_
        refine WO.done (by kernel_rfl) ?_
        refine PO.nx ?_
        refine WP.ret (by kernel_rfl) ?_
        have hr := Option.some.inj H
        subst hr
        refine PO.body [Value.int .i64 x22, Value.int .i64 0] ((1, Ent.blk b13 47 [Value.int .i64 x1, Value.int .i64 x2, Value.slice a4 (List.length x3) c5]) :: fr) rfl (Res.tmp (by kernel_rfl) (Res.tmp (by kernel_rfl) Res.nil)) ?_
        exact fun w hw => Ret.mk () trivial rfl (okNT 1 [] (by kernel_rfl) rfl hw)

set_option maxRecDepth 100000 in
theorem c_f3 (kk : Nat) (x1 : (List (Int × Int))) (x5 : (List ((Int × Int) × (Int × Int)))) (x9 : Int) (x10 : Int) (x11 : Int) (x12 : Int) (x13 : Int) (x14 : Int) (x15 : Int) (x16 : Int) (x17 : Int) (x18 : Int) (x19 : Int) (x20 : Int) (x21 : Int) (x22 : Int) (a2 : Option Addr) (c3 : Nat) (a6 : Option Addr) (c7 : Nat) {g : GH} (h23 : Sl (Kd.pair (Kd.int .i64) (Kd.int .i64)) g a2 (List.length x1) c3 x1) (h24 : Sl (Kd.pair (Kd.pair (Kd.int .i64) (Kd.int .i64)) (Kd.pair (Kd.int .i64) (Kd.int .i64))) g a6 (List.length x5) c7 x5) {r : Bool} (H : m_f3 kk x1 x5 x9 x10 x11 x12 x13 x14 x15 x16 x17 x18 x19 x20 x21 x22 = some r) {fr : Hs} {w : World} (hw : Ok g (fr) w) :
    Calls Try.prog 3 (List.toArray [Value.agg #[Value.slice a2 (List.length x1) c3, Value.slice a6 (List.length x5) c7], Value.agg #[Value.int .i64 x9, Value.int .i64 x10, Value.int .i64 x11, Value.int .i64 x12, Value.int .i64 x13, Value.int .i64 x14, Value.int .i64 x15, Value.int .i64 x16], Value.agg #[Value.int .i64 x17, Value.int .i64 x18, Value.int .i64 x19, Value.int .i64 x20], Value.int .u16 x21, Value.int .u8 x22]) w (Ret (fun _ : Unit => True) (fun _ => Value.bool r) (fun _ => g) (fun _ => (fr))) := by
  refine fn_wp (args := [Value.agg #[Value.slice a2 (List.length x1) c3, Value.slice a6 (List.length x5) c7], Value.agg #[Value.int .i64 x9, Value.int .i64 x10, Value.int .i64 x11, Value.int .i64 x12, Value.int .i64 x13, Value.int .i64 x14, Value.int .i64 x15, Value.int .i64 x16], Value.agg #[Value.int .i64 x17, Value.int .i64 x18, Value.int .i64 x19, Value.int .i64 x20], Value.int .u16 x21, Value.int .u8 x22]) (c := C_3) Try.func3 (by kernel_rfl) Try.ntmps3 (by kernel_rfl) ?_ hw
  unfold m_f3 at H
  refine WP.seq (by kernel_rfl) ?_
  refine WP.reg (by kernel_rfl) ?_
  refine U.seg 4 [3, 4, 5, 6, 7] [(0, .al 1), (1, .al 2), (2, .al 3)] (fun K => ∀ b25 : Nat, ∀ b26 : Nat, ∀ b27 : Nat, K [(3, Value.int .u16 x21), (4, Value.int .u8 x22), (5, Value.pointer (some ⟨b25, 0, none⟩)), (6, Value.pointer (some ⟨b26, 0, none⟩)), (7, Value.pointer (some ⟨b27, 0, none⟩))] ((3, Ent.blk b27 31 [Value.int .i64 x17, Value.int .i64 x18, Value.int .i64 x19, Value.int .i64 x20]) :: (2, Ent.blk b26 29 [Value.int .i64 x9, Value.int .i64 x10, Value.int .i64 x11, Value.int .i64 x12, Value.int .i64 x13, Value.int .i64 x14, Value.int .i64 x15, Value.int .i64 x16]) :: (1, Ent.blk b25 25 [Value.slice a2 (List.length x1) c3, Value.slice a6 (List.length x5) c7]) :: fr)) (fun K => by kernel_rfl) 4 (by kernel_rfl) ?_
  intro b25
  intro b26
  intro b27
  refine WO.done (by kernel_rfl) ?_
  refine PO.nx ?_
  refine WP.seq (by kernel_rfl) ?_
  refine WP.seq (by kernel_rfl) ?_
  refine WP.reg (by kernel_rfl) ?_
  refine U.seg 1 [3, 4, 5, 6, 7, 21] [(0, .ld 1)] (fun K => (b25 = b25) ∧ (K [(3, Value.int .u16 x21), (4, Value.int .u8 x22), (5, Value.pointer (some ⟨b25, 0, none⟩)), (6, Value.pointer (some ⟨b26, 0, none⟩)), (7, Value.pointer (some ⟨b27, 0, none⟩)), (21, Value.agg #[Value.slice a2 (List.length x1) c3, Value.slice a6 (List.length x5) c7])] ((3, Ent.blk b27 31 [Value.int .i64 x17, Value.int .i64 x18, Value.int .i64 x19, Value.int .i64 x20]) :: (2, Ent.blk b26 29 [Value.int .i64 x9, Value.int .i64 x10, Value.int .i64 x11, Value.int .i64 x12, Value.int .i64 x13, Value.int .i64 x14, Value.int .i64 x15, Value.int .i64 x16]) :: (1, Ent.blk b25 25 [Value.slice a2 (List.length x1) c3, Value.slice a6 (List.length x5) c7]) :: fr))) (fun K => by kernel_rfl) 1 (by kernel_rfl) ?_
  refine ⟨rfl, ?_⟩
  obtain ⟨x28, h29, H⟩ := bnd_some H
  refine U.step 2 (by kernel_rfl) (U.call (dst := some 22) (fun w hw => c_f6 kk x1 x5 a2 c3 a6 c7 h23 h24 h29 hw) (by kernel_rfl) (enters_of Try.func6 (by kernel_rfl) rfl)) ?_
  rintro _ _
  refine WO.done (by kernel_rfl) ?_
  refine PO.nx ?_
  rcases cond_some H with ⟨h30, H⟩ | ⟨h30, H⟩
  · refine U.asW (t := 22) (congrArg Value.bool h30) (by kernel_rfl) ?_
    refine WP.condT (by kernel_rfl) ?_
    refine WP.seq (by kernel_rfl) ?_
    refine WP.reg (by kernel_rfl) ?_
    obtain ⟨x31, h32, H⟩ := bnd_some H
    refine U.step 1 (by kernel_rfl) (U.call (dst := some 23) (fun w hw => c_f7 kk h32 hw) (by kernel_rfl) (enters_of Try.func7 (by kernel_rfl) rfl)) ?_
    rintro _ _
    refine U.seg 1 [10] [] (fun K => K [(10, Value.bool x31)] ((3, Ent.blk b27 31 [Value.int .i64 x17, Value.int .i64 x18, Value.int .i64 x19, Value.int .i64 x20]) :: (2, Ent.blk b26 29 [Value.int .i64 x9, Value.int .i64 x10, Value.int .i64 x11, Value.int .i64 x12, Value.int .i64 x13, Value.int .i64 x14, Value.int .i64 x15, Value.int .i64 x16]) :: (1, Ent.blk b25 25 [Value.slice a2 (List.length x1) c3, Value.slice a6 (List.length x5) c7]) :: fr)) (fun K => by kernel_rfl) 2 (by kernel_rfl) ?_
    refine WO.done (by kernel_rfl) ?_
    refine PO.nx ?_
    refine WP.ret (by kernel_rfl) ?_
    refine PO.nx_ret ?_
    have hr := Option.some.inj H
    subst hr
    refine PO.body [Value.bool x31] ((3, Ent.blk b27 31 [Value.int .i64 x17, Value.int .i64 x18, Value.int .i64 x19, Value.int .i64 x20]) :: (2, Ent.blk b26 29 [Value.int .i64 x9, Value.int .i64 x10, Value.int .i64 x11, Value.int .i64 x12, Value.int .i64 x13, Value.int .i64 x14, Value.int .i64 x15, Value.int .i64 x16]) :: (1, Ent.blk b25 25 [Value.slice a2 (List.length x1) c3, Value.slice a6 (List.length x5) c7]) :: fr) rfl (Res.tmp (by kernel_rfl) Res.nil) ?_
    exact fun w hw => Ret.mk () trivial rfl (okNT 3 [] (by kernel_rfl) rfl hw)
  · refine U.asW (t := 22) (congrArg Value.bool h30) (by kernel_rfl) ?_
    refine WP.condF (by kernel_rfl) ?_
    refine WP.skip (by kernel_rfl) ?_
    refine PO.nx ?_
    refine WP.seq (by kernel_rfl) ?_
    refine WP.reg (by kernel_rfl) ?_
    refine U.seg 3 [3, 4, 5, 25, 26, 27] [(0, .ld 1), (1, .ld 2), (2, .ld 3)] (fun K => (b25 = b25) ∧ ((b26 = b26) ∧ ((b27 = b27) ∧ (K [(3, Value.int .u16 x21), (4, Value.int .u8 x22), (5, Value.pointer (some ⟨b25, 0, none⟩)), (25, Value.agg #[Value.slice a2 (List.length x1) c3, Value.slice a6 (List.length x5) c7]), (26, Value.agg #[Value.int .i64 x9, Value.int .i64 x10, Value.int .i64 x11, Value.int .i64 x12, Value.int .i64 x13, Value.int .i64 x14, Value.int .i64 x15, Value.int .i64 x16]), (27, Value.agg #[Value.int .i64 x17, Value.int .i64 x18, Value.int .i64 x19, Value.int .i64 x20])] ((3, Ent.blk b27 31 [Value.int .i64 x17, Value.int .i64 x18, Value.int .i64 x19, Value.int .i64 x20]) :: (2, Ent.blk b26 29 [Value.int .i64 x9, Value.int .i64 x10, Value.int .i64 x11, Value.int .i64 x12, Value.int .i64 x13, Value.int .i64 x14, Value.int .i64 x15, Value.int .i64 x16]) :: (1, Ent.blk b25 25 [Value.slice a2 (List.length x1) c3, Value.slice a6 (List.length x5) c7]) :: fr))))) (fun K => by kernel_rfl) 3 (by kernel_rfl) ?_
    refine ⟨rfl, ?_⟩
    refine ⟨rfl, ?_⟩
    refine ⟨rfl, ?_⟩
    obtain ⟨x33, h34, H⟩ := bnd_some H
    refine U.step 4 (by kernel_rfl) (U.call (dst := some 28) (fun w hw => c_f8 kk x1 x5 x9 x10 x11 x12 x13 x14 x15 x16 x17 x18 x19 x20 a2 c3 a6 c7 h23 h24 h34 hw) (by kernel_rfl) (enters_of Try.func8 (by kernel_rfl) rfl)) ?_
    rintro ⟨g35, a37, c38⟩ ⟨h36, h40⟩
    refine U.seg 6 [3, 4, 5, 11, 12] [(7, .al 4), (8, .st 4)] (fun K => ∀ b41 : Nat, (b41 = b41) ∧ (K [(3, Value.int .u16 x21), (4, Value.int .u8 x22), (5, Value.pointer (some ⟨b25, 0, none⟩)), (11, Value.pointer (some ⟨b41, 0, none⟩)), (12, Value.int .i64 x33.2)] ((4, Ent.blk b41 37 [Value.slice a37 (List.length x33.1) c38]) :: (3, Ent.blk b27 31 [Value.int .i64 x17, Value.int .i64 x18, Value.int .i64 x19, Value.int .i64 x20]) :: (2, Ent.blk b26 29 [Value.int .i64 x9, Value.int .i64 x10, Value.int .i64 x11, Value.int .i64 x12, Value.int .i64 x13, Value.int .i64 x14, Value.int .i64 x15, Value.int .i64 x16]) :: (1, Ent.blk b25 25 [Value.slice a2 (List.length x1) c3, Value.slice a6 (List.length x5) c7]) :: fr))) (fun K => by kernel_rfl) 10 (by kernel_rfl) ?_
    intro b41
    refine ⟨rfl, ?_⟩
    refine WO.done (by kernel_rfl) ?_
    refine PO.nx ?_
    refine WP.seq (by kernel_rfl) ?_
    refine WP.seq (by kernel_rfl) ?_
    refine WP.join (fun s => ∃ (x44 : Bool), f3_j1 kk x44 x1 x22 x21 x33 = some r ∧ s = { n := 120, e := [(3, Value.int .u16 x21), (4, Value.int .u8 x22), (5, Value.pointer (some ⟨b25, 0, none⟩)), (11, Value.pointer (some ⟨b41, 0, none⟩)), (38, Value.bool x44)], d := [], g := g35, h := ((1, Ent.blk b25 25 [Value.slice a2 (List.length x1) c3, Value.slice a6 (List.length x5) c7]) :: (4, Ent.blk b41 37 [Value.slice a37 (List.length x33.1) c38]) :: fr) }) ?_ ?_
    · refine WP.reg (by kernel_rfl) ?_
      refine U.seg 3 [3, 4, 5, 11, 33] [] (fun K => K [(3, Value.int .u16 x21), (4, Value.int .u8 x22), (5, Value.pointer (some ⟨b25, 0, none⟩)), (11, Value.pointer (some ⟨b41, 0, none⟩)), (33, Value.bool (x33.2 != 0))] ((4, Ent.blk b41 37 [Value.slice a37 (List.length x33.1) c38]) :: (3, Ent.blk b27 31 [Value.int .i64 x17, Value.int .i64 x18, Value.int .i64 x19, Value.int .i64 x20]) :: (2, Ent.blk b26 29 [Value.int .i64 x9, Value.int .i64 x10, Value.int .i64 x11, Value.int .i64 x12, Value.int .i64 x13, Value.int .i64 x14, Value.int .i64 x15, Value.int .i64 x16]) :: (1, Ent.blk b25 25 [Value.slice a2 (List.length x1) c3, Value.slice a6 (List.length x5) c7]) :: fr)) (fun K => by kernel_rfl) 3 (by kernel_rfl) ?_
      rcases cond_some H with ⟨h43, H⟩ | ⟨h43, H⟩
      · refine U.as (t := 33) (congrArg Value.bool h43) (by kernel_rfl) ?_
        refine U.seg 5 [3, 4, 5, 11, 38] [] (fun K => K [(3, Value.int .u16 x21), (4, Value.int .u8 x22), (5, Value.pointer (some ⟨b25, 0, none⟩)), (11, Value.pointer (some ⟨b41, 0, none⟩)), (38, Value.bool true)] ((4, Ent.blk b41 37 [Value.slice a37 (List.length x33.1) c38]) :: (3, Ent.blk b27 31 [Value.int .i64 x17, Value.int .i64 x18, Value.int .i64 x19, Value.int .i64 x20]) :: (2, Ent.blk b26 29 [Value.int .i64 x9, Value.int .i64 x10, Value.int .i64 x11, Value.int .i64 x12, Value.int .i64 x13, Value.int .i64 x14, Value.int .i64 x15, Value.int .i64 x16]) :: (1, Ent.blk b25 25 [Value.slice a2 (List.length x1) c3, Value.slice a6 (List.length x5) c7]) :: fr)) (fun K => by kernel_rfl) 8 (by kernel_rfl) ?_
        refine WO.done (by kernel_rfl) ?_
        refine PO.jn ⟨true, H, rfl⟩ ?_
        exact (St.ok.to [3, 4, 5, 11, 38] 4 [(1, 3), (4, 0)] (by kernel_rfl) rfl (by kernel_rfl) rfl rfl (by kernel_rfl))
      · refine U.as (t := 33) (congrArg Value.bool h43) (by kernel_rfl) ?_
        refine U.seg 5 [3, 4, 5, 11, 38] [(4, .ld 4)] (fun K => (b41 = b41) ∧ (K [(3, Value.int .u16 x21), (4, Value.int .u8 x22), (5, Value.pointer (some ⟨b25, 0, none⟩)), (11, Value.pointer (some ⟨b41, 0, none⟩)), (38, Value.bool (decide (((List.length x33.1) : Int) > 9)))] ((4, Ent.blk b41 37 [Value.slice a37 (List.length x33.1) c38]) :: (3, Ent.blk b27 31 [Value.int .i64 x17, Value.int .i64 x18, Value.int .i64 x19, Value.int .i64 x20]) :: (2, Ent.blk b26 29 [Value.int .i64 x9, Value.int .i64 x10, Value.int .i64 x11, Value.int .i64 x12, Value.int .i64 x13, Value.int .i64 x14, Value.int .i64 x15, Value.int .i64 x16]) :: (1, Ent.blk b25 25 [Value.slice a2 (List.length x1) c3, Value.slice a6 (List.length x5) c7]) :: fr))) (fun K => by kernel_rfl) 8 (by kernel_rfl) ?_
        refine ⟨rfl, ?_⟩
        refine WO.done (by kernel_rfl) ?_
        refine PO.jn ⟨(decide (((List.length x33.1) : Int) > 9)), H, rfl⟩ ?_
        exact (St.ok.to [3, 4, 5, 11, 38] 4 [(1, 3), (4, 0)] (by kernel_rfl) rfl (by kernel_rfl) rfl rfl (by kernel_rfl))
    · rintro _ ⟨x44, H, rfl⟩
      unfold f3_j1 at H
      refine PO.nx ?_
      rcases cond_some H with ⟨h45, H⟩ | ⟨h45, H⟩
      · refine U.asW (t := 38) (congrArg Value.bool h45) (by kernel_rfl) ?_
        refine WP.condT (by kernel_rfl) ?_
        refine WP.seq (by kernel_rfl) ?_
        refine WP.reg (by kernel_rfl) ?_
        obtain ⟨x46, h47, H⟩ := bnd_some H
        refine U.step 1 (by kernel_rfl) (U.call (dst := some 39) (fun w hw => c_f7 kk h47 hw) (by kernel_rfl) (enters_of Try.func7 (by kernel_rfl) rfl)) ?_
        rintro _ _
        refine U.seg 1 [10] [] (fun K => K [(10, Value.bool x46)] ((1, Ent.blk b25 25 [Value.slice a2 (List.length x1) c3, Value.slice a6 (List.length x5) c7]) :: (4, Ent.blk b41 37 [Value.slice a37 (List.length x33.1) c38]) :: fr)) (fun K => by kernel_rfl) 2 (by kernel_rfl) ?_
        refine WO.done (by kernel_rfl) ?_
        refine PO.nx ?_
        refine WP.ret (by kernel_rfl) ?_
        refine PO.nx_ret ?_
        have hr := Option.some.inj H
        subst hr
        refine PO.body [Value.bool x46] ((1, Ent.blk b25 25 [Value.slice a2 (List.length x1) c3, Value.slice a6 (List.length x5) c7]) :: (4, Ent.blk b41 37 [Value.slice a37 (List.length x33.1) c38]) :: fr) rfl (Res.tmp (by kernel_rfl) Res.nil) ?_
        exact fun w hw => Ret.mk () trivial rfl (Ok.gweak h36 (okNT 2 [] (by kernel_rfl) rfl hw))
      · refine U.asW (t := 38) (congrArg Value.bool h45) (by kernel_rfl) ?_
        refine WP.condF (by kernel_rfl) ?_
        refine WP.skip (by kernel_rfl) ?_
        refine PO.nx ?_
        refine WP.seq (by kernel_rfl) ?_
        refine WP.reg (by kernel_rfl) ?_
        refine U.seg 1 [3, 4, 5, 11, 13] [] (fun K => K [(3, Value.int .u16 x21), (4, Value.int .u8 x22), (5, Value.pointer (some ⟨b25, 0, none⟩)), (11, Value.pointer (some ⟨b41, 0, none⟩)), (13, Value.int .i64 0)] ((1, Ent.blk b25 25 [Value.slice a2 (List.length x1) c3, Value.slice a6 (List.length x5) c7]) :: (4, Ent.blk b41 37 [Value.slice a37 (List.length x33.1) c38]) :: fr)) (fun K => by kernel_rfl) 1 (by kernel_rfl) ?_
        refine WO.done (by kernel_rfl) ?_
        refine PO.nx ?_
        refine WP.seq (by kernel_rfl) ?_
        refine WP.seq (by kernel_rfl) ?_
        refine WP.reg (by kernel_rfl) ?_
        refine U.seg 1 [3, 4, 5, 11, 13, 14] [] (fun K => K [(3, Value.int .u16 x21), (4, Value.int .u8 x22), (5, Value.pointer (some ⟨b25, 0, none⟩)), (11, Value.pointer (some ⟨b41, 0, none⟩)), (13, Value.int .i64 0), (14, Value.int .i64 0)] ((1, Ent.blk b25 25 [Value.slice a2 (List.length x1) c3, Value.slice a6 (List.length x5) c7]) :: (4, Ent.blk b41 37 [Value.slice a37 (List.length x33.1) c38]) :: fr)) (fun K => by kernel_rfl) 1 (by kernel_rfl) ?_
        refine WO.done (by kernel_rfl) ?_
        refine PO.nx ?_
        refine WP.join (fun s => ∃ (x96 : Int), f3_j3 kk x96 x22 x21 x33 = some r ∧ s = { n := 120, e := [(3, Value.int .u16 x21), (4, Value.int .u8 x22), (11, Value.pointer (some ⟨b41, 0, none⟩)), (13, Value.int .i64 x96)], d := [], g := g35, h := ((4, Ent.blk b41 37 [Value.slice a37 (List.length x33.1) c38]) :: fr) }) ?_ ?_
        · refine WP.block (id := 0) (by kernel_rfl) ?_
          obtain ⟨o76, h95, h79⟩ := bnd_some H
          refine WP.loopW (by kernel_rfl) (fun n s => ∃ (x74 : Int) (x75 : Int), iter (fun y : (Int × Int) => f3_l2 kk y.1 y.2 x1 x22 x21 x33) n (x74, x75) = some o76 ∧ s = { n := 120, e := [(3, Value.int .u16 x21), (4, Value.int .u8 x22), (5, Value.pointer (some ⟨b25, 0, none⟩)), (11, Value.pointer (some ⟨b41, 0, none⟩)), (13, Value.int .i64 x74), (14, Value.int .i64 x75)], d := [], g := g35, h := ((1, Ent.blk b25 25 [Value.slice a2 (List.length x1) c3, Value.slice a6 (List.length x5) c7]) :: (4, Ent.blk b41 37 [Value.slice a37 (List.length x33.1) c38]) :: fr) }) (k := kk) ⟨0, 0, h95, rfl⟩ (St.ok.to [3, 4, 5, 11, 13, 14] 2 [(1, 0), (4, 1)] (by kernel_rfl) rfl (by kernel_rfl) rfl rfl (by kernel_rfl)) ?_
          intro n90 s
          rintro ⟨x74, x75, h91, rfl⟩
          obtain ⟨n80, q77, h93, h94, h78⟩ := iter_some h91
          subst h93
          have H : f3_l2 kk x74 x75 x1 x22 x21 x33 = some q77 := h94
          unfold f3_l2 at H
          refine WP.seq (by kernel_rfl) ?_
          refine WP.seq (by kernel_rfl) ?_
          refine WP.reg (by kernel_rfl) ?_
          refine U.seg 5 [3, 4, 5, 11, 13, 14, 44] [(2, .ld 1)] (fun K => (b25 = b25) ∧ (K [(3, Value.int .u16 x21), (4, Value.int .u8 x22), (5, Value.pointer (some ⟨b25, 0, none⟩)), (11, Value.pointer (some ⟨b41, 0, none⟩)), (13, Value.int .i64 x74), (14, Value.int .i64 x75), (44, Value.bool (decide (x75 < ((List.length x1) : Int))))] ((1, Ent.blk b25 25 [Value.slice a2 (List.length x1) c3, Value.slice a6 (List.length x5) c7]) :: (4, Ent.blk b41 37 [Value.slice a37 (List.length x33.1) c38]) :: fr))) (fun K => by kernel_rfl) 5 (by kernel_rfl) ?_
          refine ⟨rfl, ?_⟩
          refine WO.done (by kernel_rfl) ?_
          refine PO.nx ?_
          rcases cond_some H with ⟨h81, H⟩ | ⟨h81, H⟩
          · refine U.asW (t := 44) (congrArg Value.bool h81) (by kernel_rfl) ?_
            refine WP.condT (by kernel_rfl) ?_
            refine WP.skip (by kernel_rfl) ?_
            refine PO.nx ?_
            refine WP.seq (by kernel_rfl) ?_
            refine WP.block (id := 1) (by kernel_rfl) ?_
            refine WP.reg (by kernel_rfl) ?_
            obtain ⟨x82, h83, H⟩ := bnd_some H
            obtain ⟨h84, s85, h86, h87⟩ := Sl.at' (d := (Kd.pair (Kd.int .i64) (Kd.int .i64))) (h23.mono h36) h83
            obtain ⟨_, _, rfl, rfl, rfl⟩ := h86
            refine U.seg 9 [3, 4, 5, 11, 13, 14] [(2, .ld 1), (4, .s), (6, .lg (Value.int .i64 x82.1))] (fun K => (b25 = b25) ∧ (((0 : Int) ≤ x75 ∧ x75 < ((List.length x1) : Nat) ∧ FlatA a2 (List.length x1)) ∧ ((GLoad g35 ⟨ab a2, ao a2 + (Int.toNat (x75)) * 2, none⟩ false 1 (Value.int .i64 x82.1)) ∧ (K [(3, Value.int .u16 x21), (4, Value.int .u8 x22), (5, Value.pointer (some ⟨b25, 0, none⟩)), (11, Value.pointer (some ⟨b41, 0, none⟩)), (13, Value.int .i64 (imax x74 x82.1)), (14, Value.int .i64 x75)] ((1, Ent.blk b25 25 [Value.slice a2 (List.length x1) c3, Value.slice a6 (List.length x5) c7]) :: (4, Ent.blk b41 37 [Value.slice a37 (List.length x33.1) c38]) :: fr))))) (fun K => by kernel_rfl) 9 (by kernel_rfl) ?_
            refine ⟨rfl, ?_⟩
            refine ⟨h84, ?_⟩
            refine ⟨(h87 _ 0 _ _ _ rfl rfl rfl (OwnRead.one rfl)), ?_⟩
            refine WO.done (by kernel_rfl) ?_
            refine PO.blk_normal ?_
            refine PO.nx ?_
            refine WP.reg (by kernel_rfl) ?_
            refine U.seg 3 [3, 4, 5, 11, 13, 14] [] (fun K => K [(3, Value.int .u16 x21), (4, Value.int .u8 x22), (5, Value.pointer (some ⟨b25, 0, none⟩)), (11, Value.pointer (some ⟨b41, 0, none⟩)), (13, Value.int .i64 (imax x74 x82.1)), (14, Value.int .i64 (w64 (x75 + 1)))] ((1, Ent.blk b25 25 [Value.slice a2 (List.length x1) c3, Value.slice a6 (List.length x5) c7]) :: (4, Ent.blk b41 37 [Value.slice a37 (List.length x33.1) c38]) :: fr)) (fun K => by kernel_rfl) 3 (by kernel_rfl) ?_
            refine WO.done (by kernel_rfl) ?_
            have hq := Option.some.inj H
            subst hq
            refine PO.againW ⟨(imax x74 x82.1), (w64 (x75 + 1)), h78, rfl⟩ ?_ (Nat.lt_succ_self _)
            exact (St.ok.to [3, 4, 5, 11, 13, 14] 2 [(1, 0), (4, 1)] (by kernel_rfl) rfl (by kernel_rfl) rfl rfl (by kernel_rfl))
          · refine U.asW (t := 44) (congrArg Value.bool h81) (by kernel_rfl) ?_
            refine WP.condF (by kernel_rfl) ?_
            refine WP.exit (id := 0) (by kernel_rfl) ?_
            refine PO.nx_exit ?_
            refine PO.lp_exit ?_
            refine PO.blk_exit ?_
            have hq := Option.some.inj H
            subst hq
            have H := h79
            rw [← (show _ = o76 from h78)] at H
            have H : f3_j3 kk x74 x22 x21 x33 = some r := H
            refine PO.jn ⟨x74, H, rfl⟩ ?_
            exact (St.ok.to [3, 4, 11, 13] 2 [(4, 1)] (by kernel_rfl) rfl (by kernel_rfl) rfl rfl (by kernel_rfl))
        · rintro _ ⟨x96, H, rfl⟩
          unfold f3_j3 at H
          refine PO.nx ?_
          refine WP.seq (by kernel_rfl) ?_
          refine WP.seq (by kernel_rfl) ?_
          refine WP.reg (by kernel_rfl) ?_
          refine U.seg 2 [3, 4, 11, 13, 56] [] (fun K => K [(3, Value.int .u16 x21), (4, Value.int .u8 x22), (11, Value.pointer (some ⟨b41, 0, none⟩)), (13, Value.int .i64 x96), (56, Value.bool (decide (x96 < 1)))] ((4, Ent.blk b41 37 [Value.slice a37 (List.length x33.1) c38]) :: fr)) (fun K => by kernel_rfl) 2 (by kernel_rfl) ?_
          refine WO.done (by kernel_rfl) ?_
          refine PO.nx ?_
          rcases cond_some H with ⟨h97, H⟩ | ⟨h97, H⟩
          · refine U.asW (t := 56) (congrArg Value.bool h97) (by kernel_rfl) ?_
            refine WP.condT (by kernel_rfl) ?_
            refine WP.seq (by kernel_rfl) ?_
            refine WP.reg (by kernel_rfl) ?_
            obtain ⟨x98, h99, H⟩ := bnd_some H
            refine U.step 1 (by kernel_rfl) (U.call (dst := some 57) (fun w hw => c_f7 kk h99 hw) (by kernel_rfl) (enters_of Try.func7 (by kernel_rfl) rfl)) ?_
            rintro _ _
            refine U.seg 1 [10] [] (fun K => K [(10, Value.bool x98)] ((4, Ent.blk b41 37 [Value.slice a37 (List.length x33.1) c38]) :: fr)) (fun K => by kernel_rfl) 2 (by kernel_rfl) ?_
            refine WO.done (by kernel_rfl) ?_
            refine PO.nx ?_
            refine WP.ret (by kernel_rfl) ?_
            refine PO.nx_ret ?_
            have hr := Option.some.inj H
            subst hr
            refine PO.body [Value.bool x98] ((4, Ent.blk b41 37 [Value.slice a37 (List.length x33.1) c38]) :: fr) rfl (Res.tmp (by kernel_rfl) Res.nil) ?_
            exact fun w hw => Ret.mk () trivial rfl (Ok.gweak h36 (okNT 1 [] (by kernel_rfl) rfl hw))
          · refine U.asW (t := 56) (congrArg Value.bool h97) (by kernel_rfl) ?_
            refine WP.condF (by kernel_rfl) ?_
            refine WP.skip (by kernel_rfl) ?_
            refine PO.nx ?_
            refine WP.seq (by kernel_rfl) ?_
            refine WP.reg (by kernel_rfl) ?_
            have h101 : Rw (Kd.pair (Kd.int .i64) (Kd.int .i64)) g35 [Value.int .i64 x96, Value.int .i64 ((List.length x33.1) : Int)] [(x96, ((List.length x33.1) : Int))] := ⟨[Value.int .i64 x96, Value.int .i64 ((List.length x33.1) : Int)], [], rfl, ⟨[Value.int .i64 x96], [Value.int .i64 ((List.length x33.1) : Int)], rfl, rfl, rfl⟩, rfl⟩
            refine U.seg 15 [11, 13, 15] [(8, .ld 4), (11, .al 5), (13, .al 6), (14, .st 6)] (fun K => (b41 = b41) ∧ (∀ b100 : Nat, ∀ b104 : Nat, (b104 = b104) ∧ (K [(11, Value.pointer (some ⟨b41, 0, none⟩)), (13, Value.int .i64 x96), (15, Value.pointer (some ⟨b104, 0, none⟩))] ((6, Ent.blk b104 47 [Value.int .i64 (w64 (x96 + (w64 (x21)))), Value.int .i64 (w64 (x22)), Value.slice (some ⟨b100, 0, none⟩ : Option Addr) 1 1]) :: (5, Ent.sl (some ⟨b100, 0, none⟩ : Option Addr) 1 1 44 2 [Value.int .i64 x96, Value.int .i64 ((List.length x33.1) : Int)]) :: (4, Ent.blk b41 37 [Value.slice a37 (List.length x33.1) c38]) :: fr)))) (fun K => by kernel_rfl) 15 (by kernel_rfl) ?_
            refine ⟨rfl, ?_⟩
            intro b100
            intro b104
            refine ⟨rfl, ?_⟩
            refine WO.done (by kernel_rfl) ?_
            refine PO.nx ?_
            refine WP.seq (by kernel_rfl) ?_
            refine WP.reg (by kernel_rfl) ?_
            obtain ⟨h106, H⟩ := grd_some H
            refine U.seg 11 [11, 15, 16] [(1, .ld 6), (3, .ld 6), (7, .ld 6), (9, .s)] (fun K => (b104 = b104) ∧ ((b104 = b104) ∧ ((b104 = b104) ∧ (((w64 (x96 + (w64 (x22)))) ≠ (0 : Int)) ∧ (K [(11, Value.pointer (some ⟨b41, 0, none⟩)), (15, Value.pointer (some ⟨b104, 0, none⟩)), (16, Value.int .i64 (w64 (Int.tdiv (w64 ((w64 (x96 + (w64 (x21)))) + (w64 (x22)))) (w64 (x96 + (w64 (x22)))))))] ((6, Ent.blk b104 47 [Value.int .i64 (w64 (x96 + (w64 (x21)))), Value.int .i64 (w64 (x22)), Value.slice (some ⟨b100, 0, none⟩ : Option Addr) 1 1]) :: (5, Ent.sl (some ⟨b100, 0, none⟩ : Option Addr) 1 1 44 2 [Value.int .i64 x96, Value.int .i64 ((List.length x33.1) : Int)]) :: (4, Ent.blk b41 37 [Value.slice a37 (List.length x33.1) c38]) :: fr)))))) (fun K => by kernel_rfl) 11 (by kernel_rfl) ?_
            refine ⟨rfl, ?_⟩
            refine ⟨rfl, ?_⟩
            refine ⟨rfl, ?_⟩
            refine ⟨h106, ?_⟩
            refine WO.done (by kernel_rfl) ?_
            refine PO.nx ?_
            refine WP.seq (by kernel_rfl) ?_
            refine WP.reg (by kernel_rfl) ?_
            obtain ⟨h107, H⟩ := grd_some H
            refine U.seg 9 [15, 17] [(1, .ld 4), (7, .s)] (fun K => (b41 = b41) ∧ (((w64 (Int.tdiv (w64 ((w64 (x96 + (w64 (x21)))) + (w64 (x22)))) (w64 (x96 + (w64 (x22)))))) ≠ (0 : Int)) ∧ (K [(15, Value.pointer (some ⟨b104, 0, none⟩)), (17, Value.int .i64 (w64 (Int.tdiv (w64 ((w64 (((List.length x33.1) : Int) + (w64 (Int.tdiv (w64 ((w64 (x96 + (w64 (x21)))) + (w64 (x22)))) (w64 (x96 + (w64 (x22)))))))) - 1)) (w64 (Int.tdiv (w64 ((w64 (x96 + (w64 (x21)))) + (w64 (x22)))) (w64 (x96 + (w64 (x22)))))))))] ((6, Ent.blk b104 47 [Value.int .i64 (w64 (x96 + (w64 (x21)))), Value.int .i64 (w64 (x22)), Value.slice (some ⟨b100, 0, none⟩ : Option Addr) 1 1]) :: (5, Ent.sl (some ⟨b100, 0, none⟩ : Option Addr) 1 1 44 2 [Value.int .i64 x96, Value.int .i64 ((List.length x33.1) : Int)]) :: (4, Ent.blk b41 37 [Value.slice a37 (List.length x33.1) c38]) :: fr)))) (fun K => by kernel_rfl) 9 (by kernel_rfl) ?_
            refine ⟨rfl, ?_⟩
            refine ⟨h107, ?_⟩
            refine WO.done (by kernel_rfl) ?_
            refine PO.nx ?_
            refine WP.seq (by kernel_rfl) ?_
            refine WP.reg (by kernel_rfl) ?_
            refine U.seg 1 [15, 17, 90] [(0, .ld 6)] (fun K => (b104 = b104) ∧ (K [(15, Value.pointer (some ⟨b104, 0, none⟩)), (17, Value.int .i64 (w64 (Int.tdiv (w64 ((w64 (((List.length x33.1) : Int) + (w64 (Int.tdiv (w64 ((w64 (x96 + (w64 (x21)))) + (w64 (x22)))) (w64 (x96 + (w64 (x22)))))))) - 1)) (w64 (Int.tdiv (w64 ((w64 (x96 + (w64 (x21)))) + (w64 (x22)))) (w64 (x96 + (w64 (x22))))))))), (90, Value.agg #[Value.int .i64 (w64 (x96 + (w64 (x21)))), Value.int .i64 (w64 (x22)), Value.slice (some ⟨b100, 0, none⟩ : Option Addr) 1 1])] ((6, Ent.blk b104 47 [Value.int .i64 (w64 (x96 + (w64 (x21)))), Value.int .i64 (w64 (x22)), Value.slice (some ⟨b100, 0, none⟩ : Option Addr) 1 1]) :: (5, Ent.sl (some ⟨b100, 0, none⟩ : Option Addr) 1 1 44 2 [Value.int .i64 x96, Value.int .i64 ((List.length x33.1) : Int)]) :: (4, Ent.blk b41 37 [Value.slice a37 (List.length x33.1) c38]) :: fr))) (fun K => by kernel_rfl) 1 (by kernel_rfl) ?_
            refine ⟨rfl, ?_⟩
            refine U.freeze (dd := (Kd.pair (Kd.int .i64) (Kd.int .i64))) (t := 5) (a := (some ⟨b100, 0, none⟩ : Option Addr)) (n1 := 1) (cc := 1) (T := 44) (cs := [Value.int .i64 x96, Value.int .i64 ((List.length x33.1) : Int)]) (by kernel_rfl) h101 rfl (fun g108 h109 h110 => ?_)
            obtain ⟨x111, h112, H⟩ := bnd_some H
            refine U.step 2 (by kernel_rfl) (U.call (dst := some 91) (fun w hw => c_f9 kk (w64 (x96 + (w64 (x21)))) (w64 (x22)) [(x96, ((List.length x33.1) : Int))] (some ⟨b100, 0, none⟩ : Option Addr) 1 h110 h112 hw) (by kernel_rfl) (enters_of Try.func9 (by kernel_rfl) rfl)) ?_
            rintro ⟨g113, a115, c116⟩ ⟨h114, h118⟩
            refine U.seg 5 [12, 15, 17, 18] [] (fun K => K [(12, Value.int .i64 x111.2), (15, Value.pointer (some ⟨b104, 0, none⟩)), (17, Value.int .i64 (w64 (Int.tdiv (w64 ((w64 (((List.length x33.1) : Int) + (w64 (Int.tdiv (w64 ((w64 (x96 + (w64 (x21)))) + (w64 (x22)))) (w64 (x96 + (w64 (x22)))))))) - 1)) (w64 (Int.tdiv (w64 ((w64 (x96 + (w64 (x21)))) + (w64 (x22)))) (w64 (x96 + (w64 (x22))))))))), (18, Value.slice a115 (List.length x111.1) c116)] ((6, Ent.blk b104 47 [Value.int .i64 (w64 (x96 + (w64 (x21)))), Value.int .i64 (w64 (x22)), Value.slice (some ⟨b100, 0, none⟩ : Option Addr) 1 1]) :: (4, Ent.blk b41 37 [Value.slice a37 (List.length x33.1) c38]) :: fr)) (fun K => by kernel_rfl) 7 (by kernel_rfl) ?_
            refine WO.done (by kernel_rfl) ?_
            refine PO.nx ?_
            refine WP.seq (by kernel_rfl) ?_
            refine WP.reg (by kernel_rfl) ?_
            have h120 : Rw (Kd.int .i64) g113 [Value.int .i64 1] [1] := ⟨[Value.int .i64 1], [], rfl, rfl, rfl⟩
            refine U.seg 2 [12, 17, 18, 95, 96] [(0, .ld 6), (1, .al 7)] (fun K => (b104 = b104) ∧ (∀ b119 : Nat, K [(12, Value.int .i64 x111.2), (17, Value.int .i64 (w64 (Int.tdiv (w64 ((w64 (((List.length x33.1) : Int) + (w64 (Int.tdiv (w64 ((w64 (x96 + (w64 (x21)))) + (w64 (x22)))) (w64 (x96 + (w64 (x22)))))))) - 1)) (w64 (Int.tdiv (w64 ((w64 (x96 + (w64 (x21)))) + (w64 (x22)))) (w64 (x96 + (w64 (x22))))))))), (18, Value.slice a115 (List.length x111.1) c116), (95, Value.agg #[Value.int .i64 (w64 (x96 + (w64 (x21)))), Value.int .i64 (w64 (x22)), Value.slice (some ⟨b100, 0, none⟩ : Option Addr) 1 1]), (96, Value.slice (some ⟨b119, 0, none⟩ : Option Addr) 1 1)] ((7, Ent.sl (some ⟨b119, 0, none⟩ : Option Addr) 1 1 3 1 [Value.int .i64 1]) :: (6, Ent.blk b104 47 [Value.int .i64 (w64 (x96 + (w64 (x21)))), Value.int .i64 (w64 (x22)), Value.slice (some ⟨b100, 0, none⟩ : Option Addr) 1 1]) :: (4, Ent.blk b41 37 [Value.slice a37 (List.length x33.1) c38]) :: fr))) (fun K => by kernel_rfl) 2 (by kernel_rfl) ?_
            refine ⟨rfl, ?_⟩
            intro b119
            refine U.freeze (dd := (Kd.int .i64)) (t := 7) (a := (some ⟨b119, 0, none⟩ : Option Addr)) (n1 := 1) (cc := 1) (T := 3) (cs := [Value.int .i64 1]) (by kernel_rfl) h120 rfl (fun g122 h123 h124 => ?_)
            obtain ⟨x125, h126, H⟩ := bnd_some H
            refine U.step 3 (by kernel_rfl) (U.call (dst := some 97) (fun w hw => c_f10 kk (w64 (x96 + (w64 (x21)))) (w64 (x22)) [(x96, ((List.length x33.1) : Int))] [1] (some ⟨b100, 0, none⟩ : Option Addr) 1 (some ⟨b119, 0, none⟩ : Option Addr) 1 (h110.mono (GH.le_trans h114 h123)) h124 h126 hw) (by kernel_rfl) (enters_of Try.func10 (by kernel_rfl) rfl)) ?_
            rintro _ _
            refine U.seg 5 [12, 17, 18, 19, 20] [] (fun K => K [(12, Value.int .i64 x111.2), (17, Value.int .i64 (w64 (Int.tdiv (w64 ((w64 (((List.length x33.1) : Int) + (w64 (Int.tdiv (w64 ((w64 (x96 + (w64 (x21)))) + (w64 (x22)))) (w64 (x96 + (w64 (x22)))))))) - 1)) (w64 (Int.tdiv (w64 ((w64 (x96 + (w64 (x21)))) + (w64 (x22)))) (w64 (x96 + (w64 (x22))))))))), (18, Value.slice a115 (List.length x111.1) c116), (19, Value.int .i64 x125.1), (20, Value.int .i64 x125.2)] ((6, Ent.blk b104 47 [Value.int .i64 (w64 (x96 + (w64 (x21)))), Value.int .i64 (w64 (x22)), Value.slice (some ⟨b100, 0, none⟩ : Option Addr) 1 1]) :: (4, Ent.blk b41 37 [Value.slice a37 (List.length x33.1) c38]) :: fr)) (fun K => by kernel_rfl) 8 (by kernel_rfl) ?_
            refine WO.done (by kernel_rfl) ?_
            refine PO.nx ?_
            refine WP.seq (by kernel_rfl) ?_
            refine WP.join (fun s => ∃ (x133 : Bool), f3_j4 kk x133 = some r ∧ s = { n := 120, e := [(10, Value.bool x133)], d := [], g := g122, h := (fr) }) ?_ ?_
            · refine WP.reg (by kernel_rfl) ?_
              refine U.seg 3 [17, 18, 19, 20, 102] [] (fun K => K [(17, Value.int .i64 (w64 (Int.tdiv (w64 ((w64 (((List.length x33.1) : Int) + (w64 (Int.tdiv (w64 ((w64 (x96 + (w64 (x21)))) + (w64 (x22)))) (w64 (x96 + (w64 (x22)))))))) - 1)) (w64 (Int.tdiv (w64 ((w64 (x96 + (w64 (x21)))) + (w64 (x22)))) (w64 (x96 + (w64 (x22))))))))), (18, Value.slice a115 (List.length x111.1) c116), (19, Value.int .i64 x125.1), (20, Value.int .i64 x125.2), (102, Value.bool (x111.2 == 0))] ((6, Ent.blk b104 47 [Value.int .i64 (w64 (x96 + (w64 (x21)))), Value.int .i64 (w64 (x22)), Value.slice (some ⟨b100, 0, none⟩ : Option Addr) 1 1]) :: (4, Ent.blk b41 37 [Value.slice a37 (List.length x33.1) c38]) :: fr)) (fun K => by kernel_rfl) 3 (by kernel_rfl) ?_
              rcases cond_some H with ⟨h127, H⟩ | ⟨h127, H⟩
              · refine U.as (t := 102) (congrArg Value.bool h127) (by kernel_rfl) ?_
                refine U.seg 4 [17, 18, 19, 106] [] (fun K => K [(17, Value.int .i64 (w64 (Int.tdiv (w64 ((w64 (((List.length x33.1) : Int) + (w64 (Int.tdiv (w64 ((w64 (x96 + (w64 (x21)))) + (w64 (x22)))) (w64 (x96 + (w64 (x22)))))))) - 1)) (w64 (Int.tdiv (w64 ((w64 (x96 + (w64 (x21)))) + (w64 (x22)))) (w64 (x96 + (w64 (x22))))))))), (18, Value.slice a115 (List.length x111.1) c116), (19, Value.int .i64 x125.1), (106, Value.bool (x125.2 == 0))] ((6, Ent.blk b104 47 [Value.int .i64 (w64 (x96 + (w64 (x21)))), Value.int .i64 (w64 (x22)), Value.slice (some ⟨b100, 0, none⟩ : Option Addr) 1 1]) :: (4, Ent.blk b41 37 [Value.slice a37 (List.length x33.1) c38]) :: fr)) (fun K => by kernel_rfl) 7 (by kernel_rfl) ?_
                rcases cond_some H with ⟨h128, H⟩ | ⟨h128, H⟩
                · refine U.as (t := 106) (congrArg Value.bool h128) (by kernel_rfl) ?_
                  refine U.seg 6 [17, 19, 112] [] (fun K => K [(17, Value.int .i64 (w64 (Int.tdiv (w64 ((w64 (((List.length x33.1) : Int) + (w64 (Int.tdiv (w64 ((w64 (x96 + (w64 (x21)))) + (w64 (x22)))) (w64 (x96 + (w64 (x22)))))))) - 1)) (w64 (Int.tdiv (w64 ((w64 (x96 + (w64 (x21)))) + (w64 (x22)))) (w64 (x96 + (w64 (x22))))))))), (19, Value.int .i64 x125.1), (112, Value.bool (((List.length x111.1) : Int) == (w64 (Int.tdiv (w64 ((w64 (((List.length x33.1) : Int) + (w64 (Int.tdiv (w64 ((w64 (x96 + (w64 (x21)))) + (w64 (x22)))) (w64 (x96 + (w64 (x22)))))))) - 1)) (w64 (Int.tdiv (w64 ((w64 (x96 + (w64 (x21)))) + (w64 (x22)))) (w64 (x96 + (w64 (x22))))))))))] ((6, Ent.blk b104 47 [Value.int .i64 (w64 (x96 + (w64 (x21)))), Value.int .i64 (w64 (x22)), Value.slice (some ⟨b100, 0, none⟩ : Option Addr) 1 1]) :: (4, Ent.blk b41 37 [Value.slice a37 (List.length x33.1) c38]) :: fr)) (fun K => by kernel_rfl) 13 (by kernel_rfl) ?_
                  rcases cond_some H with ⟨h129, H⟩ | ⟨h129, H⟩
                  · refine U.as (t := 112) (congrArg Value.bool h129) (by kernel_rfl) ?_
                    refine U.seg 5 [117] [] (fun K => K [(117, Value.bool (x125.1 == (w64 (Int.tdiv (w64 ((w64 (((List.length x33.1) : Int) + (w64 (Int.tdiv (w64 ((w64 (x96 + (w64 (x21)))) + (w64 (x22)))) (w64 (x96 + (w64 (x22)))))))) - 1)) (w64 (Int.tdiv (w64 ((w64 (x96 + (w64 (x21)))) + (w64 (x22)))) (w64 (x96 + (w64 (x22))))))))))] ((6, Ent.blk b104 47 [Value.int .i64 (w64 (x96 + (w64 (x21)))), Value.int .i64 (w64 (x22)), Value.slice (some ⟨b100, 0, none⟩ : Option Addr) 1 1]) :: (4, Ent.blk b41 37 [Value.slice a37 (List.length x33.1) c38]) :: fr)) (fun K => by kernel_rfl) 18 (by kernel_rfl) ?_
                    rcases cond_some H with ⟨h130, H⟩ | ⟨h130, H⟩
                    · refine U.as (t := 117) (congrArg Value.bool h130) (by kernel_rfl) ?_
                      obtain ⟨x131, h132, H⟩ := bnd_some H
                      refine U.step 19 (by kernel_rfl) (U.call (dst := some 118) (fun w hw => c_f7 kk h132 hw) (by kernel_rfl) (enters_of Try.func7 (by kernel_rfl) rfl)) ?_
                      rintro _ _
                      refine U.seg 2 [10] [] (fun K => K [(10, Value.bool x131)] ((6, Ent.blk b104 47 [Value.int .i64 (w64 (x96 + (w64 (x21)))), Value.int .i64 (w64 (x22)), Value.slice (some ⟨b100, 0, none⟩ : Option Addr) 1 1]) :: (4, Ent.blk b41 37 [Value.slice a37 (List.length x33.1) c38]) :: fr)) (fun K => by kernel_rfl) 21 (by kernel_rfl) ?_
                      refine WO.done (by kernel_rfl) ?_
                      refine PO.jn ⟨x131, H, rfl⟩ ?_
                      exact (St.ok.to [10] 2 [] (by kernel_rfl) rfl (by kernel_rfl) rfl rfl (by kernel_rfl))
                    · refine U.as (t := 117) (congrArg Value.bool h130) (by kernel_rfl) ?_
                      refine U.seg 3 [10] [] (fun K => K [(10, Value.bool false)] ((6, Ent.blk b104 47 [Value.int .i64 (w64 (x96 + (w64 (x21)))), Value.int .i64 (w64 (x22)), Value.slice (some ⟨b100, 0, none⟩ : Option Addr) 1 1]) :: (4, Ent.blk b41 37 [Value.slice a37 (List.length x33.1) c38]) :: fr)) (fun K => by kernel_rfl) 21 (by kernel_rfl) ?_
                      refine WO.done (by kernel_rfl) ?_
                      refine PO.jn ⟨false, H, rfl⟩ ?_
                      exact (St.ok.to [10] 2 [] (by kernel_rfl) rfl (by kernel_rfl) rfl rfl (by kernel_rfl))
                  · refine U.as (t := 112) (congrArg Value.bool h129) (by kernel_rfl) ?_
                    refine U.seg 8 [10] [] (fun K => K [(10, Value.bool false)] ((6, Ent.blk b104 47 [Value.int .i64 (w64 (x96 + (w64 (x21)))), Value.int .i64 (w64 (x22)), Value.slice (some ⟨b100, 0, none⟩ : Option Addr) 1 1]) :: (4, Ent.blk b41 37 [Value.slice a37 (List.length x33.1) c38]) :: fr)) (fun K => by kernel_rfl) 21 (by kernel_rfl) ?_
                    refine WO.done (by kernel_rfl) ?_
                    refine PO.jn ⟨false, H, rfl⟩ ?_
                    exact (St.ok.to [10] 2 [] (by kernel_rfl) rfl (by kernel_rfl) rfl rfl (by kernel_rfl))
                · refine U.as (t := 106) (congrArg Value.bool h128) (by kernel_rfl) ?_
                  refine U.seg 14 [10] [] (fun K => K [(10, Value.bool false)] ((6, Ent.blk b104 47 [Value.int .i64 (w64 (x96 + (w64 (x21)))), Value.int .i64 (w64 (x22)), Value.slice (some ⟨b100, 0, none⟩ : Option Addr) 1 1]) :: (4, Ent.blk b41 37 [Value.slice a37 (List.length x33.1) c38]) :: fr)) (fun K => by kernel_rfl) 21 (by kernel_rfl) ?_
                  refine WO.done (by kernel_rfl) ?_
                  refine PO.jn ⟨false, H, rfl⟩ ?_
                  exact (St.ok.to [10] 2 [] (by kernel_rfl) rfl (by kernel_rfl) rfl rfl (by kernel_rfl))
              · refine U.as (t := 102) (congrArg Value.bool h127) (by kernel_rfl) ?_
                refine U.seg 18 [10] [] (fun K => K [(10, Value.bool false)] ((6, Ent.blk b104 47 [Value.int .i64 (w64 (x96 + (w64 (x21)))), Value.int .i64 (w64 (x22)), Value.slice (some ⟨b100, 0, none⟩ : Option Addr) 1 1]) :: (4, Ent.blk b41 37 [Value.slice a37 (List.length x33.1) c38]) :: fr)) (fun K => by kernel_rfl) 21 (by kernel_rfl) ?_
                refine WO.done (by kernel_rfl) ?_
                refine PO.jn ⟨false, H, rfl⟩ ?_
                exact (St.ok.to [10] 2 [] (by kernel_rfl) rfl (by kernel_rfl) rfl rfl (by kernel_rfl))
            · rintro _ ⟨x133, H, rfl⟩
              unfold f3_j4 at H
              refine PO.nx ?_
              refine WP.ret (by kernel_rfl) ?_
              have hr := Option.some.inj H
              subst hr
              refine PO.body [Value.bool x133] (fr) rfl (Res.tmp (by kernel_rfl) Res.nil) ?_
              exact fun w hw => Ret.mk () trivial rfl (Ok.gweak (GH.le_trans (GH.le_trans (GH.le_trans h36 h109) h114) h123) (okNT 0 [] (by kernel_rfl) rfl hw))

end Go.Proofs.Ytmkjcahdjphimaa
