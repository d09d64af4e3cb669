/- printed: the walks -/
import Derived.Test.YtmkjcahdjphimaaRSP2
namespace Go.Proofs.Ytmkjcahdjphimaa
open Go Go.Eng
set_option maxRecDepth 100000 in
theorem c_f29 (kk : Nat) (x1 : (List (Int × Int))) (x5 : (List ((Int × Int) × (Int × Int)))) (a2 : Option Addr) (c3 : Nat) (a6 : Option Addr) (c7 : Nat) {g : GH} (h9 : Sl (Kd.pair (Kd.int .i64) (Kd.int .i64)) g a2 (List.length x1) c3 x1) (h10 : Sl (Kd.pair (Kd.pair (Kd.int .i64) (Kd.int .i64)) (Kd.pair (Kd.int .i64) (Kd.int .i64))) g a6 (List.length x5) c7 x5) {r : Int} (H : m_f29 kk x1 x5 = some r) {fr : Hs} {w : World} (hw : Ok g (fr) w) :
    Calls Try.prog 29 (List.toArray [Value.agg #[Value.slice a2 (List.length x1) c3, Value.slice a6 (List.length x5) c7]]) w (Ret (fun _ : Unit => True) (fun _ => Value.int .i64 r) (fun _ => g) (fun _ => (fr))) := by
  refine fn_wp (args := [Value.agg #[Value.slice a2 (List.length x1) c3, Value.slice a6 (List.length x5) c7]]) (c := C_29) Try.func29 (by kernel_rfl) Try.ntmps29 (by kernel_rfl) ?_ hw
  unfold m_f29 at H
  refine WP.seq (by kernel_rfl) ?_
  refine WP.reg (by kernel_rfl) ?_
  refine U.seg 2 [1] [(0, .al 1)] (fun K => ∀ b11 : Nat, K [(1, Value.pointer (some ⟨b11, 0, none⟩))] ((1, Ent.blk b11 25 [Value.slice a2 (List.length x1) c3, Value.slice a6 (List.length x5) c7]) :: fr)) (fun K => by kernel_rfl) 2 (by kernel_rfl) ?_
  intro b11
  refine WO.done (by kernel_rfl) ?_
  refine PO.nx ?_
  refine WP.seq (by kernel_rfl) ?_
  refine WP.reg (by kernel_rfl) ?_
  refine U.seg 3 [1, 3] [(1, .ld 1)] (fun K => (b11 = b11) ∧ (K [(1, Value.pointer (some ⟨b11, 0, none⟩)), (3, Value.slice a2 (List.length x1) c3)] ((1, Ent.blk b11 25 [Value.slice a2 (List.length x1) c3, Value.slice a6 (List.length x5) c7]) :: fr))) (fun K => by kernel_rfl) 3 (by kernel_rfl) ?_
  refine ⟨rfl, ?_⟩
  refine WO.done (by kernel_rfl) ?_
  refine PO.nx ?_
  refine WP.seq (by kernel_rfl) ?_
  refine WP.block (id := 0) (by kernel_rfl) ?_
  refine WP.seq (by kernel_rfl) ?_
  refine WP.reg (by kernel_rfl) ?_
  refine U.seg 4 [1, 3, 21] [] (fun K => K [(1, Value.pointer (some ⟨b11, 0, none⟩)), (3, Value.slice a2 (List.length x1) c3), (21, Value.bool (decide (((List.length x1) : Int) > 12)))] ((1, Ent.blk b11 25 [Value.slice a2 (List.length x1) c3, Value.slice a6 (List.length x5) c7]) :: fr)) (fun K => by kernel_rfl) 4 (by kernel_rfl) ?_
  refine WO.done (by kernel_rfl) ?_
  refine PO.nx ?_
  rcases cond_some H with ⟨h12, H⟩ | ⟨h12, H⟩
  · refine U.asW (t := 21) (congrArg Value.bool h12) (by kernel_rfl) ?_
    refine WP.condT (by kernel_rfl) ?_
    refine WP.seq (by kernel_rfl) ?_
    refine WP.reg (by kernel_rfl) ?_
    refine U.seg 1 [2] [] (fun K => K [(2, Value.int .i64 3)] ((1, Ent.blk b11 25 [Value.slice a2 (List.length x1) c3, Value.slice a6 (List.length x5) c7]) :: fr)) (fun K => by kernel_rfl) 1 (by kernel_rfl) ?_
    refine WO.done (by kernel_rfl) ?_
    refine PO.nx ?_
    refine WP.ret (by kernel_rfl) ?_
    refine PO.blk_ret ?_
    refine PO.nx_ret ?_
    have hr := Option.some.inj H
    subst hr
    refine PO.body [Value.int .i64 3] ((1, Ent.blk b11 25 [Value.slice a2 (List.length x1) c3, Value.slice a6 (List.length x5) c7]) :: fr) rfl (Res.tmp (by kernel_rfl) Res.nil) ?_
    exact fun w hw => Ret.mk () trivial rfl (okNT 1 [] (by kernel_rfl) rfl hw)
  · refine U.asW (t := 21) (congrArg Value.bool h12) (by kernel_rfl) ?_
    refine WP.condF (by kernel_rfl) ?_
    refine WP.seq (by kernel_rfl) ?_
    refine WP.reg (by kernel_rfl) ?_
    refine U.seg 4 [1, 3, 25] [] (fun K => K [(1, Value.pointer (some ⟨b11, 0, none⟩)), (3, Value.slice a2 (List.length x1) c3), (25, Value.bool (decide (((List.length x1) : Int) < 3)))] ((1, Ent.blk b11 25 [Value.slice a2 (List.length x1) c3, Value.slice a6 (List.length x5) c7]) :: fr)) (fun K => by kernel_rfl) 4 (by kernel_rfl) ?_
    refine WO.done (by kernel_rfl) ?_
    refine PO.nx ?_
    rcases cond_some H with ⟨h13, H⟩ | ⟨h13, H⟩
    · refine U.asW (t := 25) (congrArg Value.bool h13) (by kernel_rfl) ?_
      refine WP.condT (by kernel_rfl) ?_
      refine WP.seq (by kernel_rfl) ?_
      refine WP.reg (by kernel_rfl) ?_
      refine U.seg 1 [2] [] (fun K => K [(2, Value.int .i64 1)] ((1, Ent.blk b11 25 [Value.slice a2 (List.length x1) c3, Value.slice a6 (List.length x5) c7]) :: fr)) (fun K => by kernel_rfl) 1 (by kernel_rfl) ?_
      refine WO.done (by kernel_rfl) ?_
      refine PO.nx ?_
      refine WP.ret (by kernel_rfl) ?_
      refine PO.blk_ret ?_
      refine PO.nx_ret ?_
      have hr := Option.some.inj H
      subst hr
      refine PO.body [Value.int .i64 1] ((1, Ent.blk b11 25 [Value.slice a2 (List.length x1) c3, Value.slice a6 (List.length x5) c7]) :: fr) rfl (Res.tmp (by kernel_rfl) Res.nil) ?_
      exact fun w hw => Ret.mk () trivial rfl (okNT 1 [] (by kernel_rfl) rfl hw)
    · refine U.asW (t := 25) (congrArg Value.bool h13) (by kernel_rfl) ?_
      refine WP.condF (by kernel_rfl) ?_
      refine WP.skip (by kernel_rfl) ?_
      refine PO.blk_normal ?_
      refine PO.nx ?_
      refine WP.seq (by kernel_rfl) ?_
      refine WP.seq (by kernel_rfl) ?_
      refine WP.reg (by kernel_rfl) ?_
      refine U.seg 3 [1, 3, 29, 30, 31] [] (fun K => K [(1, Value.pointer (some ⟨b11, 0, none⟩)), (3, Value.slice a2 (List.length x1) c3), (29, Value.slice a2 (List.length x1) c3), (30, Value.int .i64 ((List.length x1) : Int)), (31, Value.int .i64 0)] ((1, Ent.blk b11 25 [Value.slice a2 (List.length x1) c3, Value.slice a6 (List.length x5) c7]) :: fr)) (fun K => by kernel_rfl) 3 (by kernel_rfl) ?_
      refine WO.done (by kernel_rfl) ?_
      refine PO.nx ?_
      refine WP.join (fun s => f29_j5 kk x1 x5 = some r ∧ s = { n := 241, e := [(1, Value.pointer (some ⟨b11, 0, none⟩)), (3, Value.slice a2 (List.length x1) c3)], d := [], g := g, h := ((1, Ent.blk b11 25 [Value.slice a2 (List.length x1) c3, Value.slice a6 (List.length x5) c7]) :: fr) }) ?_ ?_
      · refine WP.block (id := 1) (by kernel_rfl) ?_
        obtain ⟨o56, h82, h59⟩ := bnd_some H
        refine WP.loopW (by kernel_rfl) (fun n s => ∃ (x55 : Int), iter (fun y : Int => f29_l3 kk y x1 x5) n x55 = some o56 ∧ s = { n := 241, e := [(1, Value.pointer (some ⟨b11, 0, none⟩)), (3, Value.slice a2 (List.length x1) c3), (29, Value.slice a2 (List.length x1) c3), (30, Value.int .i64 ((List.length x1) : Int)), (31, Value.int .i64 x55)], d := [], g := g, h := ((1, Ent.blk b11 25 [Value.slice a2 (List.length x1) c3, Value.slice a6 (List.length x5) c7]) :: fr) }) (k := kk) ⟨0, h82, rfl⟩ (St.ok.to [1, 3, 29, 30, 31] 1 [(1, 0)] (by kernel_rfl) rfl (by kernel_rfl) rfl rfl (by kernel_rfl)) ?_
        intro n77 s
        rintro ⟨x55, h78, rfl⟩
        obtain ⟨n60, q57, h80, h81, h58⟩ := iter_some h78
        subst h80
        have H : f29_l3 kk x55 x1 x5 = some q57 := h81
        unfold f29_l3 at H
        refine WP.seq (by kernel_rfl) ?_
        refine WP.reg (by kernel_rfl) ?_
        refine U.seg 1 [1, 3, 29, 30, 31, 32] [] (fun K => K [(1, Value.pointer (some ⟨b11, 0, none⟩)), (3, Value.slice a2 (List.length x1) c3), (29, Value.slice a2 (List.length x1) c3), (30, Value.int .i64 ((List.length x1) : Int)), (31, Value.int .i64 x55), (32, Value.bool (decide (x55 < ((List.length x1) : Int))))] ((1, Ent.blk b11 25 [Value.slice a2 (List.length x1) c3, Value.slice a6 (List.length x5) c7]) :: fr)) (fun K => by kernel_rfl) 1 (by kernel_rfl) ?_
        refine WO.done (by kernel_rfl) ?_
        refine PO.nx ?_
        refine WP.seq (by kernel_rfl) ?_
        rcases cond_some H with ⟨h61, H⟩ | ⟨h61, H⟩
        · refine U.asW (t := 32) (congrArg Value.bool h61) (by kernel_rfl) ?_
          refine WP.condT (by kernel_rfl) ?_
          refine WP.skip (by kernel_rfl) ?_
          refine PO.nx ?_
          refine WP.seq (by kernel_rfl) ?_
          refine WP.block (id := 2) (by kernel_rfl) ?_
          refine WP.seq (by kernel_rfl) ?_
          refine WP.reg (by kernel_rfl) ?_
          obtain ⟨x62, h63, H⟩ := bnd_some H
          obtain ⟨h64, s65, h66, h67⟩ := Sl.at' (d := (Kd.pair (Kd.int .i64) (Kd.int .i64))) h9 h63
          obtain ⟨_, _, rfl, rfl, rfl⟩ := h66
          refine U.seg 4 [1, 3, 5, 29, 30, 31] [(0, .s), (1, .lg (Value.agg #[Value.int .i64 x62.1, Value.int .i64 x62.2])), (2, .al 4), (3, .st 4)] (fun K => ((0 : Int) ≤ x55 ∧ x55 < ((List.length x1) : Nat) ∧ FlatA a2 (List.length x1)) ∧ ((GLoad g ⟨ab a2, ao a2 + (Int.toNat (x55)) * 2, none⟩ true 2 (Value.agg #[Value.int .i64 x62.1, Value.int .i64 x62.2])) ∧ (∀ b68 : Nat, (b68 = b68) ∧ (K [(1, Value.pointer (some ⟨b11, 0, none⟩)), (3, Value.slice a2 (List.length x1) c3), (5, Value.pointer (some ⟨b68, 0, none⟩)), (29, Value.slice a2 (List.length x1) c3), (30, Value.int .i64 ((List.length x1) : Int)), (31, Value.int .i64 x55)] ((4, Ent.blk b68 42 [Value.int .i64 x62.1, Value.int .i64 x62.2]) :: (1, Ent.blk b11 25 [Value.slice a2 (List.length x1) c3, Value.slice a6 (List.length x5) c7]) :: fr))))) (fun K => by kernel_rfl) 4 (by kernel_rfl) ?_
          refine ⟨h64, ?_⟩
          refine ⟨(h67 _ 0 _ _ _ rfl rfl rfl (OwnRead.agg rfl rfl)), ?_⟩
          intro b68
          refine ⟨rfl, ?_⟩
          refine WO.done (by kernel_rfl) ?_
          refine PO.nx ?_
          refine WP.seq (by kernel_rfl) ?_
          refine WP.join (fun s => ∃ (x74 : Bool), f29_j4 kk x74 x55 = some q57 ∧ s = { n := 241, e := [(1, Value.pointer (some ⟨b11, 0, none⟩)), (3, Value.slice a2 (List.length x1) c3), (29, Value.slice a2 (List.length x1) c3), (30, Value.int .i64 ((List.length x1) : Int)), (31, Value.int .i64 x55), (44, Value.bool x74)], d := [], g := g, h := ((1, Ent.blk b11 25 [Value.slice a2 (List.length x1) c3, Value.slice a6 (List.length x5) c7]) :: fr) }) ?_ ?_
          · refine WP.reg (by kernel_rfl) ?_
            refine U.seg 2 [1, 3, 5, 29, 30, 31, 36] [(1, .ld 4)] (fun K => (b68 = b68) ∧ (K [(1, Value.pointer (some ⟨b11, 0, none⟩)), (3, Value.slice a2 (List.length x1) c3), (5, Value.pointer (some ⟨b68, 0, none⟩)), (29, Value.slice a2 (List.length x1) c3), (30, Value.int .i64 ((List.length x1) : Int)), (31, Value.int .i64 x55), (36, Value.int .i64 x62.1)] ((4, Ent.blk b68 42 [Value.int .i64 x62.1, Value.int .i64 x62.2]) :: (1, Ent.blk b11 25 [Value.slice a2 (List.length x1) c3, Value.slice a6 (List.length x5) c7]) :: fr))) (fun K => by kernel_rfl) 2 (by kernel_rfl) ?_
            refine ⟨rfl, ?_⟩
            obtain ⟨x69, h70, H⟩ := bnd_some H
            refine U.step 3 (by kernel_rfl) (U.call (dst := some 37) (fun w hw => c_f67 kk x62.1 0 400 h70 hw) (by kernel_rfl) (enters_of Try.func67 (by kernel_rfl) rfl)) ?_
            rintro _ _
            refine U.seg 2 [1, 3, 5, 29, 30, 31, 39] [] (fun K => K [(1, Value.pointer (some ⟨b11, 0, none⟩)), (3, Value.slice a2 (List.length x1) c3), (5, Value.pointer (some ⟨b68, 0, none⟩)), (29, Value.slice a2 (List.length x1) c3), (30, Value.int .i64 ((List.length x1) : Int)), (31, Value.int .i64 x55), (39, Value.bool (!x69))] ((4, Ent.blk b68 42 [Value.int .i64 x62.1, Value.int .i64 x62.2]) :: (1, Ent.blk b11 25 [Value.slice a2 (List.length x1) c3, Value.slice a6 (List.length x5) c7]) :: fr)) (fun K => by kernel_rfl) 5 (by kernel_rfl) ?_
            rcases cond_some H with ⟨h71, H⟩ | ⟨h71, H⟩
            · refine U.as (t := 39) (congrArg Value.bool h71) (by kernel_rfl) ?_
              refine U.seg 5 [1, 3, 29, 30, 31, 40, 41, 42, 43, 44] [] (fun K => K [(1, Value.pointer (some ⟨b11, 0, none⟩)), (3, Value.slice a2 (List.length x1) c3), (29, Value.slice a2 (List.length x1) c3), (30, Value.int .i64 ((List.length x1) : Int)), (31, Value.int .i64 x55), (40, undef), (41, undef), (42, undef), (43, undef), (44, Value.bool true)] ((4, Ent.blk b68 42 [Value.int .i64 x62.1, Value.int .i64 x62.2]) :: (1, Ent.blk b11 25 [Value.slice a2 (List.length x1) c3, Value.slice a6 (List.length x5) c7]) :: fr)) (fun K => by kernel_rfl) 10 (by kernel_rfl) ?_
              refine WO.done (by kernel_rfl) ?_
              refine PO.jn ⟨true, H, rfl⟩ ?_
              exact (St.ok.to [1, 3, 29, 30, 31, 44] 2 [(1, 1)] (by kernel_rfl) rfl (by kernel_rfl) rfl rfl (by kernel_rfl))
            · refine U.as (t := 39) (congrArg Value.bool h71) (by kernel_rfl) ?_
              refine U.seg 2 [1, 3, 29, 30, 31, 39, 40, 41] [(6, .ld 4)] (fun K => (b68 = b68) ∧ (K [(1, Value.pointer (some ⟨b11, 0, none⟩)), (3, Value.slice a2 (List.length x1) c3), (29, Value.slice a2 (List.length x1) c3), (30, Value.int .i64 ((List.length x1) : Int)), (31, Value.int .i64 x55), (39, Value.bool false), (40, Value.pointer (some ⟨b68, 1, none⟩)), (41, Value.int .i64 x62.2)] ((4, Ent.blk b68 42 [Value.int .i64 x62.1, Value.int .i64 x62.2]) :: (1, Ent.blk b11 25 [Value.slice a2 (List.length x1) c3, Value.slice a6 (List.length x5) c7]) :: fr))) (fun K => by kernel_rfl) 7 (by kernel_rfl) ?_
              refine ⟨rfl, ?_⟩
              obtain ⟨x72, h73, H⟩ := bnd_some H
              refine U.step 8 (by kernel_rfl) (U.call (dst := some 42) (fun w hw => c_f67 kk x62.2 0 400 h73 hw) (by kernel_rfl) (enters_of Try.func67 (by kernel_rfl) rfl)) ?_
              rintro _ _
              refine U.seg 2 [1, 3, 29, 30, 31, 40, 41, 42, 43, 44] [] (fun K => K [(1, Value.pointer (some ⟨b11, 0, none⟩)), (3, Value.slice a2 (List.length x1) c3), (29, Value.slice a2 (List.length x1) c3), (30, Value.int .i64 ((List.length x1) : Int)), (31, Value.int .i64 x55), (40, Value.pointer (some ⟨b68, 1, none⟩)), (41, Value.int .i64 x62.2), (42, Value.bool x72), (43, Value.bool (!x72)), (44, Value.bool (!x72))] ((4, Ent.blk b68 42 [Value.int .i64 x62.1, Value.int .i64 x62.2]) :: (1, Ent.blk b11 25 [Value.slice a2 (List.length x1) c3, Value.slice a6 (List.length x5) c7]) :: fr)) (fun K => by kernel_rfl) 10 (by kernel_rfl) ?_
              refine WO.done (by kernel_rfl) ?_
              refine PO.jn ⟨(!x72), H, rfl⟩ ?_
              exact (St.ok.to [1, 3, 29, 30, 31, 44] 2 [(1, 1)] (by kernel_rfl) rfl (by kernel_rfl) rfl rfl (by kernel_rfl))
          · rintro _ ⟨x74, H, rfl⟩
            unfold f29_j4 at H
            refine PO.nx ?_
            rcases cond_some H with ⟨h75, H⟩ | ⟨h75, H⟩
            · refine U.asW (t := 44) (congrArg Value.bool h75) (by kernel_rfl) ?_
              refine WP.condT (by kernel_rfl) ?_
              refine WP.seq (by kernel_rfl) ?_
              refine WP.reg (by kernel_rfl) ?_
              refine U.seg 1 [2] [] (fun K => K [(2, Value.int .i64 1)] ((1, Ent.blk b11 25 [Value.slice a2 (List.length x1) c3, Value.slice a6 (List.length x5) c7]) :: fr)) (fun K => by kernel_rfl) 1 (by kernel_rfl) ?_
              refine WO.done (by kernel_rfl) ?_
              refine PO.nx ?_
              refine WP.ret (by kernel_rfl) ?_
              refine PO.blk_ret ?_
              refine PO.nx_ret ?_
              refine PO.lp_ret ?_
              refine PO.blk_ret ?_
              refine PO.jn_ret ?_
              refine PO.nx_ret ?_
              have hq := Option.some.inj H
              subst hq
              have H := h59
              rw [← (show _ = o56 from h58)] at H
              have H : some 1 = some r := H
              have hr := Option.some.inj H
              subst hr
              refine PO.body [Value.int .i64 1] ((1, Ent.blk b11 25 [Value.slice a2 (List.length x1) c3, Value.slice a6 (List.length x5) c7]) :: fr) rfl (Res.tmp (by kernel_rfl) Res.nil) ?_
              exact fun w hw => Ret.mk () trivial rfl (okNT 1 [] (by kernel_rfl) rfl hw)
            · refine U.asW (t := 44) (congrArg Value.bool h75) (by kernel_rfl) ?_
              refine WP.condF (by kernel_rfl) ?_
              refine WP.skip (by kernel_rfl) ?_
              refine PO.blk_normal ?_
              refine PO.nx ?_
              refine WP.reg (by kernel_rfl) ?_
              refine U.seg 2 [1, 3, 29, 30, 31] [] (fun K => K [(1, Value.pointer (some ⟨b11, 0, none⟩)), (3, Value.slice a2 (List.length x1) c3), (29, Value.slice a2 (List.length x1) c3), (30, Value.int .i64 ((List.length x1) : Int)), (31, Value.int .i64 (w64 (x55 + 1)))] ((1, Ent.blk b11 25 [Value.slice a2 (List.length x1) c3, Value.slice a6 (List.length x5) c7]) :: fr)) (fun K => by kernel_rfl) 2 (by kernel_rfl) ?_
              refine WO.done (by kernel_rfl) ?_
              have hq := Option.some.inj H
              subst hq
              refine PO.againW ⟨(w64 (x55 + 1)), h58, rfl⟩ ?_ (Nat.lt_succ_self _)
              exact (St.ok.to [1, 3, 29, 30, 31] 1 [(1, 0)] (by kernel_rfl) rfl (by kernel_rfl) rfl rfl (by kernel_rfl))
        · refine U.asW (t := 32) (congrArg Value.bool h61) (by kernel_rfl) ?_
          refine WP.condF (by kernel_rfl) ?_
          refine WP.exit (id := 1) (by kernel_rfl) ?_
          refine PO.nx_exit ?_
          refine PO.lp_exit ?_
          refine PO.blk_exit ?_
          have hq := Option.some.inj H
          subst hq
          have H := h59
          rw [← (show _ = o56 from h58)] at H
          have H : f29_j5 kk x1 x5 = some r := H
          refine PO.jn ⟨H, rfl⟩ ?_
          exact (St.ok.to [1, 3] 1 [(1, 0)] (by kernel_rfl) rfl (by kernel_rfl) rfl rfl (by kernel_rfl))
      · rintro _ ⟨H, rfl⟩
        unfold f29_j5 at H
        refine PO.nx ?_
        refine WP.seq (by kernel_rfl) ?_
        refine WP.seq (by kernel_rfl) ?_
        refine WP.reg (by kernel_rfl) ?_
        refine U.seg 3 [1, 3, 46, 47, 48] [] (fun K => K [(1, Value.pointer (some ⟨b11, 0, none⟩)), (3, Value.slice a2 (List.length x1) c3), (46, Value.slice a2 (List.length x1) c3), (47, Value.int .i64 ((List.length x1) : Int)), (48, Value.int .i64 0)] ((1, Ent.blk b11 25 [Value.slice a2 (List.length x1) c3, Value.slice a6 (List.length x5) c7]) :: fr)) (fun K => by kernel_rfl) 3 (by kernel_rfl) ?_
        refine WO.done (by kernel_rfl) ?_
        refine PO.nx ?_
        refine WP.join (fun s => f29_j7 kk x1 x5 = some r ∧ s = { n := 241, e := [(1, Value.pointer (some ⟨b11, 0, none⟩)), (3, Value.slice a2 (List.length x1) c3)], d := [], g := g, h := ((1, Ent.blk b11 25 [Value.slice a2 (List.length x1) c3, Value.slice a6 (List.length x5) c7]) :: fr) }) ?_ ?_
        · refine WP.block (id := 3) (by kernel_rfl) ?_
          obtain ⟨o133, h163, h136⟩ := bnd_some H
          refine WP.loopW (by kernel_rfl) (fun n s => ∃ (x132 : Int), iter (fun y : Int => f29_l6 kk y x1 x5) n x132 = some o133 ∧ s = { n := 241, e := [(1, Value.pointer (some ⟨b11, 0, none⟩)), (3, Value.slice a2 (List.length x1) c3), (46, Value.slice a2 (List.length x1) c3), (47, Value.int .i64 ((List.length x1) : Int)), (48, Value.int .i64 x132)], d := [], g := g, h := ((1, Ent.blk b11 25 [Value.slice a2 (List.length x1) c3, Value.slice a6 (List.length x5) c7]) :: fr) }) (k := kk) ⟨0, h163, rfl⟩ (St.ok.to [1, 3, 46, 47, 48] 1 [(1, 0)] (by kernel_rfl) rfl (by kernel_rfl) rfl rfl (by kernel_rfl)) ?_
          intro n158 s
          rintro ⟨x132, h159, rfl⟩
          obtain ⟨n137, q134, h161, h162, h135⟩ := iter_some h159
          subst h161
          have H : f29_l6 kk x132 x1 x5 = some q134 := h162
          unfold f29_l6 at H
          refine WP.seq (by kernel_rfl) ?_
          refine WP.reg (by kernel_rfl) ?_
          refine U.seg 1 [1, 3, 46, 47, 48, 49] [] (fun K => K [(1, Value.pointer (some ⟨b11, 0, none⟩)), (3, Value.slice a2 (List.length x1) c3), (46, Value.slice a2 (List.length x1) c3), (47, Value.int .i64 ((List.length x1) : Int)), (48, Value.int .i64 x132), (49, Value.bool (decide (x132 < ((List.length x1) : Int))))] ((1, Ent.blk b11 25 [Value.slice a2 (List.length x1) c3, Value.slice a6 (List.length x5) c7]) :: fr)) (fun K => by kernel_rfl) 1 (by kernel_rfl) ?_
          refine WO.done (by kernel_rfl) ?_
          refine PO.nx ?_
          refine WP.seq (by kernel_rfl) ?_
          rcases cond_some H with ⟨h138, H⟩ | ⟨h138, H⟩
          · refine U.asW (t := 49) (congrArg Value.bool h138) (by kernel_rfl) ?_
            refine WP.condT (by kernel_rfl) ?_
            refine WP.skip (by kernel_rfl) ?_
            refine PO.nx ?_
            refine WP.seq (by kernel_rfl) ?_
            refine WP.block (id := 4) (by kernel_rfl) ?_
            refine WP.seq (by kernel_rfl) ?_
            refine WP.reg (by kernel_rfl) ?_
            obtain ⟨x139, h140, H⟩ := bnd_some H
            obtain ⟨h141, s142, h143, h144⟩ := Sl.at' (d := (Kd.pair (Kd.int .i64) (Kd.int .i64))) h9 h140
            obtain ⟨_, _, rfl, rfl, rfl⟩ := h143
            refine U.seg 6 [1, 3, 6, 7, 46, 47, 48] [(1, .s), (2, .lg (Value.agg #[Value.int .i64 x139.1, Value.int .i64 x139.2])), (3, .al 7), (5, .st 7)] (fun K => ((0 : Int) ≤ x132 ∧ x132 < ((List.length x1) : Nat) ∧ FlatA a2 (List.length x1)) ∧ ((GLoad g ⟨ab a2, ao a2 + (Int.toNat (x132)) * 2, none⟩ true 2 (Value.agg #[Value.int .i64 x139.1, Value.int .i64 x139.2])) ∧ (∀ b145 : Nat, (b145 = b145) ∧ (K [(1, Value.pointer (some ⟨b11, 0, none⟩)), (3, Value.slice a2 (List.length x1) c3), (6, Value.int .i64 x132), (7, Value.pointer (some ⟨b145, 0, none⟩)), (46, Value.slice a2 (List.length x1) c3), (47, Value.int .i64 ((List.length x1) : Int)), (48, Value.int .i64 x132)] ((7, Ent.blk b145 42 [Value.int .i64 x139.1, Value.int .i64 x139.2]) :: (1, Ent.blk b11 25 [Value.slice a2 (List.length x1) c3, Value.slice a6 (List.length x5) c7]) :: fr))))) (fun K => by kernel_rfl) 6 (by kernel_rfl) ?_
            refine ⟨h141, ?_⟩
            refine ⟨(h144 _ 0 _ _ _ rfl rfl rfl (OwnRead.agg rfl rfl)), ?_⟩
            intro b145
            refine ⟨rfl, ?_⟩
            refine WO.done (by kernel_rfl) ?_
            refine PO.nx ?_
            refine WP.seq (by kernel_rfl) ?_
            refine U.draw [] g [(7, Ent.blk b145 42 [Value.int .i64 x139.1, Value.int .i64 x139.2]), (1, Ent.blk b11 25 [Value.slice a2 (List.length x1) c3, Value.slice a6 (List.length x5) c7])] (by kernel_rfl) (by kernel_rfl) 5 (by kernel_rfl) (fun w hw => Ok.pickTo [(7, 0), (1, 1)] (by kernel_rfl) (by kernel_rfl) (GH.le_refl _) hw) ?_
            obtain ⟨h151, H⟩ := grd_some H
            have h152q : Sl (Kd.pair (Kd.int .i64) (Kd.int .i64)) g (subA a2 c3 0 2) (Int.toNat (x132)) c3 (List.take (Int.toNat (x132)) x1) := slsub_h h9 (by have h0 := h151; omega)
            have h152n := h152q.len
            have h152 := slen h152q
            refine U.take 2 [0, 1, 2] [1, 3, 7, 46, 47, 48, 55] [2, 1, 0] [(2, .s)] (fun K => ((0 : Int) ≤ x132 ∧ x132 ≤ (c3 : Nat)) ∧ (K [(1, Value.pointer (some ⟨b11, 0, none⟩)), (3, Value.slice a2 (List.length x1) c3), (7, Value.pointer (some ⟨b145, 0, none⟩)), (46, Value.slice a2 (List.length x1) c3), (47, Value.int .i64 ((List.length x1) : Int)), (48, Value.int .i64 x132), (55, Value.slice (subA a2 c3 0 2) (Int.toNat (x132)) c3)])) (fun K => by kernel_rfl) (by kernel_rfl) (by kernel_rfl) (by kernel_rfl) ?_
            refine ⟨(by have h1 := h9.le; have h2 := h9.len; have h0 := h151; omega), ?_⟩
            refine U.asD (t := 55) (congrArg (fun n => Value.slice (subA a2 c3 0 2) n c3) h152n) (by kernel_rfl) ?_
            refine U.take 1 [3] [1, 3, 46, 47, 48, 55, 56] [3, 2, 1, 0] [(3, .ld 7)] (fun K => (b145 = b145) ∧ (K [(1, Value.pointer (some ⟨b11, 0, none⟩)), (3, Value.slice a2 (List.length x1) c3), (46, Value.slice a2 (List.length x1) c3), (47, Value.int .i64 ((List.length x1) : Int)), (48, Value.int .i64 x132), (55, Value.slice (subA a2 c3 0 2) (List.length (List.take (Int.toNat (x132)) x1)) c3), (56, Value.agg #[Value.int .i64 x139.1, Value.int .i64 x139.2])])) (fun K => by kernel_rfl) (by kernel_rfl) (by kernel_rfl) (by kernel_rfl) ?_
            refine ⟨rfl, ?_⟩
            obtain ⟨x154, h155, H⟩ := bnd_some H
            refine U.force 0 4 (by kernel_rfl) (by kernel_rfl) (U.call (dst := some 57) (fun w hw => c_f68 kk (List.take (Int.toNat (x132)) x1) x139.1 x139.2 (subA a2 c3 0 2) c3 h152 h155 hw) (by kernel_rfl) (enters_of Try.func68 (by kernel_rfl) rfl)) ?_
            rintro _ _
            refine ⟨(fun w hw => .inr (Ok.pickTo [(7, 0), (1, 1)] (by kernel_rfl) (by kernel_rfl) (GH.le_refl _) hw)), ?_⟩
            refine WD.done (by kernel_rfl) ?_
            refine PO.nx ?_
            rcases cond_some H with ⟨h156, H⟩ | ⟨h156, H⟩
            · refine U.asW (t := 57) (congrArg Value.bool h156) (by kernel_rfl) ?_
              refine WP.condT (by kernel_rfl) ?_
              refine WP.seq (by kernel_rfl) ?_
              refine WP.reg (by kernel_rfl) ?_
              refine U.seg 1 [2] [] (fun K => K [(2, Value.int .i64 6)] ((7, Ent.blk b145 42 [Value.int .i64 x139.1, Value.int .i64 x139.2]) :: (1, Ent.blk b11 25 [Value.slice a2 (List.length x1) c3, Value.slice a6 (List.length x5) c7]) :: fr)) (fun K => by kernel_rfl) 1 (by kernel_rfl) ?_
              refine WO.done (by kernel_rfl) ?_
              refine PO.nx ?_
              refine WP.ret (by kernel_rfl) ?_
              refine PO.blk_ret ?_
              refine PO.nx_ret ?_
              refine PO.lp_ret ?_
              refine PO.blk_ret ?_
              refine PO.jn_ret ?_
              refine PO.nx_ret ?_
              have hq := Option.some.inj H
              subst hq
              have H := h136
              rw [← (show _ = o133 from h135)] at H
              have H : some 6 = some r := H
              have hr := Option.some.inj H
              subst hr
              refine PO.body [Value.int .i64 6] ((7, Ent.blk b145 42 [Value.int .i64 x139.1, Value.int .i64 x139.2]) :: (1, Ent.blk b11 25 [Value.slice a2 (List.length x1) c3, Value.slice a6 (List.length x5) c7]) :: fr) rfl (Res.tmp (by kernel_rfl) Res.nil) ?_
              exact fun w hw => Ret.mk () trivial rfl (okNT 2 [] (by kernel_rfl) rfl hw)
            · refine U.asW (t := 57) (congrArg Value.bool h156) (by kernel_rfl) ?_
              refine WP.condF (by kernel_rfl) ?_
              refine WP.skip (by kernel_rfl) ?_
              refine PO.blk_normal ?_
              refine PO.nx ?_
              refine WP.reg (by kernel_rfl) ?_
              refine U.seg 2 [1, 3, 46, 47, 48] [] (fun K => K [(1, Value.pointer (some ⟨b11, 0, none⟩)), (3, Value.slice a2 (List.length x1) c3), (46, Value.slice a2 (List.length x1) c3), (47, Value.int .i64 ((List.length x1) : Int)), (48, Value.int .i64 (w64 (x132 + 1)))] ((7, Ent.blk b145 42 [Value.int .i64 x139.1, Value.int .i64 x139.2]) :: (1, Ent.blk b11 25 [Value.slice a2 (List.length x1) c3, Value.slice a6 (List.length x5) c7]) :: fr)) (fun K => by kernel_rfl) 2 (by kernel_rfl) ?_
              refine WO.done (by kernel_rfl) ?_
              have hq := Option.some.inj H
              subst hq
              refine PO.againW ⟨(w64 (x132 + 1)), h135, rfl⟩ ?_ (Nat.lt_succ_self _)
              exact (St.ok.to [1, 3, 46, 47, 48] 2 [(1, 1)] (by kernel_rfl) rfl (by kernel_rfl) rfl rfl (by kernel_rfl))
          · refine U.asW (t := 49) (congrArg Value.bool h138) (by kernel_rfl) ?_
            refine WP.condF (by kernel_rfl) ?_
            refine WP.exit (id := 3) (by kernel_rfl) ?_
            refine PO.nx_exit ?_
            refine PO.lp_exit ?_
            refine PO.blk_exit ?_
            have hq := Option.some.inj H
            subst hq
            have H := h136
            rw [← (show _ = o133 from h135)] at H
            have H : f29_j7 kk x1 x5 = some r := H
            refine PO.jn ⟨H, rfl⟩ ?_
            exact (St.ok.to [1, 3] 1 [(1, 0)] (by kernel_rfl) rfl (by kernel_rfl) rfl rfl (by kernel_rfl))
        · rintro _ ⟨H, rfl⟩
          unfold f29_j7 at H
          refine PO.nx ?_
          refine WP.seq (by kernel_rfl) ?_
          refine WP.reg (by kernel_rfl) ?_
          refine U.seg 1 [1, 3, 8] [] (fun K => K [(1, Value.pointer (some ⟨b11, 0, none⟩)), (3, Value.slice a2 (List.length x1) c3), (8, Value.bool true)] ((1, Ent.blk b11 25 [Value.slice a2 (List.length x1) c3, Value.slice a6 (List.length x5) c7]) :: fr)) (fun K => by kernel_rfl) 1 (by kernel_rfl) ?_
          refine WO.done (by kernel_rfl) ?_
          refine PO.nx ?_
          refine WP.seq (by kernel_rfl) ?_
          refine WP.seq (by kernel_rfl) ?_
          refine WP.reg (by kernel_rfl) ?_
          refine U.seg 3 [1, 3, 8, 59, 60, 61] [] (fun K => K [(1, Value.pointer (some ⟨b11, 0, none⟩)), (3, Value.slice a2 (List.length x1) c3), (8, Value.bool true), (59, Value.slice a2 (List.length x1) c3), (60, Value.int .i64 ((List.length x1) : Int)), (61, Value.int .i64 0)] ((1, Ent.blk b11 25 [Value.slice a2 (List.length x1) c3, Value.slice a6 (List.length x5) c7]) :: fr)) (fun K => by kernel_rfl) 3 (by kernel_rfl) ?_
          refine WO.done (by kernel_rfl) ?_
          refine PO.nx ?_
          refine WP.join (fun s => ∃ (x357 : Bool), f29_j14 kk x357 x5 x1 = some r ∧ s = { n := 241, e := [(1, Value.pointer (some ⟨b11, 0, none⟩)), (3, Value.slice a2 (List.length x1) c3), (8, Value.bool x357)], d := [], g := g, h := ((1, Ent.blk b11 25 [Value.slice a2 (List.length x1) c3, Value.slice a6 (List.length x5) c7]) :: fr) }) ?_ ?_
          · refine WP.block (id := 5) (by kernel_rfl) ?_
            obtain ⟨o288, h356, h291⟩ := bnd_some H
            refine WP.loopW (by kernel_rfl) (fun n s => ∃ (x286 : Bool) (x287 : Int), iter (fun y : (Bool × Int) => f29_l11 kk y.1 y.2 x1 x5) n (x286, x287) = some o288 ∧ s = { n := 241, e := [(1, Value.pointer (some ⟨b11, 0, none⟩)), (3, Value.slice a2 (List.length x1) c3), (8, Value.bool x286), (59, Value.slice a2 (List.length x1) c3), (60, Value.int .i64 ((List.length x1) : Int)), (61, Value.int .i64 x287)], d := [], g := g, h := ((1, Ent.blk b11 25 [Value.slice a2 (List.length x1) c3, Value.slice a6 (List.length x5) c7]) :: fr) }) (k := kk) ⟨true, 0, h356, rfl⟩ (St.ok.to [1, 3, 8, 59, 60, 61] 1 [(1, 0)] (by kernel_rfl) rfl (by kernel_rfl) rfl rfl (by kernel_rfl)) ?_
            intro n351 s
            rintro ⟨x286, x287, h352, rfl⟩
            obtain ⟨n292, q289, h354, h355, h290⟩ := iter_some h352
            subst h354
            have H : f29_l11 kk x286 x287 x1 x5 = some q289 := h355
            unfold f29_l11 at H
            refine WP.seq (by kernel_rfl) ?_
            refine WP.reg (by kernel_rfl) ?_
            refine U.seg 1 [1, 3, 8, 59, 60, 61, 62] [] (fun K => K [(1, Value.pointer (some ⟨b11, 0, none⟩)), (3, Value.slice a2 (List.length x1) c3), (8, Value.bool x286), (59, Value.slice a2 (List.length x1) c3), (60, Value.int .i64 ((List.length x1) : Int)), (61, Value.int .i64 x287), (62, Value.bool (decide (x287 < ((List.length x1) : Int))))] ((1, Ent.blk b11 25 [Value.slice a2 (List.length x1) c3, Value.slice a6 (List.length x5) c7]) :: fr)) (fun K => by kernel_rfl) 1 (by kernel_rfl) ?_
            refine WO.done (by kernel_rfl) ?_
            refine PO.nx ?_
            refine WP.seq (by kernel_rfl) ?_
            rcases cond_some H with ⟨h293, H⟩ | ⟨h293, H⟩
            · refine U.asW (t := 62) (congrArg Value.bool h293) (by kernel_rfl) ?_
              refine WP.condT (by kernel_rfl) ?_
              refine WP.skip (by kernel_rfl) ?_
              refine PO.nx ?_
              refine WP.seq (by kernel_rfl) ?_
              refine WP.block (id := 6) (by kernel_rfl) ?_
              refine WP.seq (by kernel_rfl) ?_
              refine WP.reg (by kernel_rfl) ?_
              obtain ⟨x294, h295, H⟩ := bnd_some H
              obtain ⟨h296, s297, h298, h299⟩ := Sl.at' (d := (Kd.pair (Kd.int .i64) (Kd.int .i64))) h9 h295
              obtain ⟨_, _, rfl, rfl, rfl⟩ := h298
              refine U.seg 6 [1, 3, 8, 9, 10, 59, 60, 61] [(1, .s), (2, .lg (Value.agg #[Value.int .i64 x294.1, Value.int .i64 x294.2])), (3, .al 20), (5, .st 20)] (fun K => ((0 : Int) ≤ x287 ∧ x287 < ((List.length x1) : Nat) ∧ FlatA a2 (List.length x1)) ∧ ((GLoad g ⟨ab a2, ao a2 + (Int.toNat (x287)) * 2, none⟩ true 2 (Value.agg #[Value.int .i64 x294.1, Value.int .i64 x294.2])) ∧ (∀ b300 : Nat, (b300 = b300) ∧ (K [(1, Value.pointer (some ⟨b11, 0, none⟩)), (3, Value.slice a2 (List.length x1) c3), (8, Value.bool x286), (9, Value.int .i64 x287), (10, Value.pointer (some ⟨b300, 0, none⟩)), (59, Value.slice a2 (List.length x1) c3), (60, Value.int .i64 ((List.length x1) : Int)), (61, Value.int .i64 x287)] ((20, Ent.blk b300 42 [Value.int .i64 x294.1, Value.int .i64 x294.2]) :: (1, Ent.blk b11 25 [Value.slice a2 (List.length x1) c3, Value.slice a6 (List.length x5) c7]) :: fr))))) (fun K => by kernel_rfl) 6 (by kernel_rfl) ?_
              refine ⟨h296, ?_⟩
              refine ⟨(h299 _ 0 _ _ _ rfl rfl rfl (OwnRead.agg rfl rfl)), ?_⟩
              intro b300
              refine ⟨rfl, ?_⟩
              refine WO.done (by kernel_rfl) ?_
              refine PO.nx ?_
              refine WP.seq (by kernel_rfl) ?_
              refine U.draw [] g [(20, Ent.blk b300 42 [Value.int .i64 x294.1, Value.int .i64 x294.2]), (1, Ent.blk b11 25 [Value.slice a2 (List.length x1) c3, Value.slice a6 (List.length x5) c7])] (by kernel_rfl) (by kernel_rfl) 20 (by kernel_rfl) (fun w hw => Ok.pickTo [(20, 0), (1, 1)] (by kernel_rfl) (by kernel_rfl) (GH.le_refl _) hw) ?_
              obtain ⟨h317, H⟩ := grd_some H
              obtain ⟨x318, h319, H⟩ := bnd_some H
              obtain ⟨h320, s321, h322, h323⟩ := Sl.at' (d := (Kd.pair (Kd.int .i64) (Kd.int .i64))) h9 h319
              obtain ⟨_, _, rfl, rfl, rfl⟩ := h322
              obtain ⟨h324, H⟩ := grd_some H
              obtain ⟨x325, h326, H⟩ := bnd_some H
              obtain ⟨h327, s328, h329, h330⟩ := Sl.at' (d := (Kd.pair (Kd.int .i64) (Kd.int .i64))) h9 h326
              obtain ⟨_, _, rfl, rfl, rfl⟩ := h329
              refine U.take 4 [0, 1, 2, 3, 4, 5, 6, 7, 8, 9, 10, 11, 12, 13, 14, 15] [1, 3, 8, 10, 59, 60, 61, 73, 81] [15, 14, 13, 12, 11, 10, 9, 8, 7, 6, 5, 4, 3, 2, 1, 0] [(5, .s), (6, .s), (7, .lg (Value.agg #[Value.int .i64 x318.1, Value.int .i64 x318.2])), (13, .s), (14, .s), (15, .lg (Value.agg #[Value.int .i64 x325.1, Value.int .i64 x325.2]))] (fun K => (((List.length x1) : Int) ≠ (0 : Int)) ∧ (((0 : Int) ≤ (Int.tmod (w64 (x287 + 1)) ((List.length x1) : Int)) ∧ (Int.tmod (w64 (x287 + 1)) ((List.length x1) : Int)) < ((List.length x1) : Nat) ∧ FlatA a2 (List.length x1)) ∧ ((GLoad g ⟨ab a2, ao a2 + (Int.toNat ((Int.tmod (w64 (x287 + 1)) ((List.length x1) : Int)))) * 2, none⟩ true 2 (Value.agg #[Value.int .i64 x318.1, Value.int .i64 x318.2])) ∧ ((((List.length x1) : Int) ≠ (0 : Int)) ∧ (((0 : Int) ≤ (Int.tmod (w64 (x287 + 2)) ((List.length x1) : Int)) ∧ (Int.tmod (w64 (x287 + 2)) ((List.length x1) : Int)) < ((List.length x1) : Nat) ∧ FlatA a2 (List.length x1)) ∧ ((GLoad g ⟨ab a2, ao a2 + (Int.toNat ((Int.tmod (w64 (x287 + 2)) ((List.length x1) : Int)))) * 2, none⟩ true 2 (Value.agg #[Value.int .i64 x325.1, Value.int .i64 x325.2])) ∧ (K [(1, Value.pointer (some ⟨b11, 0, none⟩)), (3, Value.slice a2 (List.length x1) c3), (8, Value.bool x286), (10, Value.pointer (some ⟨b300, 0, none⟩)), (59, Value.slice a2 (List.length x1) c3), (60, Value.int .i64 ((List.length x1) : Int)), (61, Value.int .i64 x287), (73, Value.agg #[Value.int .i64 x318.1, Value.int .i64 x318.2]), (81, Value.agg #[Value.int .i64 x325.1, Value.int .i64 x325.2])]))))))) (fun K => by kernel_rfl) (by kernel_rfl) (by kernel_rfl) (by kernel_rfl) ?_
              refine ⟨h317, ?_⟩
              refine ⟨h320, ?_⟩
              refine ⟨(h323 _ 0 _ _ _ rfl rfl rfl (OwnRead.agg rfl rfl)), ?_⟩
              refine ⟨h324, ?_⟩
              refine ⟨h327, ?_⟩
              refine ⟨(h330 _ 0 _ _ _ rfl rfl rfl (OwnRead.agg rfl rfl)), ?_⟩
              refine U.both (N := 2) (ls := [17, 16, 15, 14, 13, 12, 11, 10, 9, 8, 7, 6, 5, 4, 3, 2, 1, 0]) (S := fun b331 b333 => { n := 241, e := [(1, Value.pointer (some ⟨b11, 0, none⟩)), (3, Value.slice a2 (List.length x1) c3), (8, Value.bool x286), (10, Value.pointer (some ⟨b300, 0, none⟩)), (11, Value.pointer (some ⟨b331, 0, none⟩)), (12, Value.pointer (some ⟨b333, 0, none⟩)), (59, Value.slice a2 (List.length x1) c3), (60, Value.int .i64 ((List.length x1) : Int)), (61, Value.int .i64 x287), (73, Value.agg #[Value.int .i64 x318.1, Value.int .i64 x318.2]), (81, Value.agg #[Value.int .i64 x325.1, Value.int .i64 x325.2])], d := [], g := g, h := ((25, Ent.blk b333 42 [Value.int .i64 0, Value.int .i64 0]) :: (23, Ent.blk b331 42 [Value.int .i64 0, Value.int .i64 0]) :: (20, Ent.blk b300 42 [Value.int .i64 x294.1, Value.int .i64 x294.2]) :: (1, Ent.blk b11 25 [Value.slice a2 (List.length x1) c3, Value.slice a6 (List.length x5) c7]) :: fr) }) ?_ (fun h336 => ?_)
              · intro b331 b333
                refine U.one 1 18 [1, 3, 8, 10, 11, 12, 59, 60, 61, 81] [(18, .st 23)] (fun K => (b331 = b331) ∧ (K [(1, Value.pointer (some ⟨b11, 0, none⟩)), (3, Value.slice a2 (List.length x1) c3), (8, Value.bool x286), (10, Value.pointer (some ⟨b300, 0, none⟩)), (11, Value.pointer (some ⟨b331, 0, none⟩)), (12, Value.pointer (some ⟨b333, 0, none⟩)), (59, Value.slice a2 (List.length x1) c3), (60, Value.int .i64 ((List.length x1) : Int)), (61, Value.int .i64 x287), (81, Value.agg #[Value.int .i64 x325.1, Value.int .i64 x325.2])] ((25, Ent.blk b333 42 [Value.int .i64 0, Value.int .i64 0]) :: (23, Ent.blk b331 42 [Value.int .i64 x318.1, Value.int .i64 x318.2]) :: (20, Ent.blk b300 42 [Value.int .i64 x294.1, Value.int .i64 x294.2]) :: (1, Ent.blk b11 25 [Value.slice a2 (List.length x1) c3, Value.slice a6 (List.length x5) c7]) :: fr))) (fun K => by kernel_rfl) (by kernel_rfl) (by kernel_rfl) ?_
                refine ⟨rfl, ?_⟩
                refine ⟨(fun w hw => .inr (Ok.pickTo [(20, 2), (1, 3)] (by kernel_rfl) (by kernel_rfl) (GH.le_refl _) hw)), ?_⟩
                refine U.one 0 19 [1, 3, 8, 10, 11, 12, 59, 60, 61] [(19, .st 25)] (fun K => (b333 = b333) ∧ (K [(1, Value.pointer (some ⟨b11, 0, none⟩)), (3, Value.slice a2 (List.length x1) c3), (8, Value.bool x286), (10, Value.pointer (some ⟨b300, 0, none⟩)), (11, Value.pointer (some ⟨b331, 0, none⟩)), (12, Value.pointer (some ⟨b333, 0, none⟩)), (59, Value.slice a2 (List.length x1) c3), (60, Value.int .i64 ((List.length x1) : Int)), (61, Value.int .i64 x287)] ((25, Ent.blk b333 42 [Value.int .i64 x325.1, Value.int .i64 x325.2]) :: (23, Ent.blk b331 42 [Value.int .i64 x318.1, Value.int .i64 x318.2]) :: (20, Ent.blk b300 42 [Value.int .i64 x294.1, Value.int .i64 x294.2]) :: (1, Ent.blk b11 25 [Value.slice a2 (List.length x1) c3, Value.slice a6 (List.length x5) c7]) :: fr))) (fun K => by kernel_rfl) (by kernel_rfl) (by kernel_rfl) ?_
                refine ⟨rfl, ?_⟩
                refine ⟨(fun w hw => .inr (Ok.pickTo [(20, 2), (1, 3)] (by kernel_rfl) (by kernel_rfl) (GH.le_refl _) hw)), ?_⟩
                refine WD.done (by kernel_rfl) ?_
                refine PO.nx ?_
                refine WP.seq (by kernel_rfl) ?_
                refine WP.seq (by kernel_rfl) ?_
                refine WP.join (fun s => ∃ (x343 : Bool), f29_j12 kk x343 x286 x294 x318 x325 x287 = some q289 ∧ s = { n := 241, e := [(1, Value.pointer (some ⟨b11, 0, none⟩)), (3, Value.slice a2 (List.length x1) c3), (8, Value.bool x286), (10, Value.pointer (some ⟨b300, 0, none⟩)), (11, Value.pointer (some ⟨b331, 0, none⟩)), (12, Value.pointer (some ⟨b333, 0, none⟩)), (59, Value.slice a2 (List.length x1) c3), (60, Value.int .i64 ((List.length x1) : Int)), (61, Value.int .i64 x287), (118, Value.bool x343)], d := [], g := g, h := ((1, Ent.blk b11 25 [Value.slice a2 (List.length x1) c3, Value.slice a6 (List.length x5) c7]) :: (20, Ent.blk b300 42 [Value.int .i64 x294.1, Value.int .i64 x294.2]) :: (23, Ent.blk b331 42 [Value.int .i64 x318.1, Value.int .i64 x318.2]) :: (25, Ent.blk b333 42 [Value.int .i64 x325.1, Value.int .i64 x325.2]) :: fr) }) ?_ ?_
                · refine WP.reg (by kernel_rfl) ?_
                  refine U.seg 2 [1, 3, 8, 10, 11, 12, 59, 60, 61, 82, 83] [(1, .ld 20)] (fun K => (b300 = b300) ∧ (K [(1, Value.pointer (some ⟨b11, 0, none⟩)), (3, Value.slice a2 (List.length x1) c3), (8, Value.bool x286), (10, Value.pointer (some ⟨b300, 0, none⟩)), (11, Value.pointer (some ⟨b331, 0, none⟩)), (12, Value.pointer (some ⟨b333, 0, none⟩)), (59, Value.slice a2 (List.length x1) c3), (60, Value.int .i64 ((List.length x1) : Int)), (61, Value.int .i64 x287), (82, Value.slice a2 (List.length x1) c3), (83, Value.agg #[Value.int .i64 x294.1, Value.int .i64 x294.2])] ((25, Ent.blk b333 42 [Value.int .i64 x325.1, Value.int .i64 x325.2]) :: (23, Ent.blk b331 42 [Value.int .i64 x318.1, Value.int .i64 x318.2]) :: (20, Ent.blk b300 42 [Value.int .i64 x294.1, Value.int .i64 x294.2]) :: (1, Ent.blk b11 25 [Value.slice a2 (List.length x1) c3, Value.slice a6 (List.length x5) c7]) :: fr))) (fun K => by kernel_rfl) 2 (by kernel_rfl) ?_
                  refine ⟨rfl, ?_⟩
                  obtain ⟨x337, h338, H⟩ := bnd_some H
                  refine U.step 3 (by kernel_rfl) (U.call (dst := some 84) (fun w hw => c_f69 kk x1 x294.1 x294.2 0 a2 c3 h9 h338 hw) (by kernel_rfl) (enters_of Try.func69 (by kernel_rfl) rfl)) ?_
                  rintro _ _
                  refine U.seg 2 [1, 3, 8, 10, 11, 12, 59, 60, 61, 86] [] (fun K => K [(1, Value.pointer (some ⟨b11, 0, none⟩)), (3, Value.slice a2 (List.length x1) c3), (8, Value.bool x286), (10, Value.pointer (some ⟨b300, 0, none⟩)), (11, Value.pointer (some ⟨b331, 0, none⟩)), (12, Value.pointer (some ⟨b333, 0, none⟩)), (59, Value.slice a2 (List.length x1) c3), (60, Value.int .i64 ((List.length x1) : Int)), (61, Value.int .i64 x287), (86, Value.bool (!x337))] ((25, Ent.blk b333 42 [Value.int .i64 x325.1, Value.int .i64 x325.2]) :: (23, Ent.blk b331 42 [Value.int .i64 x318.1, Value.int .i64 x318.2]) :: (20, Ent.blk b300 42 [Value.int .i64 x294.1, Value.int .i64 x294.2]) :: (1, Ent.blk b11 25 [Value.slice a2 (List.length x1) c3, Value.slice a6 (List.length x5) c7]) :: fr)) (fun K => by kernel_rfl) 5 (by kernel_rfl) ?_
                  rcases cond_some H with ⟨h339, H⟩ | ⟨h339, H⟩
                  · refine U.as (t := 86) (congrArg Value.bool h339) (by kernel_rfl) ?_
                    refine U.seg 32 [1, 3, 8, 10, 11, 12, 59, 60, 61, 87, 88, 89, 90, 91, 92, 93, 94, 95, 96, 97, 98, 99, 100, 101, 102, 103, 104, 105, 106, 107, 108, 109, 110, 111, 112, 113, 114, 115, 116, 117, 118] [] (fun K => K [(1, Value.pointer (some ⟨b11, 0, none⟩)), (3, Value.slice a2 (List.length x1) c3), (8, Value.bool x286), (10, Value.pointer (some ⟨b300, 0, none⟩)), (11, Value.pointer (some ⟨b331, 0, none⟩)), (12, Value.pointer (some ⟨b333, 0, none⟩)), (59, Value.slice a2 (List.length x1) c3), (60, Value.int .i64 ((List.length x1) : Int)), (61, Value.int .i64 x287), (87, undef), (88, undef), (89, undef), (90, undef), (91, undef), (92, undef), (93, undef), (94, undef), (95, undef), (96, undef), (97, undef), (98, undef), (99, undef), (100, undef), (101, undef), (102, undef), (103, undef), (104, undef), (105, undef), (106, undef), (107, undef), (108, undef), (109, undef), (110, undef), (111, undef), (112, undef), (113, undef), (114, undef), (115, undef), (116, undef), (117, undef), (118, Value.bool true)] ((25, Ent.blk b333 42 [Value.int .i64 x325.1, Value.int .i64 x325.2]) :: (23, Ent.blk b331 42 [Value.int .i64 x318.1, Value.int .i64 x318.2]) :: (20, Ent.blk b300 42 [Value.int .i64 x294.1, Value.int .i64 x294.2]) :: (1, Ent.blk b11 25 [Value.slice a2 (List.length x1) c3, Value.slice a6 (List.length x5) c7]) :: fr)) (fun K => by kernel_rfl) 37 (by kernel_rfl) ?_
                    refine WO.done (by kernel_rfl) ?_
                    refine PO.jn ⟨true, H, rfl⟩ ?_
                    exact (St.ok.to [1, 3, 8, 10, 11, 12, 59, 60, 61, 118] 4 [(1, 3), (20, 2), (23, 1), (25, 0)] (by kernel_rfl) rfl (by kernel_rfl) rfl rfl (by kernel_rfl))
                  · refine U.as (t := 86) (congrArg Value.bool h339) (by kernel_rfl) ?_
                    refine U.seg 3 [1, 3, 8, 10, 11, 12, 59, 60, 61, 86, 87, 88, 89] [(5, .ld 20), (6, .ld 23), (7, .ld 25)] (fun K => (b300 = b300) ∧ ((b331 = b331) ∧ ((b333 = b333) ∧ (K [(1, Value.pointer (some ⟨b11, 0, none⟩)), (3, Value.slice a2 (List.length x1) c3), (8, Value.bool x286), (10, Value.pointer (some ⟨b300, 0, none⟩)), (11, Value.pointer (some ⟨b331, 0, none⟩)), (12, Value.pointer (some ⟨b333, 0, none⟩)), (59, Value.slice a2 (List.length x1) c3), (60, Value.int .i64 ((List.length x1) : Int)), (61, Value.int .i64 x287), (86, Value.bool false), (87, Value.agg #[Value.int .i64 x294.1, Value.int .i64 x294.2]), (88, Value.agg #[Value.int .i64 x318.1, Value.int .i64 x318.2]), (89, Value.agg #[Value.int .i64 x325.1, Value.int .i64 x325.2])] ((25, Ent.blk b333 42 [Value.int .i64 x325.1, Value.int .i64 x325.2]) :: (23, Ent.blk b331 42 [Value.int .i64 x318.1, Value.int .i64 x318.2]) :: (20, Ent.blk b300 42 [Value.int .i64 x294.1, Value.int .i64 x294.2]) :: (1, Ent.blk b11 25 [Value.slice a2 (List.length x1) c3, Value.slice a6 (List.length x5) c7]) :: fr))))) (fun K => by kernel_rfl) 8 (by kernel_rfl) ?_
                    refine ⟨rfl, ?_⟩
                    refine ⟨rfl, ?_⟩
                    refine ⟨rfl, ?_⟩
                    obtain ⟨x340, h341, H⟩ := bnd_some H
                    refine U.step 9 (by kernel_rfl) (U.call (dst := some 90) (fun w hw => c_f70 kk x294.1 x294.2 x318.1 x318.2 x325.1 x325.2 h341 hw) (by kernel_rfl) (enters_of Try.func70 (by kernel_rfl) rfl)) ?_
                    rintro _ _
                    refine U.seg 2 [1, 3, 8, 10, 11, 12, 59, 60, 61, 86, 87, 88, 89, 90, 91, 92] [] (fun K => K [(1, Value.pointer (some ⟨b11, 0, none⟩)), (3, Value.slice a2 (List.length x1) c3), (8, Value.bool x286), (10, Value.pointer (some ⟨b300, 0, none⟩)), (11, Value.pointer (some ⟨b331, 0, none⟩)), (12, Value.pointer (some ⟨b333, 0, none⟩)), (59, Value.slice a2 (List.length x1) c3), (60, Value.int .i64 ((List.length x1) : Int)), (61, Value.int .i64 x287), (86, Value.bool false), (87, Value.agg #[Value.int .i64 x294.1, Value.int .i64 x294.2]), (88, Value.agg #[Value.int .i64 x318.1, Value.int .i64 x318.2]), (89, Value.agg #[Value.int .i64 x325.1, Value.int .i64 x325.2]), (90, Value.int .i64 x340), (91, Value.bool (x340 == 0)), (92, Value.bool (x340 == 0))] ((25, Ent.blk b333 42 [Value.int .i64 x325.1, Value.int .i64 x325.2]) :: (23, Ent.blk b331 42 [Value.int .i64 x318.1, Value.int .i64 x318.2]) :: (20, Ent.blk b300 42 [Value.int .i64 x294.1, Value.int .i64 x294.2]) :: (1, Ent.blk b11 25 [Value.slice a2 (List.length x1) c3, Value.slice a6 (List.length x5) c7]) :: fr)) (fun K => by kernel_rfl) 11 (by kernel_rfl) ?_
                    rcases cond_some H with ⟨h342, H⟩ | ⟨h342, H⟩
                    · refine U.as (t := 92) (congrArg Value.bool h342) (by kernel_rfl) ?_
                      refine U.seg 26 [1, 3, 8, 10, 11, 12, 59, 60, 61, 87, 88, 89, 90, 91, 92, 93, 94, 95, 96, 97, 98, 99, 100, 101, 102, 103, 104, 105, 106, 107, 108, 109, 110, 111, 112, 113, 114, 115, 116, 117, 118] [(12, .ld 23), (14, .ld 20), (17, .ld 25), (19, .ld 23), (23, .ld 23), (25, .ld 20), (28, .ld 25), (30, .ld 23)] (fun K => (b331 = b331) ∧ ((b300 = b300) ∧ ((b333 = b333) ∧ ((b331 = b331) ∧ ((b331 = b331) ∧ ((b300 = b300) ∧ ((b333 = b333) ∧ ((b331 = b331) ∧ (K [(1, Value.pointer (some ⟨b11, 0, none⟩)), (3, Value.slice a2 (List.length x1) c3), (8, Value.bool x286), (10, Value.pointer (some ⟨b300, 0, none⟩)), (11, Value.pointer (some ⟨b331, 0, none⟩)), (12, Value.pointer (some ⟨b333, 0, none⟩)), (59, Value.slice a2 (List.length x1) c3), (60, Value.int .i64 ((List.length x1) : Int)), (61, Value.int .i64 x287), (87, Value.agg #[Value.int .i64 x294.1, Value.int .i64 x294.2]), (88, Value.agg #[Value.int .i64 x318.1, Value.int .i64 x318.2]), (89, Value.agg #[Value.int .i64 x325.1, Value.int .i64 x325.2]), (90, Value.int .i64 x340), (91, Value.bool (x340 == 0)), (92, Value.bool true), (93, Value.pointer (some ⟨b331, 0, none⟩)), (94, Value.int .i64 x318.1), (95, Value.pointer (some ⟨b300, 0, none⟩)), (96, Value.int .i64 x294.1), (97, Value.int .i64 (w64 (x318.1 - x294.1))), (98, Value.pointer (some ⟨b333, 0, none⟩)), (99, Value.int .i64 x325.1), (100, Value.pointer (some ⟨b331, 0, none⟩)), (101, Value.int .i64 x318.1), (102, Value.int .i64 (w64 (x325.1 - x318.1))), (103, Value.int .i64 (w64 ((w64 (x318.1 - x294.1)) * (w64 (x325.1 - x318.1))))), (104, Value.pointer (some ⟨b331, 1, none⟩)), (105, Value.int .i64 x318.2), (106, Value.pointer (some ⟨b300, 1, none⟩)), (107, Value.int .i64 x294.2), (108, Value.int .i64 (w64 (x318.2 - x294.2))), (109, Value.pointer (some ⟨b333, 1, none⟩)), (110, Value.int .i64 x325.2), (111, Value.pointer (some ⟨b331, 1, none⟩)), (112, Value.int .i64 x318.2), (113, Value.int .i64 (w64 (x325.2 - x318.2))), (114, Value.int .i64 (w64 ((w64 (x318.2 - x294.2)) * (w64 (x325.2 - x318.2))))), (115, Value.int .i64 (w64 ((w64 ((w64 (x318.1 - x294.1)) * (w64 (x325.1 - x318.1)))) + (w64 ((w64 (x318.2 - x294.2)) * (w64 (x325.2 - x318.2))))))), (116, Value.bool (decide ((w64 ((w64 ((w64 (x318.1 - x294.1)) * (w64 (x325.1 - x318.1)))) + (w64 ((w64 (x318.2 - x294.2)) * (w64 (x325.2 - x318.2)))))) < 0))), (117, Value.bool (decide ((w64 ((w64 ((w64 (x318.1 - x294.1)) * (w64 (x325.1 - x318.1)))) + (w64 ((w64 (x318.2 - x294.2)) * (w64 (x325.2 - x318.2)))))) < 0))), (118, Value.bool (decide ((w64 ((w64 ((w64 (x318.1 - x294.1)) * (w64 (x325.1 - x318.1)))) + (w64 ((w64 (x318.2 - x294.2)) * (w64 (x325.2 - x318.2)))))) < 0)))] ((25, Ent.blk b333 42 [Value.int .i64 x325.1, Value.int .i64 x325.2]) :: (23, Ent.blk b331 42 [Value.int .i64 x318.1, Value.int .i64 x318.2]) :: (20, Ent.blk b300 42 [Value.int .i64 x294.1, Value.int .i64 x294.2]) :: (1, Ent.blk b11 25 [Value.slice a2 (List.length x1) c3, Value.slice a6 (List.length x5) c7]) :: fr)))))))))) (fun K => by kernel_rfl) 37 (by kernel_rfl) ?_
                      refine ⟨rfl, ?_⟩
                      refine ⟨rfl, ?_⟩
                      refine ⟨rfl, ?_⟩
                      refine ⟨rfl, ?_⟩
                      refine ⟨rfl, ?_⟩
                      refine ⟨rfl, ?_⟩
                      refine ⟨rfl, ?_⟩
                      refine ⟨rfl, ?_⟩
                      refine WO.done (by kernel_rfl) ?_
                      refine PO.jn ⟨(decide ((w64 ((w64 ((w64 (x318.1 - x294.1)) * (w64 (x325.1 - x318.1)))) + (w64 ((w64 (x318.2 - x294.2)) * (w64 (x325.2 - x318.2)))))) < 0)), H, rfl⟩ ?_
                      exact (St.ok.to [1, 3, 8, 10, 11, 12, 59, 60, 61, 118] 4 [(1, 3), (20, 2), (23, 1), (25, 0)] (by kernel_rfl) rfl (by kernel_rfl) rfl rfl (by kernel_rfl))
                    · refine U.as (t := 92) (congrArg Value.bool h342) (by kernel_rfl) ?_
                      refine U.seg 26 [1, 3, 8, 10, 11, 12, 59, 60, 61, 87, 88, 89, 90, 91, 92, 93, 94, 95, 96, 97, 98, 99, 100, 101, 102, 103, 104, 105, 106, 107, 108, 109, 110, 111, 112, 113, 114, 115, 116, 117, 118] [] (fun K => K [(1, Value.pointer (some ⟨b11, 0, none⟩)), (3, Value.slice a2 (List.length x1) c3), (8, Value.bool x286), (10, Value.pointer (some ⟨b300, 0, none⟩)), (11, Value.pointer (some ⟨b331, 0, none⟩)), (12, Value.pointer (some ⟨b333, 0, none⟩)), (59, Value.slice a2 (List.length x1) c3), (60, Value.int .i64 ((List.length x1) : Int)), (61, Value.int .i64 x287), (87, Value.agg #[Value.int .i64 x294.1, Value.int .i64 x294.2]), (88, Value.agg #[Value.int .i64 x318.1, Value.int .i64 x318.2]), (89, Value.agg #[Value.int .i64 x325.1, Value.int .i64 x325.2]), (90, Value.int .i64 x340), (91, Value.bool (x340 == 0)), (92, Value.bool false), (93, undef), (94, undef), (95, undef), (96, undef), (97, undef), (98, undef), (99, undef), (100, undef), (101, undef), (102, undef), (103, undef), (104, undef), (105, undef), (106, undef), (107, undef), (108, undef), (109, undef), (110, undef), (111, undef), (112, undef), (113, undef), (114, undef), (115, undef), (116, undef), (117, Value.bool false), (118, Value.bool false)] ((25, Ent.blk b333 42 [Value.int .i64 x325.1, Value.int .i64 x325.2]) :: (23, Ent.blk b331 42 [Value.int .i64 x318.1, Value.int .i64 x318.2]) :: (20, Ent.blk b300 42 [Value.int .i64 x294.1, Value.int .i64 x294.2]) :: (1, Ent.blk b11 25 [Value.slice a2 (List.length x1) c3, Value.slice a6 (List.length x5) c7]) :: fr)) (fun K => by kernel_rfl) 37 (by kernel_rfl) ?_
                      refine WO.done (by kernel_rfl) ?_
                      refine PO.jn ⟨false, H, rfl⟩ ?_
                      exact (St.ok.to [1, 3, 8, 10, 11, 12, 59, 60, 61, 118] 4 [(1, 3), (20, 2), (23, 1), (25, 0)] (by kernel_rfl) rfl (by kernel_rfl) rfl rfl (by kernel_rfl))
                · rintro _ ⟨x343, H, rfl⟩
                  unfold f29_j12 at H
                  refine PO.nx ?_
                  rcases cond_some H with ⟨h344, H⟩ | ⟨h344, H⟩
                  · refine U.asW (t := 118) (congrArg Value.bool h344) (by kernel_rfl) ?_
                    refine WP.condT (by kernel_rfl) ?_
                    refine WP.seq (by kernel_rfl) ?_
                    refine WP.reg (by kernel_rfl) ?_
                    refine U.seg 1 [2] [] (fun K => K [(2, Value.int .i64 9)] ((1, Ent.blk b11 25 [Value.slice a2 (List.length x1) c3, Value.slice a6 (List.length x5) c7]) :: (20, Ent.blk b300 42 [Value.int .i64 x294.1, Value.int .i64 x294.2]) :: (23, Ent.blk b331 42 [Value.int .i64 x318.1, Value.int .i64 x318.2]) :: (25, Ent.blk b333 42 [Value.int .i64 x325.1, Value.int .i64 x325.2]) :: fr)) (fun K => by kernel_rfl) 1 (by kernel_rfl) ?_
                    refine WO.done (by kernel_rfl) ?_
                    refine PO.nx ?_
                    refine WP.ret (by kernel_rfl) ?_
                    refine PO.nx_ret ?_
                    refine PO.blk_ret ?_
                    refine PO.nx_ret ?_
                    refine PO.lp_ret ?_
                    refine PO.blk_ret ?_
                    refine PO.jn_ret ?_
                    refine PO.nx_ret ?_
                    have hq := Option.some.inj H
                    subst hq
                    have H := h291
                    rw [← (show _ = o288 from h290)] at H
                    have H : some 9 = some r := H
                    have hr := Option.some.inj H
                    subst hr
                    refine PO.body [Value.int .i64 9] ((1, Ent.blk b11 25 [Value.slice a2 (List.length x1) c3, Value.slice a6 (List.length x5) c7]) :: (20, Ent.blk b300 42 [Value.int .i64 x294.1, Value.int .i64 x294.2]) :: (23, Ent.blk b331 42 [Value.int .i64 x318.1, Value.int .i64 x318.2]) :: (25, Ent.blk b333 42 [Value.int .i64 x325.1, Value.int .i64 x325.2]) :: fr) rfl (Res.tmp (by kernel_rfl) Res.nil) ?_
                    exact fun w hw => Ret.mk () trivial rfl (okNT 4 [] (by kernel_rfl) rfl hw)
                  · refine U.asW (t := 118) (congrArg Value.bool h344) (by kernel_rfl) ?_
                    refine WP.condF (by kernel_rfl) ?_
                    refine WP.skip (by kernel_rfl) ?_
                    refine PO.nx ?_
                    refine WP.join (fun s => ∃ (x348 : Bool), f29_j13 kk x348 x287 = some q289 ∧ s = { n := 241, e := [(1, Value.pointer (some ⟨b11, 0, none⟩)), (3, Value.slice a2 (List.length x1) c3), (8, Value.bool x348), (59, Value.slice a2 (List.length x1) c3), (60, Value.int .i64 ((List.length x1) : Int)), (61, Value.int .i64 x287)], d := [], g := g, h := ((1, Ent.blk b11 25 [Value.slice a2 (List.length x1) c3, Value.slice a6 (List.length x5) c7]) :: fr) }) ?_ ?_
                    · refine WP.reg (by kernel_rfl) ?_
                      refine U.seg 2 [1, 3, 10, 11, 12, 59, 60, 61, 120] [] (fun K => K [(1, Value.pointer (some ⟨b11, 0, none⟩)), (3, Value.slice a2 (List.length x1) c3), (10, Value.pointer (some ⟨b300, 0, none⟩)), (11, Value.pointer (some ⟨b331, 0, none⟩)), (12, Value.pointer (some ⟨b333, 0, none⟩)), (59, Value.slice a2 (List.length x1) c3), (60, Value.int .i64 ((List.length x1) : Int)), (61, Value.int .i64 x287), (120, Value.bool x286)] ((1, Ent.blk b11 25 [Value.slice a2 (List.length x1) c3, Value.slice a6 (List.length x5) c7]) :: (20, Ent.blk b300 42 [Value.int .i64 x294.1, Value.int .i64 x294.2]) :: (23, Ent.blk b331 42 [Value.int .i64 x318.1, Value.int .i64 x318.2]) :: (25, Ent.blk b333 42 [Value.int .i64 x325.1, Value.int .i64 x325.2]) :: fr)) (fun K => by kernel_rfl) 2 (by kernel_rfl) ?_
                      rcases cond_some H with ⟨h345, H⟩ | ⟨h345, H⟩
                      · refine U.as (t := 120) (congrArg Value.bool h345) (by kernel_rfl) ?_
                        refine U.seg 3 [1, 3, 59, 60, 61, 120, 121, 122, 123] [(2, .ld 20), (3, .ld 23), (4, .ld 25)] (fun K => (b300 = b300) ∧ ((b331 = b331) ∧ ((b333 = b333) ∧ (K [(1, Value.pointer (some ⟨b11, 0, none⟩)), (3, Value.slice a2 (List.length x1) c3), (59, Value.slice a2 (List.length x1) c3), (60, Value.int .i64 ((List.length x1) : Int)), (61, Value.int .i64 x287), (120, Value.bool true), (121, Value.agg #[Value.int .i64 x294.1, Value.int .i64 x294.2]), (122, Value.agg #[Value.int .i64 x318.1, Value.int .i64 x318.2]), (123, Value.agg #[Value.int .i64 x325.1, Value.int .i64 x325.2])] ((1, Ent.blk b11 25 [Value.slice a2 (List.length x1) c3, Value.slice a6 (List.length x5) c7]) :: (20, Ent.blk b300 42 [Value.int .i64 x294.1, Value.int .i64 x294.2]) :: (23, Ent.blk b331 42 [Value.int .i64 x318.1, Value.int .i64 x318.2]) :: (25, Ent.blk b333 42 [Value.int .i64 x325.1, Value.int .i64 x325.2]) :: fr))))) (fun K => by kernel_rfl) 5 (by kernel_rfl) ?_
                        refine ⟨rfl, ?_⟩
                        refine ⟨rfl, ?_⟩
                        refine ⟨rfl, ?_⟩
                        obtain ⟨x346, h347, H⟩ := bnd_some H
                        refine U.step 6 (by kernel_rfl) (U.call (dst := some 124) (fun w hw => c_f70 kk x294.1 x294.2 x318.1 x318.2 x325.1 x325.2 h347 hw) (by kernel_rfl) (enters_of Try.func70 (by kernel_rfl) rfl)) ?_
                        rintro _ _
                        refine U.seg 3 [1, 3, 8, 59, 60, 61, 121, 122, 123, 124, 125] [] (fun K => K [(1, Value.pointer (some ⟨b11, 0, none⟩)), (3, Value.slice a2 (List.length x1) c3), (8, Value.bool (x346 == 0)), (59, Value.slice a2 (List.length x1) c3), (60, Value.int .i64 ((List.length x1) : Int)), (61, Value.int .i64 x287), (121, Value.agg #[Value.int .i64 x294.1, Value.int .i64 x294.2]), (122, Value.agg #[Value.int .i64 x318.1, Value.int .i64 x318.2]), (123, Value.agg #[Value.int .i64 x325.1, Value.int .i64 x325.2]), (124, Value.int .i64 x346), (125, Value.bool (x346 == 0))] ((1, Ent.blk b11 25 [Value.slice a2 (List.length x1) c3, Value.slice a6 (List.length x5) c7]) :: (20, Ent.blk b300 42 [Value.int .i64 x294.1, Value.int .i64 x294.2]) :: (23, Ent.blk b331 42 [Value.int .i64 x318.1, Value.int .i64 x318.2]) :: (25, Ent.blk b333 42 [Value.int .i64 x325.1, Value.int .i64 x325.2]) :: fr)) (fun K => by kernel_rfl) 9 (by kernel_rfl) ?_
                        refine WO.done (by kernel_rfl) ?_
                        refine PO.jn ⟨(x346 == 0), H, rfl⟩ ?_
                        exact (St.ok.to [1, 3, 8, 59, 60, 61] 4 [(1, 0)] (by kernel_rfl) rfl (by kernel_rfl) rfl rfl (by kernel_rfl))
                      · refine U.as (t := 120) (congrArg Value.bool h345) (by kernel_rfl) ?_
                        refine U.seg 7 [1, 3, 8, 59, 60, 61, 121, 122, 123, 124, 125] [] (fun K => K [(1, Value.pointer (some ⟨b11, 0, none⟩)), (3, Value.slice a2 (List.length x1) c3), (8, Value.bool false), (59, Value.slice a2 (List.length x1) c3), (60, Value.int .i64 ((List.length x1) : Int)), (61, Value.int .i64 x287), (121, undef), (122, undef), (123, undef), (124, undef), (125, undef)] ((1, Ent.blk b11 25 [Value.slice a2 (List.length x1) c3, Value.slice a6 (List.length x5) c7]) :: (20, Ent.blk b300 42 [Value.int .i64 x294.1, Value.int .i64 x294.2]) :: (23, Ent.blk b331 42 [Value.int .i64 x318.1, Value.int .i64 x318.2]) :: (25, Ent.blk b333 42 [Value.int .i64 x325.1, Value.int .i64 x325.2]) :: fr)) (fun K => by kernel_rfl) 9 (by kernel_rfl) ?_
                        refine WO.done (by kernel_rfl) ?_
                        refine PO.jn ⟨false, H, rfl⟩ ?_
                        exact (St.ok.to [1, 3, 8, 59, 60, 61] 4 [(1, 0)] (by kernel_rfl) rfl (by kernel_rfl) rfl rfl (by kernel_rfl))
                    · rintro _ ⟨x348, H, rfl⟩
                      unfold f29_j13 at H
                      refine PO.blk_normal ?_
                      refine PO.nx ?_
                      refine WP.reg (by kernel_rfl) ?_
                      refine U.seg 2 [1, 3, 8, 59, 60, 61] [] (fun K => K [(1, Value.pointer (some ⟨b11, 0, none⟩)), (3, Value.slice a2 (List.length x1) c3), (8, Value.bool x348), (59, Value.slice a2 (List.length x1) c3), (60, Value.int .i64 ((List.length x1) : Int)), (61, Value.int .i64 (w64 (x287 + 1)))] ((1, Ent.blk b11 25 [Value.slice a2 (List.length x1) c3, Value.slice a6 (List.length x5) c7]) :: fr)) (fun K => by kernel_rfl) 2 (by kernel_rfl) ?_
                      refine WO.done (by kernel_rfl) ?_
                      have hq := Option.some.inj H
                      subst hq
                      refine PO.againW ⟨x348, (w64 (x287 + 1)), h290, rfl⟩ ?_ (Nat.lt_succ_self _)
                      exact (St.ok.to [1, 3, 8, 59, 60, 61] 1 [(1, 0)] (by kernel_rfl) rfl (by kernel_rfl) rfl rfl (by kernel_rfl))
              refine U.two 3 16 17 [1, 3, 8, 10, 11, 59, 60, 61, 73, 81] [1, 3, 8, 10, 12, 59, 60, 61, 73, 81] ([(16, .al 23)] ++ [(17, .al 25)]) (fun K => ∀ b331 : Nat, K [(1, Value.pointer (some ⟨b11, 0, none⟩)), (3, Value.slice a2 (List.length x1) c3), (8, Value.bool x286), (10, Value.pointer (some ⟨b300, 0, none⟩)), (11, Value.pointer (some ⟨b331, 0, none⟩)), (59, Value.slice a2 (List.length x1) c3), (60, Value.int .i64 ((List.length x1) : Int)), (61, Value.int .i64 x287), (73, Value.agg #[Value.int .i64 x318.1, Value.int .i64 x318.2]), (81, Value.agg #[Value.int .i64 x325.1, Value.int .i64 x325.2])] ((23, Ent.blk b331 42 [Value.int .i64 0, Value.int .i64 0]) :: (20, Ent.blk b300 42 [Value.int .i64 x294.1, Value.int .i64 x294.2]) :: (1, Ent.blk b11 25 [Value.slice a2 (List.length x1) c3, Value.slice a6 (List.length x5) c7]) :: fr)) (fun K => ∀ b334 : Nat, K [(1, Value.pointer (some ⟨b11, 0, none⟩)), (3, Value.slice a2 (List.length x1) c3), (8, Value.bool x286), (10, Value.pointer (some ⟨b300, 0, none⟩)), (12, Value.pointer (some ⟨b334, 0, none⟩)), (59, Value.slice a2 (List.length x1) c3), (60, Value.int .i64 ((List.length x1) : Int)), (61, Value.int .i64 x287), (73, Value.agg #[Value.int .i64 x318.1, Value.int .i64 x318.2]), (81, Value.agg #[Value.int .i64 x325.1, Value.int .i64 x325.2])] ((25, Ent.blk b334 42 [Value.int .i64 0, Value.int .i64 0]) :: (20, Ent.blk b300 42 [Value.int .i64 x294.1, Value.int .i64 x294.2]) :: (1, Ent.blk b11 25 [Value.slice a2 (List.length x1) c3, Value.slice a6 (List.length x5) c7]) :: fr)) (fun K => by kernel_rfl) (fun K => by kernel_rfl) (by kernel_rfl) (by kernel_rfl) ?_ ?_
              · intro b331
                refine ⟨(fun w hw => .inr (Ok.pickTo [(20, 1), (1, 2)] (by kernel_rfl) (by kernel_rfl) (GH.le_refl _) hw)), ?_⟩
                refine U.one 2 17 [1, 3, 8, 10, 11, 12, 59, 60, 61, 73, 81] [(17, .al 25)] (fun K => ∀ b333 : Nat, K [(1, Value.pointer (some ⟨b11, 0, none⟩)), (3, Value.slice a2 (List.length x1) c3), (8, Value.bool x286), (10, Value.pointer (some ⟨b300, 0, none⟩)), (11, Value.pointer (some ⟨b331, 0, none⟩)), (12, Value.pointer (some ⟨b333, 0, none⟩)), (59, Value.slice a2 (List.length x1) c3), (60, Value.int .i64 ((List.length x1) : Int)), (61, Value.int .i64 x287), (73, Value.agg #[Value.int .i64 x318.1, Value.int .i64 x318.2]), (81, Value.agg #[Value.int .i64 x325.1, Value.int .i64 x325.2])] ((25, Ent.blk b333 42 [Value.int .i64 0, Value.int .i64 0]) :: (23, Ent.blk b331 42 [Value.int .i64 0, Value.int .i64 0]) :: (20, Ent.blk b300 42 [Value.int .i64 x294.1, Value.int .i64 x294.2]) :: (1, Ent.blk b11 25 [Value.slice a2 (List.length x1) c3, Value.slice a6 (List.length x5) c7]) :: fr)) (fun K => by kernel_rfl) (by kernel_rfl) (by kernel_rfl) ?_
                intro b333
                refine ⟨(fun w hw => .inr (Ok.pickTo [(20, 2), (1, 3)] (by kernel_rfl) (by kernel_rfl) (GH.le_refl _) hw)), ?_⟩
                exact h336 b331 b333
              · intro b334
                refine ⟨(fun w hw => .inr (Ok.pickTo [(20, 1), (1, 2)] (by kernel_rfl) (by kernel_rfl) (GH.le_refl _) hw)), ?_⟩
                refine U.one 2 16 [1, 3, 8, 10, 11, 12, 59, 60, 61, 73, 81] [(16, .al 23)] (fun K => ∀ b335 : Nat, K [(1, Value.pointer (some ⟨b11, 0, none⟩)), (3, Value.slice a2 (List.length x1) c3), (8, Value.bool x286), (10, Value.pointer (some ⟨b300, 0, none⟩)), (11, Value.pointer (some ⟨b335, 0, none⟩)), (12, Value.pointer (some ⟨b334, 0, none⟩)), (59, Value.slice a2 (List.length x1) c3), (60, Value.int .i64 ((List.length x1) : Int)), (61, Value.int .i64 x287), (73, Value.agg #[Value.int .i64 x318.1, Value.int .i64 x318.2]), (81, Value.agg #[Value.int .i64 x325.1, Value.int .i64 x325.2])] ((23, Ent.blk b335 42 [Value.int .i64 0, Value.int .i64 0]) :: (25, Ent.blk b334 42 [Value.int .i64 0, Value.int .i64 0]) :: (20, Ent.blk b300 42 [Value.int .i64 x294.1, Value.int .i64 x294.2]) :: (1, Ent.blk b11 25 [Value.slice a2 (List.length x1) c3, Value.slice a6 (List.length x5) c7]) :: fr)) (fun K => by kernel_rfl) (by kernel_rfl) (by kernel_rfl) ?_
                intro b335
                refine ⟨(fun w hw => .inr (Ok.pickTo [(20, 2), (1, 3)] (by kernel_rfl) (by kernel_rfl) (GH.le_refl _) hw)), ?_⟩
                refine U.pickD 4 [(25, 1), (23, 0), (20, 2), (1, 3)] ((25, Ent.blk b334 42 [Value.int .i64 0, Value.int .i64 0]) :: (23, Ent.blk b335 42 [Value.int .i64 0, Value.int .i64 0]) :: (20, Ent.blk b300 42 [Value.int .i64 x294.1, Value.int .i64 x294.2]) :: (1, Ent.blk b11 25 [Value.slice a2 (List.length x1) c3, Value.slice a6 (List.length x5) c7]) :: fr) (by kernel_rfl) (by kernel_rfl) ?_
                exact WD.perm2 (by kernel_rfl) (h336 b335 b334)
            · refine U.asW (t := 62) (congrArg Value.bool h293) (by kernel_rfl) ?_
              refine WP.condF (by kernel_rfl) ?_
              refine WP.exit (id := 5) (by kernel_rfl) ?_
              refine PO.nx_exit ?_
              refine PO.lp_exit ?_
              refine PO.blk_exit ?_
              have hq := Option.some.inj H
              subst hq
              have H := h291
              rw [← (show _ = o288 from h290)] at H
              have H : f29_j14 kk x286 x5 x1 = some r := H
              refine PO.jn ⟨x286, H, rfl⟩ ?_
              exact (St.ok.to [1, 3, 8] 1 [(1, 0)] (by kernel_rfl) rfl (by kernel_rfl) rfl rfl (by kernel_rfl))
          · rintro _ ⟨x357, H, rfl⟩
            unfold f29_j14 at H
            refine PO.nx ?_
            refine WP.seq (by kernel_rfl) ?_
            refine WP.seq (by kernel_rfl) ?_
            refine WP.reg (by kernel_rfl) ?_
            refine U.seg 1 [1, 3, 128] [] (fun K => K [(1, Value.pointer (some ⟨b11, 0, none⟩)), (3, Value.slice a2 (List.length x1) c3), (128, Value.bool x357)] ((1, Ent.blk b11 25 [Value.slice a2 (List.length x1) c3, Value.slice a6 (List.length x5) c7]) :: fr)) (fun K => by kernel_rfl) 1 (by kernel_rfl) ?_
            refine WO.done (by kernel_rfl) ?_
            refine PO.nx ?_
            rcases cond_some H with ⟨h358, H⟩ | ⟨h358, H⟩
            · refine U.asW (t := 128) (congrArg Value.bool h358) (by kernel_rfl) ?_
              refine WP.condT (by kernel_rfl) ?_
              refine WP.seq (by kernel_rfl) ?_
              refine WP.reg (by kernel_rfl) ?_
              refine U.seg 1 [2] [] (fun K => K [(2, Value.int .i64 9)] ((1, Ent.blk b11 25 [Value.slice a2 (List.length x1) c3, Value.slice a6 (List.length x5) c7]) :: fr)) (fun K => by kernel_rfl) 1 (by kernel_rfl) ?_
              refine WO.done (by kernel_rfl) ?_
              refine PO.nx ?_
              refine WP.ret (by kernel_rfl) ?_
              refine PO.nx_ret ?_
              have hr := Option.some.inj H
              subst hr
              refine PO.body [Value.int .i64 9] ((1, Ent.blk b11 25 [Value.slice a2 (List.length x1) c3, Value.slice a6 (List.length x5) c7]) :: fr) rfl (Res.tmp (by kernel_rfl) Res.nil) ?_
              exact fun w hw => Ret.mk () trivial rfl (okNT 1 [] (by kernel_rfl) rfl hw)
            · refine U.asW (t := 128) (congrArg Value.bool h358) (by kernel_rfl) ?_
              refine WP.condF (by kernel_rfl) ?_
              refine WP.skip (by kernel_rfl) ?_
              refine PO.nx ?_
              refine WP.seq (by kernel_rfl) ?_
              refine WP.seq (by kernel_rfl) ?_
              refine WP.reg (by kernel_rfl) ?_
              refine U.seg 4 [1, 3, 132] [(1, .ld 1)] (fun K => (b11 = b11) ∧ (K [(1, Value.pointer (some ⟨b11, 0, none⟩)), (3, Value.slice a2 (List.length x1) c3), (132, Value.bool (decide (((List.length x5) : Int) > 6)))] ((1, Ent.blk b11 25 [Value.slice a2 (List.length x1) c3, Value.slice a6 (List.length x5) c7]) :: fr))) (fun K => by kernel_rfl) 4 (by kernel_rfl) ?_
              refine ⟨rfl, ?_⟩
              refine WO.done (by kernel_rfl) ?_
              refine PO.nx ?_
              rcases cond_some H with ⟨h359, H⟩ | ⟨h359, H⟩
              · refine U.asW (t := 132) (congrArg Value.bool h359) (by kernel_rfl) ?_
                refine WP.condT (by kernel_rfl) ?_
                refine WP.seq (by kernel_rfl) ?_
                refine WP.reg (by kernel_rfl) ?_
                refine U.seg 1 [2] [] (fun K => K [(2, Value.int .i64 3)] ((1, Ent.blk b11 25 [Value.slice a2 (List.length x1) c3, Value.slice a6 (List.length x5) c7]) :: fr)) (fun K => by kernel_rfl) 1 (by kernel_rfl) ?_
                refine WO.done (by kernel_rfl) ?_
                refine PO.nx ?_
                refine WP.ret (by kernel_rfl) ?_
                refine PO.nx_ret ?_
                have hr := Option.some.inj H
                subst hr
                refine PO.body [Value.int .i64 3] ((1, Ent.blk b11 25 [Value.slice a2 (List.length x1) c3, Value.slice a6 (List.length x5) c7]) :: fr) rfl (Res.tmp (by kernel_rfl) Res.nil) ?_
                exact fun w hw => Ret.mk () trivial rfl (okNT 1 [] (by kernel_rfl) rfl hw)
              · refine U.asW (t := 132) (congrArg Value.bool h359) (by kernel_rfl) ?_
                refine WP.condF (by kernel_rfl) ?_
                refine WP.skip (by kernel_rfl) ?_
                refine PO.nx ?_
                refine WP.seq (by kernel_rfl) ?_
                refine WP.seq (by kernel_rfl) ?_
                refine WP.reg (by kernel_rfl) ?_
                refine U.seg 4 [1, 3, 134, 135, 136] [(1, .ld 1)] (fun K => (b11 = b11) ∧ (K [(1, Value.pointer (some ⟨b11, 0, none⟩)), (3, Value.slice a2 (List.length x1) c3), (134, Value.slice a6 (List.length x5) c7), (135, Value.int .i64 ((List.length x5) : Int)), (136, Value.int .i64 0)] ((1, Ent.blk b11 25 [Value.slice a2 (List.length x1) c3, Value.slice a6 (List.length x5) c7]) :: fr))) (fun K => by kernel_rfl) 4 (by kernel_rfl) ?_
                refine ⟨rfl, ?_⟩
                refine WO.done (by kernel_rfl) ?_
                refine PO.nx ?_
                refine WP.join (fun s => f29_j49 kk = some r ∧ s = { n := 241, e := [], d := [], g := g, h := (fr) }) ?_ ?_
                · refine WP.block (id := 7) (by kernel_rfl) ?_
                  obtain ⟨o682, h848, h685⟩ := bnd_some H
                  refine WP.loopW (by kernel_rfl) (fun n s => ∃ (x681 : Int), iter (fun y : Int => f29_l37 kk y x5 x1) n x681 = some o682 ∧ s = { n := 241, e := [(1, Value.pointer (some ⟨b11, 0, none⟩)), (3, Value.slice a2 (List.length x1) c3), (134, Value.slice a6 (List.length x5) c7), (135, Value.int .i64 ((List.length x5) : Int)), (136, Value.int .i64 x681)], d := [], g := g, h := ((1, Ent.blk b11 25 [Value.slice a2 (List.length x1) c3, Value.slice a6 (List.length x5) c7]) :: fr) }) (k := kk) ⟨0, h848, rfl⟩ (St.ok.to [1, 3, 134, 135, 136] 1 [(1, 0)] (by kernel_rfl) rfl (by kernel_rfl) rfl rfl (by kernel_rfl)) ?_
                  intro n843 s
                  rintro ⟨x681, h844, rfl⟩
                  obtain ⟨n686, q683, h846, h847, h684⟩ := iter_some h844
                  subst h846
                  have H : f29_l37 kk x681 x5 x1 = some q683 := h847
                  unfold f29_l37 at H
                  refine WP.seq (by kernel_rfl) ?_
                  refine WP.reg (by kernel_rfl) ?_
                  refine U.seg 1 [1, 3, 134, 135, 136, 137] [] (fun K => K [(1, Value.pointer (some ⟨b11, 0, none⟩)), (3, Value.slice a2 (List.length x1) c3), (134, Value.slice a6 (List.length x5) c7), (135, Value.int .i64 ((List.length x5) : Int)), (136, Value.int .i64 x681), (137, Value.bool (decide (x681 < ((List.length x5) : Int))))] ((1, Ent.blk b11 25 [Value.slice a2 (List.length x1) c3, Value.slice a6 (List.length x5) c7]) :: fr)) (fun K => by kernel_rfl) 1 (by kernel_rfl) ?_
                  refine WO.done (by kernel_rfl) ?_
                  refine PO.nx ?_
                  refine WP.seq (by kernel_rfl) ?_
                  rcases cond_some H with ⟨h687, H⟩ | ⟨h687, H⟩
                  · refine U.asW (t := 137) (congrArg Value.bool h687) (by kernel_rfl) ?_
                    refine WP.condT (by kernel_rfl) ?_
                    refine WP.skip (by kernel_rfl) ?_
                    refine PO.nx ?_
                    refine WP.seq (by kernel_rfl) ?_
                    refine WP.block (id := 8) (by kernel_rfl) ?_
                    refine WP.seq (by kernel_rfl) ?_
                    refine WP.reg (by kernel_rfl) ?_
                    obtain ⟨x688, h689, H⟩ := bnd_some H
                    obtain ⟨h690, s691, h692, h693⟩ := Sl.at' (d := (Kd.pair (Kd.pair (Kd.int .i64) (Kd.int .i64)) (Kd.pair (Kd.int .i64) (Kd.int .i64)))) h10 h689
                    obtain ⟨_, _, rfl, ⟨_, _, rfl, rfl, rfl⟩, ⟨_, _, rfl, rfl, rfl⟩⟩ := h692
                    refine U.seg 6 [1, 3, 13, 14, 134, 135, 136] [(1, .s), (2, .lg (Value.agg #[Value.int .i64 x688.1.1, Value.int .i64 x688.1.2, Value.int .i64 x688.2.1, Value.int .i64 x688.2.2])), (3, .al 42), (5, .st 42)] (fun K => ((0 : Int) ≤ x681 ∧ x681 < ((List.length x5) : Nat) ∧ FlatA a6 (List.length x5)) ∧ ((GLoad g ⟨ab a6, ao a6 + (Int.toNat (x681)) * 4, none⟩ true 4 (Value.agg #[Value.int .i64 x688.1.1, Value.int .i64 x688.1.2, Value.int .i64 x688.2.1, Value.int .i64 x688.2.2])) ∧ (∀ b694 : Nat, (b694 = b694) ∧ (K [(1, Value.pointer (some ⟨b11, 0, none⟩)), (3, Value.slice a2 (List.length x1) c3), (13, Value.int .i64 x681), (14, Value.pointer (some ⟨b694, 0, none⟩)), (134, Value.slice a6 (List.length x5) c7), (135, Value.int .i64 ((List.length x5) : Int)), (136, Value.int .i64 x681)] ((42, Ent.blk b694 131 [Value.int .i64 x688.1.1, Value.int .i64 x688.1.2, Value.int .i64 x688.2.1, Value.int .i64 x688.2.2]) :: (1, Ent.blk b11 25 [Value.slice a2 (List.length x1) c3, Value.slice a6 (List.length x5) c7]) :: fr))))) (fun K => by kernel_rfl) 6 (by kernel_rfl) ?_
                    refine ⟨h690, ?_⟩
                    refine ⟨(h693 _ 0 _ _ _ rfl rfl rfl (OwnRead.agg rfl rfl)), ?_⟩
                    intro b694
                    refine ⟨rfl, ?_⟩
                    refine WO.done (by kernel_rfl) ?_
                    refine PO.nx ?_
                    refine WP.seq (by kernel_rfl) ?_
                    refine WP.seq (by kernel_rfl) ?_
                    refine WP.join (fun s => ∃ (x696 : Bool), f29_j38 kk x696 x688 x1 x681 x5 = some q683 ∧ s = { n := 241, e := [(1, Value.pointer (some ⟨b11, 0, none⟩)), (3, Value.slice a2 (List.length x1) c3), (13, Value.int .i64 x681), (14, Value.pointer (some ⟨b694, 0, none⟩)), (134, Value.slice a6 (List.length x5) c7), (135, Value.int .i64 ((List.length x5) : Int)), (136, Value.int .i64 x681), (156, Value.bool x696)], d := [], g := g, h := ((1, Ent.blk b11 25 [Value.slice a2 (List.length x1) c3, Value.slice a6 (List.length x5) c7]) :: (42, Ent.blk b694 131 [Value.int .i64 x688.1.1, Value.int .i64 x688.1.2, Value.int .i64 x688.2.1, Value.int .i64 x688.2.2]) :: fr) }) ?_ ?_
                    · refine WP.reg (by kernel_rfl) ?_
                      refine U.seg 8 [1, 3, 13, 14, 134, 135, 136, 148] [(2, .ld 42), (5, .ld 42)] (fun K => (b694 = b694) ∧ ((b694 = b694) ∧ (K [(1, Value.pointer (some ⟨b11, 0, none⟩)), (3, Value.slice a2 (List.length x1) c3), (13, Value.int .i64 x681), (14, Value.pointer (some ⟨b694, 0, none⟩)), (134, Value.slice a6 (List.length x5) c7), (135, Value.int .i64 ((List.length x5) : Int)), (136, Value.int .i64 x681), (148, Value.bool (decide (x688.1.1 ≥ x688.2.1)))] ((42, Ent.blk b694 131 [Value.int .i64 x688.1.1, Value.int .i64 x688.1.2, Value.int .i64 x688.2.1, Value.int .i64 x688.2.2]) :: (1, Ent.blk b11 25 [Value.slice a2 (List.length x1) c3, Value.slice a6 (List.length x5) c7]) :: fr)))) (fun K => by kernel_rfl) 8 (by kernel_rfl) ?_
                      refine ⟨rfl, ?_⟩
                      refine ⟨rfl, ?_⟩
                      rcases cond_some H with ⟨h695, H⟩ | ⟨h695, H⟩
                      · refine U.as (t := 148) (congrArg Value.bool h695) (by kernel_rfl) ?_
                        refine U.seg 8 [1, 3, 13, 14, 134, 135, 136, 149, 150, 151, 152, 153, 154, 155, 156] [] (fun K => K [(1, Value.pointer (some ⟨b11, 0, none⟩)), (3, Value.slice a2 (List.length x1) c3), (13, Value.int .i64 x681), (14, Value.pointer (some ⟨b694, 0, none⟩)), (134, Value.slice a6 (List.length x5) c7), (135, Value.int .i64 ((List.length x5) : Int)), (136, Value.int .i64 x681), (149, undef), (150, undef), (151, undef), (152, undef), (153, undef), (154, undef), (155, undef), (156, Value.bool true)] ((42, Ent.blk b694 131 [Value.int .i64 x688.1.1, Value.int .i64 x688.1.2, Value.int .i64 x688.2.1, Value.int .i64 x688.2.2]) :: (1, Ent.blk b11 25 [Value.slice a2 (List.length x1) c3, Value.slice a6 (List.length x5) c7]) :: fr)) (fun K => by kernel_rfl) 16 (by kernel_rfl) ?_
                        refine WO.done (by kernel_rfl) ?_
                        refine PO.jn ⟨true, H, rfl⟩ ?_
                        exact (St.ok.to [1, 3, 13, 14, 134, 135, 136, 156] 2 [(1, 1), (42, 0)] (by kernel_rfl) rfl (by kernel_rfl) rfl rfl (by kernel_rfl))
                      · refine U.as (t := 148) (congrArg Value.bool h695) (by kernel_rfl) ?_
                        refine U.seg 8 [1, 3, 13, 14, 134, 135, 136, 149, 150, 151, 152, 153, 154, 155, 156] [(10, .ld 42), (13, .ld 42)] (fun K => (b694 = b694) ∧ ((b694 = b694) ∧ (K [(1, Value.pointer (some ⟨b11, 0, none⟩)), (3, Value.slice a2 (List.length x1) c3), (13, Value.int .i64 x681), (14, Value.pointer (some ⟨b694, 0, none⟩)), (134, Value.slice a6 (List.length x5) c7), (135, Value.int .i64 ((List.length x5) : Int)), (136, Value.int .i64 x681), (149, Value.pointer (some ⟨b694, 0, none⟩)), (150, Value.pointer (some ⟨b694, 1, none⟩)), (151, Value.int .i64 x688.1.2), (152, Value.pointer (some ⟨b694, 2, none⟩)), (153, Value.pointer (some ⟨b694, 3, none⟩)), (154, Value.int .i64 x688.2.2), (155, Value.bool (decide (x688.1.2 ≥ x688.2.2))), (156, Value.bool (decide (x688.1.2 ≥ x688.2.2)))] ((42, Ent.blk b694 131 [Value.int .i64 x688.1.1, Value.int .i64 x688.1.2, Value.int .i64 x688.2.1, Value.int .i64 x688.2.2]) :: (1, Ent.blk b11 25 [Value.slice a2 (List.length x1) c3, Value.slice a6 (List.length x5) c7]) :: fr)))) (fun K => by kernel_rfl) 16 (by kernel_rfl) ?_
                        refine ⟨rfl, ?_⟩
                        refine ⟨rfl, ?_⟩
                        refine WO.done (by kernel_rfl) ?_
                        refine PO.jn ⟨(decide (x688.1.2 ≥ x688.2.2)), H, rfl⟩ ?_
                        exact (St.ok.to [1, 3, 13, 14, 134, 135, 136, 156] 2 [(1, 1), (42, 0)] (by kernel_rfl) rfl (by kernel_rfl) rfl rfl (by kernel_rfl))
                    · rintro _ ⟨x696, H, rfl⟩
                      unfold f29_j38 at H
                      refine PO.nx ?_
                      rcases cond_some H with ⟨h697, H⟩ | ⟨h697, H⟩
                      · refine U.asW (t := 156) (congrArg Value.bool h697) (by kernel_rfl) ?_
                        refine WP.condT (by kernel_rfl) ?_
                        refine WP.seq (by kernel_rfl) ?_
                        refine WP.reg (by kernel_rfl) ?_
                        refine U.seg 1 [2] [] (fun K => K [(2, Value.int .i64 1)] ((1, Ent.blk b11 25 [Value.slice a2 (List.length x1) c3, Value.slice a6 (List.length x5) c7]) :: (42, Ent.blk b694 131 [Value.int .i64 x688.1.1, Value.int .i64 x688.1.2, Value.int .i64 x688.2.1, Value.int .i64 x688.2.2]) :: fr)) (fun K => by kernel_rfl) 1 (by kernel_rfl) ?_
                        refine WO.done (by kernel_rfl) ?_
                        refine PO.nx ?_
                        refine WP.ret (by kernel_rfl) ?_
                        refine PO.nx_ret ?_
                        refine PO.blk_ret ?_
                        refine PO.nx_ret ?_
                        refine PO.lp_ret ?_
                        refine PO.blk_ret ?_
                        refine PO.jn_ret ?_
                        refine PO.nx_ret ?_
                        have hq := Option.some.inj H
                        subst hq
                        have H := h685
                        rw [← (show _ = o682 from h684)] at H
                        have H : some 1 = some r := H
                        have hr := Option.some.inj H
                        subst hr
                        refine PO.body [Value.int .i64 1] ((1, Ent.blk b11 25 [Value.slice a2 (List.length x1) c3, Value.slice a6 (List.length x5) c7]) :: (42, Ent.blk b694 131 [Value.int .i64 x688.1.1, Value.int .i64 x688.1.2, Value.int .i64 x688.2.1, Value.int .i64 x688.2.2]) :: fr) rfl (Res.tmp (by kernel_rfl) Res.nil) ?_
                        exact fun w hw => Ret.mk () trivial rfl (okNT 2 [] (by kernel_rfl) rfl hw)
                      · refine U.asW (t := 156) (congrArg Value.bool h697) (by kernel_rfl) ?_
                        refine WP.condF (by kernel_rfl) ?_
                        refine WP.skip (by kernel_rfl) ?_
                        refine PO.nx ?_
                        refine WP.seq (by kernel_rfl) ?_
                        refine WP.seq (by kernel_rfl) ?_
                        refine WP.reg (by kernel_rfl) ?_
                        have h699 : Rw (Kd.pair (Kd.int .i64) (Kd.int .i64)) g [Value.int .i64 x688.1.1, Value.int .i64 x688.1.2, Value.int .i64 x688.2.1, Value.int .i64 x688.2.2, Value.int .i64 x688.1.1, Value.int .i64 x688.2.2, Value.int .i64 x688.2.1, Value.int .i64 x688.1.2] [(x688.1.1, x688.1.2), (x688.2.1, x688.2.2), (x688.1.1, x688.2.2), (x688.2.1, x688.1.2)] := ⟨[Value.int .i64 x688.1.1, Value.int .i64 x688.1.2], [Value.int .i64 x688.2.1, Value.int .i64 x688.2.2, Value.int .i64 x688.1.1, Value.int .i64 x688.2.2, Value.int .i64 x688.2.1, Value.int .i64 x688.1.2], rfl, ⟨[Value.int .i64 x688.1.1], [Value.int .i64 x688.1.2], rfl, rfl, rfl⟩, ⟨[Value.int .i64 x688.2.1, Value.int .i64 x688.2.2], [Value.int .i64 x688.1.1, Value.int .i64 x688.2.2, Value.int .i64 x688.2.1, Value.int .i64 x688.1.2], rfl, ⟨[Value.int .i64 x688.2.1], [Value.int .i64 x688.2.2], rfl, rfl, rfl⟩, ⟨[Value.int .i64 x688.1.1, Value.int .i64 x688.2.2], [Value.int .i64 x688.2.1, Value.int .i64 x688.1.2], rfl, ⟨[Value.int .i64 x688.1.1], [Value.int .i64 x688.2.2], rfl, rfl, rfl⟩, ⟨[Value.int .i64 x688.2.1, Value.int .i64 x688.1.2], [], rfl, ⟨[Value.int .i64 x688.2.1], [Value.int .i64 x688.1.2], rfl, rfl, rfl⟩, rfl⟩⟩⟩⟩
                        refine U.seg 21 [1, 3, 13, 14, 134, 135, 136, 175, 176, 177] [(1, .ld 42), (3, .ld 42), (6, .ld 42), (9, .ld 42), (13, .ld 42), (16, .ld 42), (18, .al 43)] (fun K => (b694 = b694) ∧ ((b694 = b694) ∧ ((b694 = b694) ∧ ((b694 = b694) ∧ ((b694 = b694) ∧ ((b694 = b694) ∧ (∀ b698 : Nat, K [(1, Value.pointer (some ⟨b11, 0, none⟩)), (3, Value.slice a2 (List.length x1) c3), (13, Value.int .i64 x681), (14, Value.pointer (some ⟨b694, 0, none⟩)), (134, Value.slice a6 (List.length x5) c7), (135, Value.int .i64 ((List.length x5) : Int)), (136, Value.int .i64 x681), (175, Value.slice (some ⟨b698, 0, none⟩ : Option Addr) 4 4), (176, Value.int .i64 (4 : Int)), (177, Value.int .i64 0)] ((43, Ent.sl (some ⟨b698, 0, none⟩ : Option Addr) 4 4 42 2 [Value.int .i64 x688.1.1, Value.int .i64 x688.1.2, Value.int .i64 x688.2.1, Value.int .i64 x688.2.2, Value.int .i64 x688.1.1, Value.int .i64 x688.2.2, Value.int .i64 x688.2.1, Value.int .i64 x688.1.2]) :: (1, Ent.blk b11 25 [Value.slice a2 (List.length x1) c3, Value.slice a6 (List.length x5) c7]) :: (42, Ent.blk b694 131 [Value.int .i64 x688.1.1, Value.int .i64 x688.1.2, Value.int .i64 x688.2.1, Value.int .i64 x688.2.2]) :: fr)))))))) (fun K => by kernel_rfl) 21 (by kernel_rfl) ?_
                        refine ⟨rfl, ?_⟩
                        refine ⟨rfl, ?_⟩
                        refine ⟨rfl, ?_⟩
                        refine ⟨rfl, ?_⟩
                        refine ⟨rfl, ?_⟩
                        refine ⟨rfl, ?_⟩
                        intro b698
                        refine WO.done (by kernel_rfl) ?_
                        refine PO.nx ?_
                        refine WP.join (fun s => f29_j43 kk x681 x5 x688 = some q683 ∧ s = { n := 241, e := [(1, Value.pointer (some ⟨b11, 0, none⟩)), (3, Value.slice a2 (List.length x1) c3), (13, Value.int .i64 x681), (14, Value.pointer (some ⟨b694, 0, none⟩)), (134, Value.slice a6 (List.length x5) c7), (135, Value.int .i64 ((List.length x5) : Int)), (136, Value.int .i64 x681)], d := [], g := g, h := ((1, Ent.blk b11 25 [Value.slice a2 (List.length x1) c3, Value.slice a6 (List.length x5) c7]) :: (42, Ent.blk b694 131 [Value.int .i64 x688.1.1, Value.int .i64 x688.1.2, Value.int .i64 x688.2.1, Value.int .i64 x688.2.2]) :: fr) }) ?_ ?_
                        · refine WP.block (id := 9) (by kernel_rfl) ?_
                          obtain ⟨o751, h781, h754⟩ := bnd_some H
                          refine WP.loopW (by kernel_rfl) (fun n s => ∃ (x750 : Int), iter (fun y : Int => f29_l41 kk y x688 x1 x681 x5) n x750 = some o751 ∧ s = { n := 241, e := [(1, Value.pointer (some ⟨b11, 0, none⟩)), (3, Value.slice a2 (List.length x1) c3), (13, Value.int .i64 x681), (14, Value.pointer (some ⟨b694, 0, none⟩)), (134, Value.slice a6 (List.length x5) c7), (135, Value.int .i64 ((List.length x5) : Int)), (136, Value.int .i64 x681), (175, Value.slice (some ⟨b698, 0, none⟩ : Option Addr) 4 4), (176, Value.int .i64 (4 : Int)), (177, Value.int .i64 x750)], d := [], g := g, h := ((1, Ent.blk b11 25 [Value.slice a2 (List.length x1) c3, Value.slice a6 (List.length x5) c7]) :: (42, Ent.blk b694 131 [Value.int .i64 x688.1.1, Value.int .i64 x688.1.2, Value.int .i64 x688.2.1, Value.int .i64 x688.2.2]) :: (43, Ent.sl (some ⟨b698, 0, none⟩ : Option Addr) 4 4 42 2 [Value.int .i64 x688.1.1, Value.int .i64 x688.1.2, Value.int .i64 x688.2.1, Value.int .i64 x688.2.2, Value.int .i64 x688.1.1, Value.int .i64 x688.2.2, Value.int .i64 x688.2.1, Value.int .i64 x688.1.2]) :: fr) }) (k := kk) ⟨0, h781, rfl⟩ (St.ok.to [1, 3, 13, 14, 134, 135, 136, 175, 176, 177] 3 [(1, 1), (42, 2), (43, 0)] (by kernel_rfl) rfl (by kernel_rfl) rfl rfl (by kernel_rfl)) ?_
                          intro n776 s
                          rintro ⟨x750, h777, rfl⟩
                          obtain ⟨n755, q752, h779, h780, h753⟩ := iter_some h777
                          subst h779
                          have H : f29_l41 kk x750 x688 x1 x681 x5 = some q752 := h780
                          unfold f29_l41 at H
                          refine WP.seq (by kernel_rfl) ?_
                          refine WP.reg (by kernel_rfl) ?_
                          refine U.seg 1 [1, 3, 13, 14, 134, 135, 136, 175, 176, 177, 178] [] (fun K => K [(1, Value.pointer (some ⟨b11, 0, none⟩)), (3, Value.slice a2 (List.length x1) c3), (13, Value.int .i64 x681), (14, Value.pointer (some ⟨b694, 0, none⟩)), (134, Value.slice a6 (List.length x5) c7), (135, Value.int .i64 ((List.length x5) : Int)), (136, Value.int .i64 x681), (175, Value.slice (some ⟨b698, 0, none⟩ : Option Addr) 4 4), (176, Value.int .i64 (4 : Int)), (177, Value.int .i64 x750), (178, Value.bool (decide (x750 < (4 : Int))))] ((1, Ent.blk b11 25 [Value.slice a2 (List.length x1) c3, Value.slice a6 (List.length x5) c7]) :: (42, Ent.blk b694 131 [Value.int .i64 x688.1.1, Value.int .i64 x688.1.2, Value.int .i64 x688.2.1, Value.int .i64 x688.2.2]) :: (43, Ent.sl (some ⟨b698, 0, none⟩ : Option Addr) 4 4 42 2 [Value.int .i64 x688.1.1, Value.int .i64 x688.1.2, Value.int .i64 x688.2.1, Value.int .i64 x688.2.2, Value.int .i64 x688.1.1, Value.int .i64 x688.2.2, Value.int .i64 x688.2.1, Value.int .i64 x688.1.2]) :: fr)) (fun K => by kernel_rfl) 1 (by kernel_rfl) ?_
                          refine WO.done (by kernel_rfl) ?_
                          refine PO.nx ?_
                          refine WP.seq (by kernel_rfl) ?_
                          rcases cond_some H with ⟨h756, H⟩ | ⟨h756, H⟩
                          · refine U.asW (t := 178) (congrArg Value.bool h756) (by kernel_rfl) ?_
                            refine WP.condT (by kernel_rfl) ?_
                            refine WP.skip (by kernel_rfl) ?_
                            refine PO.nx ?_
                            refine WP.seq (by kernel_rfl) ?_
                            refine WP.block (id := 10) (by kernel_rfl) ?_
                            refine WP.seq (by kernel_rfl) ?_
                            refine WP.reg (by kernel_rfl) ?_
                            obtain ⟨x757, h758, H⟩ := bnd_some H
                            obtain ⟨h759, s760, h761, h762, h763⟩ := Rw.elt (d := (Kd.pair (Kd.int .i64) (Kd.int .i64))) h699 h758
                            obtain ⟨_, _, rfl, rfl, rfl⟩ := h761
                            refine U.seg 4 [1, 3, 13, 14, 16, 134, 135, 136, 175, 176, 177] [(0, .o 43), (1, .lv 43 (Value.agg #[Value.int .i64 x757.1, Value.int .i64 x757.2])), (2, .al 46), (3, .st 46)] (fun K => ((0 : Int) ≤ x750 ∧ x750 < (4 : Nat) ∧ (some ⟨b698, 0, none⟩ : Option Addr) = (some ⟨b698, 0, none⟩ : Option Addr) ∧ 4 = 4) ∧ ((ab (some ⟨b698, 0, none⟩ : Option Addr) = ab (some ⟨b698, 0, none⟩ : Option Addr) ∧ OwnRead [Value.int .i64 x688.1.1, Value.int .i64 x688.1.2, Value.int .i64 x688.2.1, Value.int .i64 x688.2.2, Value.int .i64 x688.1.1, Value.int .i64 x688.2.2, Value.int .i64 x688.2.1, Value.int .i64 x688.1.2] ((Int.toNat (x750)) * 2) true 2 (Value.agg #[Value.int .i64 x757.1, Value.int .i64 x757.2])) ∧ (∀ b764 : Nat, (b764 = b764) ∧ (K [(1, Value.pointer (some ⟨b11, 0, none⟩)), (3, Value.slice a2 (List.length x1) c3), (13, Value.int .i64 x681), (14, Value.pointer (some ⟨b694, 0, none⟩)), (16, Value.pointer (some ⟨b764, 0, none⟩)), (134, Value.slice a6 (List.length x5) c7), (135, Value.int .i64 ((List.length x5) : Int)), (136, Value.int .i64 x681), (175, Value.slice (some ⟨b698, 0, none⟩ : Option Addr) 4 4), (176, Value.int .i64 (4 : Int)), (177, Value.int .i64 x750)] ((46, Ent.blk b764 42 [Value.int .i64 x757.1, Value.int .i64 x757.2]) :: (1, Ent.blk b11 25 [Value.slice a2 (List.length x1) c3, Value.slice a6 (List.length x5) c7]) :: (42, Ent.blk b694 131 [Value.int .i64 x688.1.1, Value.int .i64 x688.1.2, Value.int .i64 x688.2.1, Value.int .i64 x688.2.2]) :: (43, Ent.sl (some ⟨b698, 0, none⟩ : Option Addr) 4 4 42 2 [Value.int .i64 x688.1.1, Value.int .i64 x688.1.2, Value.int .i64 x688.2.1, Value.int .i64 x688.2.2, Value.int .i64 x688.1.1, Value.int .i64 x688.2.2, Value.int .i64 x688.2.1, Value.int .i64 x688.1.2]) :: fr))))) (fun K => by kernel_rfl) 4 (by kernel_rfl) ?_
                            refine ⟨⟨h759.1, h759.2, rfl, rfl⟩, ?_⟩
                            refine ⟨⟨rfl, h762 0 _ _ _ (OwnRead.agg rfl rfl)⟩, ?_⟩
                            intro b764
                            refine ⟨rfl, ?_⟩
                            refine WO.done (by kernel_rfl) ?_
                            refine PO.nx ?_
                            refine WP.seq (by kernel_rfl) ?_
                            refine WP.join (fun s => ∃ (x773 : Bool), f29_j42 kk x773 x750 = some q752 ∧ s = { n := 241, e := [(1, Value.pointer (some ⟨b11, 0, none⟩)), (3, Value.slice a2 (List.length x1) c3), (13, Value.int .i64 x681), (14, Value.pointer (some ⟨b694, 0, none⟩)), (134, Value.slice a6 (List.length x5) c7), (135, Value.int .i64 ((List.length x5) : Int)), (136, Value.int .i64 x681), (175, Value.slice (some ⟨b698, 0, none⟩ : Option Addr) 4 4), (176, Value.int .i64 (4 : Int)), (177, Value.int .i64 x750), (196, Value.bool x773)], d := [], g := g, h := ((1, Ent.blk b11 25 [Value.slice a2 (List.length x1) c3, Value.slice a6 (List.length x5) c7]) :: (42, Ent.blk b694 131 [Value.int .i64 x688.1.1, Value.int .i64 x688.1.2, Value.int .i64 x688.2.1, Value.int .i64 x688.2.2]) :: (43, Ent.sl (some ⟨b698, 0, none⟩ : Option Addr) 4 4 42 2 [Value.int .i64 x688.1.1, Value.int .i64 x688.1.2, Value.int .i64 x688.2.1, Value.int .i64 x688.2.2, Value.int .i64 x688.1.1, Value.int .i64 x688.2.2, Value.int .i64 x688.2.1, Value.int .i64 x688.1.2]) :: fr) }) ?_ ?_
                            · refine WP.reg (by kernel_rfl) ?_
                              refine U.seg 2 [1, 3, 13, 14, 16, 134, 135, 136, 175, 176, 177, 182] [(1, .ld 46)] (fun K => (b764 = b764) ∧ (K [(1, Value.pointer (some ⟨b11, 0, none⟩)), (3, Value.slice a2 (List.length x1) c3), (13, Value.int .i64 x681), (14, Value.pointer (some ⟨b694, 0, none⟩)), (16, Value.pointer (some ⟨b764, 0, none⟩)), (134, Value.slice a6 (List.length x5) c7), (135, Value.int .i64 ((List.length x5) : Int)), (136, Value.int .i64 x681), (175, Value.slice (some ⟨b698, 0, none⟩ : Option Addr) 4 4), (176, Value.int .i64 (4 : Int)), (177, Value.int .i64 x750), (182, Value.int .i64 x757.1)] ((46, Ent.blk b764 42 [Value.int .i64 x757.1, Value.int .i64 x757.2]) :: (1, Ent.blk b11 25 [Value.slice a2 (List.length x1) c3, Value.slice a6 (List.length x5) c7]) :: (42, Ent.blk b694 131 [Value.int .i64 x688.1.1, Value.int .i64 x688.1.2, Value.int .i64 x688.2.1, Value.int .i64 x688.2.2]) :: (43, Ent.sl (some ⟨b698, 0, none⟩ : Option Addr) 4 4 42 2 [Value.int .i64 x688.1.1, Value.int .i64 x688.1.2, Value.int .i64 x688.2.1, Value.int .i64 x688.2.2, Value.int .i64 x688.1.1, Value.int .i64 x688.2.2, Value.int .i64 x688.2.1, Value.int .i64 x688.1.2]) :: fr))) (fun K => by kernel_rfl) 2 (by kernel_rfl) ?_
                              refine ⟨rfl, ?_⟩
                              obtain ⟨x765, h766, H⟩ := bnd_some H
                              refine U.step 3 (by kernel_rfl) (U.call (dst := some 183) (fun w hw => c_f67 kk x757.1 0 400 h766 hw) (by kernel_rfl) (enters_of Try.func67 (by kernel_rfl) rfl)) ?_
                              rintro _ _
                              refine U.seg 2 [1, 3, 13, 14, 16, 134, 135, 136, 175, 176, 177, 185] [] (fun K => K [(1, Value.pointer (some ⟨b11, 0, none⟩)), (3, Value.slice a2 (List.length x1) c3), (13, Value.int .i64 x681), (14, Value.pointer (some ⟨b694, 0, none⟩)), (16, Value.pointer (some ⟨b764, 0, none⟩)), (134, Value.slice a6 (List.length x5) c7), (135, Value.int .i64 ((List.length x5) : Int)), (136, Value.int .i64 x681), (175, Value.slice (some ⟨b698, 0, none⟩ : Option Addr) 4 4), (176, Value.int .i64 (4 : Int)), (177, Value.int .i64 x750), (185, Value.bool (!x765))] ((46, Ent.blk b764 42 [Value.int .i64 x757.1, Value.int .i64 x757.2]) :: (1, Ent.blk b11 25 [Value.slice a2 (List.length x1) c3, Value.slice a6 (List.length x5) c7]) :: (42, Ent.blk b694 131 [Value.int .i64 x688.1.1, Value.int .i64 x688.1.2, Value.int .i64 x688.2.1, Value.int .i64 x688.2.2]) :: (43, Ent.sl (some ⟨b698, 0, none⟩ : Option Addr) 4 4 42 2 [Value.int .i64 x688.1.1, Value.int .i64 x688.1.2, Value.int .i64 x688.2.1, Value.int .i64 x688.2.2, Value.int .i64 x688.1.1, Value.int .i64 x688.2.2, Value.int .i64 x688.2.1, Value.int .i64 x688.1.2]) :: fr)) (fun K => by kernel_rfl) 5 (by kernel_rfl) ?_
                              rcases cond_some H with ⟨h767, H⟩ | ⟨h767, H⟩
                              · refine U.as (t := 185) (congrArg Value.bool h767) (by kernel_rfl) ?_
                                refine U.seg 11 [1, 3, 13, 14, 134, 135, 136, 175, 176, 177, 186, 187, 188, 189, 192, 193, 194, 195, 196] [] (fun K => K [(1, Value.pointer (some ⟨b11, 0, none⟩)), (3, Value.slice a2 (List.length x1) c3), (13, Value.int .i64 x681), (14, Value.pointer (some ⟨b694, 0, none⟩)), (134, Value.slice a6 (List.length x5) c7), (135, Value.int .i64 ((List.length x5) : Int)), (136, Value.int .i64 x681), (175, Value.slice (some ⟨b698, 0, none⟩ : Option Addr) 4 4), (176, Value.int .i64 (4 : Int)), (177, Value.int .i64 x750), (186, undef), (187, undef), (188, undef), (189, undef), (192, undef), (193, undef), (194, undef), (195, undef), (196, Value.bool true)] ((46, Ent.blk b764 42 [Value.int .i64 x757.1, Value.int .i64 x757.2]) :: (1, Ent.blk b11 25 [Value.slice a2 (List.length x1) c3, Value.slice a6 (List.length x5) c7]) :: (42, Ent.blk b694 131 [Value.int .i64 x688.1.1, Value.int .i64 x688.1.2, Value.int .i64 x688.2.1, Value.int .i64 x688.2.2]) :: (43, Ent.sl (some ⟨b698, 0, none⟩ : Option Addr) 4 4 42 2 [Value.int .i64 x688.1.1, Value.int .i64 x688.1.2, Value.int .i64 x688.2.1, Value.int .i64 x688.2.2, Value.int .i64 x688.1.1, Value.int .i64 x688.2.2, Value.int .i64 x688.2.1, Value.int .i64 x688.1.2]) :: fr)) (fun K => by kernel_rfl) 16 (by kernel_rfl) ?_
                                refine WO.done (by kernel_rfl) ?_
                                refine PO.jn ⟨true, H, rfl⟩ ?_
                                exact (St.ok.to [1, 3, 13, 14, 134, 135, 136, 175, 176, 177, 196] 4 [(1, 1), (42, 2), (43, 3)] (by kernel_rfl) rfl (by kernel_rfl) rfl rfl (by kernel_rfl))
                              · refine U.as (t := 185) (congrArg Value.bool h767) (by kernel_rfl) ?_
                                refine U.seg 2 [1, 3, 13, 14, 16, 134, 135, 136, 175, 176, 177, 185, 186, 187] [(6, .ld 46)] (fun K => (b764 = b764) ∧ (K [(1, Value.pointer (some ⟨b11, 0, none⟩)), (3, Value.slice a2 (List.length x1) c3), (13, Value.int .i64 x681), (14, Value.pointer (some ⟨b694, 0, none⟩)), (16, Value.pointer (some ⟨b764, 0, none⟩)), (134, Value.slice a6 (List.length x5) c7), (135, Value.int .i64 ((List.length x5) : Int)), (136, Value.int .i64 x681), (175, Value.slice (some ⟨b698, 0, none⟩ : Option Addr) 4 4), (176, Value.int .i64 (4 : Int)), (177, Value.int .i64 x750), (185, Value.bool false), (186, Value.pointer (some ⟨b764, 1, none⟩)), (187, Value.int .i64 x757.2)] ((46, Ent.blk b764 42 [Value.int .i64 x757.1, Value.int .i64 x757.2]) :: (1, Ent.blk b11 25 [Value.slice a2 (List.length x1) c3, Value.slice a6 (List.length x5) c7]) :: (42, Ent.blk b694 131 [Value.int .i64 x688.1.1, Value.int .i64 x688.1.2, Value.int .i64 x688.2.1, Value.int .i64 x688.2.2]) :: (43, Ent.sl (some ⟨b698, 0, none⟩ : Option Addr) 4 4 42 2 [Value.int .i64 x688.1.1, Value.int .i64 x688.1.2, Value.int .i64 x688.2.1, Value.int .i64 x688.2.2, Value.int .i64 x688.1.1, Value.int .i64 x688.2.2, Value.int .i64 x688.2.1, Value.int .i64 x688.1.2]) :: fr))) (fun K => by kernel_rfl) 7 (by kernel_rfl) ?_
                                refine ⟨rfl, ?_⟩
                                obtain ⟨x768, h769, H⟩ := bnd_some H
                                refine U.step 8 (by kernel_rfl) (U.call (dst := some 188) (fun w hw => c_f67 kk x757.2 0 400 h769 hw) (by kernel_rfl) (enters_of Try.func67 (by kernel_rfl) rfl)) ?_
                                rintro _ _
                                refine U.seg 3 [1, 3, 13, 14, 16, 134, 135, 136, 175, 176, 177, 186, 187, 188, 189, 191] [] (fun K => K [(1, Value.pointer (some ⟨b11, 0, none⟩)), (3, Value.slice a2 (List.length x1) c3), (13, Value.int .i64 x681), (14, Value.pointer (some ⟨b694, 0, none⟩)), (16, Value.pointer (some ⟨b764, 0, none⟩)), (134, Value.slice a6 (List.length x5) c7), (135, Value.int .i64 ((List.length x5) : Int)), (136, Value.int .i64 x681), (175, Value.slice (some ⟨b698, 0, none⟩ : Option Addr) 4 4), (176, Value.int .i64 (4 : Int)), (177, Value.int .i64 x750), (186, Value.pointer (some ⟨b764, 1, none⟩)), (187, Value.int .i64 x757.2), (188, Value.bool x768), (189, Value.bool (!x768)), (191, Value.bool (!x768))] ((46, Ent.blk b764 42 [Value.int .i64 x757.1, Value.int .i64 x757.2]) :: (1, Ent.blk b11 25 [Value.slice a2 (List.length x1) c3, Value.slice a6 (List.length x5) c7]) :: (42, Ent.blk b694 131 [Value.int .i64 x688.1.1, Value.int .i64 x688.1.2, Value.int .i64 x688.2.1, Value.int .i64 x688.2.2]) :: (43, Ent.sl (some ⟨b698, 0, none⟩ : Option Addr) 4 4 42 2 [Value.int .i64 x688.1.1, Value.int .i64 x688.1.2, Value.int .i64 x688.2.1, Value.int .i64 x688.2.2, Value.int .i64 x688.1.1, Value.int .i64 x688.2.2, Value.int .i64 x688.2.1, Value.int .i64 x688.1.2]) :: fr)) (fun K => by kernel_rfl) 11 (by kernel_rfl) ?_
                                rcases cond_some H with ⟨h770, H⟩ | ⟨h770, H⟩
                                · refine U.as (t := 191) (congrArg Value.bool h770) (by kernel_rfl) ?_
                                  refine U.seg 5 [1, 3, 13, 14, 134, 135, 136, 175, 176, 177, 186, 187, 188, 189, 192, 193, 194, 195, 196] [] (fun K => K [(1, Value.pointer (some ⟨b11, 0, none⟩)), (3, Value.slice a2 (List.length x1) c3), (13, Value.int .i64 x681), (14, Value.pointer (some ⟨b694, 0, none⟩)), (134, Value.slice a6 (List.length x5) c7), (135, Value.int .i64 ((List.length x5) : Int)), (136, Value.int .i64 x681), (175, Value.slice (some ⟨b698, 0, none⟩ : Option Addr) 4 4), (176, Value.int .i64 (4 : Int)), (177, Value.int .i64 x750), (186, Value.pointer (some ⟨b764, 1, none⟩)), (187, Value.int .i64 x757.2), (188, Value.bool x768), (189, Value.bool (!x768)), (192, undef), (193, undef), (194, undef), (195, undef), (196, Value.bool true)] ((46, Ent.blk b764 42 [Value.int .i64 x757.1, Value.int .i64 x757.2]) :: (1, Ent.blk b11 25 [Value.slice a2 (List.length x1) c3, Value.slice a6 (List.length x5) c7]) :: (42, Ent.blk b694 131 [Value.int .i64 x688.1.1, Value.int .i64 x688.1.2, Value.int .i64 x688.2.1, Value.int .i64 x688.2.2]) :: (43, Ent.sl (some ⟨b698, 0, none⟩ : Option Addr) 4 4 42 2 [Value.int .i64 x688.1.1, Value.int .i64 x688.1.2, Value.int .i64 x688.2.1, Value.int .i64 x688.2.2, Value.int .i64 x688.1.1, Value.int .i64 x688.2.2, Value.int .i64 x688.2.1, Value.int .i64 x688.1.2]) :: fr)) (fun K => by kernel_rfl) 16 (by kernel_rfl) ?_
                                  refine WO.done (by kernel_rfl) ?_
                                  refine PO.jn ⟨true, H, rfl⟩ ?_
                                  exact (St.ok.to [1, 3, 13, 14, 134, 135, 136, 175, 176, 177, 196] 4 [(1, 1), (42, 2), (43, 3)] (by kernel_rfl) rfl (by kernel_rfl) rfl rfl (by kernel_rfl))
                                · refine U.as (t := 191) (congrArg Value.bool h770) (by kernel_rfl) ?_
                                  refine U.seg 2 [1, 3, 13, 14, 134, 135, 136, 175, 176, 177, 186, 187, 188, 189, 191, 192, 193] [(12, .ld 46)] (fun K => (b764 = b764) ∧ (K [(1, Value.pointer (some ⟨b11, 0, none⟩)), (3, Value.slice a2 (List.length x1) c3), (13, Value.int .i64 x681), (14, Value.pointer (some ⟨b694, 0, none⟩)), (134, Value.slice a6 (List.length x5) c7), (135, Value.int .i64 ((List.length x5) : Int)), (136, Value.int .i64 x681), (175, Value.slice (some ⟨b698, 0, none⟩ : Option Addr) 4 4), (176, Value.int .i64 (4 : Int)), (177, Value.int .i64 x750), (186, Value.pointer (some ⟨b764, 1, none⟩)), (187, Value.int .i64 x757.2), (188, Value.bool x768), (189, Value.bool (!x768)), (191, Value.bool false), (192, Value.slice a2 (List.length x1) c3), (193, Value.agg #[Value.int .i64 x757.1, Value.int .i64 x757.2])] ((46, Ent.blk b764 42 [Value.int .i64 x757.1, Value.int .i64 x757.2]) :: (1, Ent.blk b11 25 [Value.slice a2 (List.length x1) c3, Value.slice a6 (List.length x5) c7]) :: (42, Ent.blk b694 131 [Value.int .i64 x688.1.1, Value.int .i64 x688.1.2, Value.int .i64 x688.2.1, Value.int .i64 x688.2.2]) :: (43, Ent.sl (some ⟨b698, 0, none⟩ : Option Addr) 4 4 42 2 [Value.int .i64 x688.1.1, Value.int .i64 x688.1.2, Value.int .i64 x688.2.1, Value.int .i64 x688.2.2, Value.int .i64 x688.1.1, Value.int .i64 x688.2.2, Value.int .i64 x688.2.1, Value.int .i64 x688.1.2]) :: fr))) (fun K => by kernel_rfl) 13 (by kernel_rfl) ?_
                                  refine ⟨rfl, ?_⟩
                                  obtain ⟨x771, h772, H⟩ := bnd_some H
                                  refine U.step 14 (by kernel_rfl) (U.call (dst := some 194) (fun w hw => c_f69 kk x1 x757.1 x757.2 1 a2 c3 h9 h772 hw) (by kernel_rfl) (enters_of Try.func69 (by kernel_rfl) rfl)) ?_
                                  rintro _ _
                                  refine U.seg 2 [1, 3, 13, 14, 134, 135, 136, 175, 176, 177, 186, 187, 188, 189, 192, 193, 194, 195, 196] [] (fun K => K [(1, Value.pointer (some ⟨b11, 0, none⟩)), (3, Value.slice a2 (List.length x1) c3), (13, Value.int .i64 x681), (14, Value.pointer (some ⟨b694, 0, none⟩)), (134, Value.slice a6 (List.length x5) c7), (135, Value.int .i64 ((List.length x5) : Int)), (136, Value.int .i64 x681), (175, Value.slice (some ⟨b698, 0, none⟩ : Option Addr) 4 4), (176, Value.int .i64 (4 : Int)), (177, Value.int .i64 x750), (186, Value.pointer (some ⟨b764, 1, none⟩)), (187, Value.int .i64 x757.2), (188, Value.bool x768), (189, Value.bool (!x768)), (192, Value.slice a2 (List.length x1) c3), (193, Value.agg #[Value.int .i64 x757.1, Value.int .i64 x757.2]), (194, Value.bool x771), (195, Value.bool (!x771)), (196, Value.bool (!x771))] ((46, Ent.blk b764 42 [Value.int .i64 x757.1, Value.int .i64 x757.2]) :: (1, Ent.blk b11 25 [Value.slice a2 (List.length x1) c3, Value.slice a6 (List.length x5) c7]) :: (42, Ent.blk b694 131 [Value.int .i64 x688.1.1, Value.int .i64 x688.1.2, Value.int .i64 x688.2.1, Value.int .i64 x688.2.2]) :: (43, Ent.sl (some ⟨b698, 0, none⟩ : Option Addr) 4 4 42 2 [Value.int .i64 x688.1.1, Value.int .i64 x688.1.2, Value.int .i64 x688.2.1, Value.int .i64 x688.2.2, Value.int .i64 x688.1.1, Value.int .i64 x688.2.2, Value.int .i64 x688.2.1, Value.int .i64 x688.1.2]) :: fr)) (fun K => by kernel_rfl) 16 (by kernel_rfl) ?_
                                  refine WO.done (by kernel_rfl) ?_
                                  refine PO.jn ⟨(!x771), H, rfl⟩ ?_
                                  exact (St.ok.to [1, 3, 13, 14, 134, 135, 136, 175, 176, 177, 196] 4 [(1, 1), (42, 2), (43, 3)] (by kernel_rfl) rfl (by kernel_rfl) rfl rfl (by kernel_rfl))
                            · rintro _ ⟨x773, H, rfl⟩
                              unfold f29_j42 at H
                              refine PO.nx ?_
                              rcases cond_some H with ⟨h774, H⟩ | ⟨h774, H⟩
                              · refine U.asW (t := 196) (congrArg Value.bool h774) (by kernel_rfl) ?_
                                refine WP.condT (by kernel_rfl) ?_
                                refine WP.seq (by kernel_rfl) ?_
                                refine WP.reg (by kernel_rfl) ?_
                                refine U.seg 1 [2] [] (fun K => K [(2, Value.int .i64 9)] ((1, Ent.blk b11 25 [Value.slice a2 (List.length x1) c3, Value.slice a6 (List.length x5) c7]) :: (42, Ent.blk b694 131 [Value.int .i64 x688.1.1, Value.int .i64 x688.1.2, Value.int .i64 x688.2.1, Value.int .i64 x688.2.2]) :: (43, Ent.sl (some ⟨b698, 0, none⟩ : Option Addr) 4 4 42 2 [Value.int .i64 x688.1.1, Value.int .i64 x688.1.2, Value.int .i64 x688.2.1, Value.int .i64 x688.2.2, Value.int .i64 x688.1.1, Value.int .i64 x688.2.2, Value.int .i64 x688.2.1, Value.int .i64 x688.1.2]) :: fr)) (fun K => by kernel_rfl) 1 (by kernel_rfl) ?_
                                refine WO.done (by kernel_rfl) ?_
                                refine PO.nx ?_
                                refine WP.ret (by kernel_rfl) ?_
                                refine PO.blk_ret ?_
                                refine PO.nx_ret ?_
                                refine PO.lp_ret ?_
                                refine PO.blk_ret ?_
                                refine PO.jn_ret ?_
                                refine PO.nx_ret ?_
                                refine PO.blk_ret ?_
                                refine PO.nx_ret ?_
                                refine PO.lp_ret ?_
                                refine PO.blk_ret ?_
                                refine PO.jn_ret ?_
                                refine PO.nx_ret ?_
                                have hq := Option.some.inj H
                                subst hq
                                have H := h754
                                rw [← (show _ = o751 from h753)] at H
                                have H : some (Sum.inl (Sum.inl 9)) = some q683 := H
                                have hq := Option.some.inj H
                                subst hq
                                have H := h685
                                rw [← (show _ = o682 from h684)] at H
                                have H : some 9 = some r := H
                                have hr := Option.some.inj H
                                subst hr
                                refine PO.body [Value.int .i64 9] ((1, Ent.blk b11 25 [Value.slice a2 (List.length x1) c3, Value.slice a6 (List.length x5) c7]) :: (42, Ent.blk b694 131 [Value.int .i64 x688.1.1, Value.int .i64 x688.1.2, Value.int .i64 x688.2.1, Value.int .i64 x688.2.2]) :: (43, Ent.sl (some ⟨b698, 0, none⟩ : Option Addr) 4 4 42 2 [Value.int .i64 x688.1.1, Value.int .i64 x688.1.2, Value.int .i64 x688.2.1, Value.int .i64 x688.2.2, Value.int .i64 x688.1.1, Value.int .i64 x688.2.2, Value.int .i64 x688.2.1, Value.int .i64 x688.1.2]) :: fr) rfl (Res.tmp (by kernel_rfl) Res.nil) ?_
                                exact fun w hw => Ret.mk () trivial rfl (okNT 3 [] (by kernel_rfl) rfl hw)
                              · refine U.asW (t := 196) (congrArg Value.bool h774) (by kernel_rfl) ?_
                                refine WP.condF (by kernel_rfl) ?_
                                refine WP.skip (by kernel_rfl) ?_
                                refine PO.blk_normal ?_
                                refine PO.nx ?_
                                refine WP.reg (by kernel_rfl) ?_
                                refine U.seg 2 [1, 3, 13, 14, 134, 135, 136, 175, 176, 177] [] (fun K => K [(1, Value.pointer (some ⟨b11, 0, none⟩)), (3, Value.slice a2 (List.length x1) c3), (13, Value.int .i64 x681), (14, Value.pointer (some ⟨b694, 0, none⟩)), (134, Value.slice a6 (List.length x5) c7), (135, Value.int .i64 ((List.length x5) : Int)), (136, Value.int .i64 x681), (175, Value.slice (some ⟨b698, 0, none⟩ : Option Addr) 4 4), (176, Value.int .i64 (4 : Int)), (177, Value.int .i64 (w64 (x750 + 1)))] ((1, Ent.blk b11 25 [Value.slice a2 (List.length x1) c3, Value.slice a6 (List.length x5) c7]) :: (42, Ent.blk b694 131 [Value.int .i64 x688.1.1, Value.int .i64 x688.1.2, Value.int .i64 x688.2.1, Value.int .i64 x688.2.2]) :: (43, Ent.sl (some ⟨b698, 0, none⟩ : Option Addr) 4 4 42 2 [Value.int .i64 x688.1.1, Value.int .i64 x688.1.2, Value.int .i64 x688.2.1, Value.int .i64 x688.2.2, Value.int .i64 x688.1.1, Value.int .i64 x688.2.2, Value.int .i64 x688.2.1, Value.int .i64 x688.1.2]) :: fr)) (fun K => by kernel_rfl) 2 (by kernel_rfl) ?_
                                refine WO.done (by kernel_rfl) ?_
                                have hq := Option.some.inj H
                                subst hq
                                refine PO.againW ⟨(w64 (x750 + 1)), h753, rfl⟩ ?_ (Nat.lt_succ_self _)
                                exact (St.ok.to [1, 3, 13, 14, 134, 135, 136, 175, 176, 177] 3 [(1, 0), (42, 1), (43, 2)] (by kernel_rfl) rfl (by kernel_rfl) rfl rfl (by kernel_rfl))
                          · refine U.asW (t := 178) (congrArg Value.bool h756) (by kernel_rfl) ?_
                            refine WP.condF (by kernel_rfl) ?_
                            refine WP.exit (id := 9) (by kernel_rfl) ?_
                            refine PO.nx_exit ?_
                            refine PO.lp_exit ?_
                            refine PO.blk_exit ?_
                            have hq := Option.some.inj H
                            subst hq
                            have H := h754
                            rw [← (show _ = o751 from h753)] at H
                            have H : f29_j43 kk x681 x5 x688 = some q683 := H
                            refine PO.jn ⟨H, rfl⟩ ?_
                            exact (St.ok.to [1, 3, 13, 14, 134, 135, 136] 3 [(1, 0), (42, 1)] (by kernel_rfl) rfl (by kernel_rfl) rfl rfl (by kernel_rfl))
                        · rintro _ ⟨H, rfl⟩
                          unfold f29_j43 at H
                          refine PO.nx ?_
                          refine WP.seq (by kernel_rfl) ?_
                          refine WP.reg (by kernel_rfl) ?_
                          obtain ⟨h782, H⟩ := grd_some H
                          have h783q : Sl (Kd.pair (Kd.pair (Kd.int .i64) (Kd.int .i64)) (Kd.pair (Kd.int .i64) (Kd.int .i64))) g (subA a6 c7 0 4) (Int.toNat (x681)) c7 (List.take (Int.toNat (x681)) x5) := slsub_h h10 (by have h0 := h782; omega)
                          have h783n := h783q.len
                          have h783 := slen h783q
                          refine U.seg 4 [1, 3, 14, 134, 135, 136, 201] [(1, .ld 1), (3, .s)] (fun K => (b11 = b11) ∧ (((0 : Int) ≤ x681 ∧ x681 ≤ (c7 : Nat)) ∧ (K [(1, Value.pointer (some ⟨b11, 0, none⟩)), (3, Value.slice a2 (List.length x1) c3), (14, Value.pointer (some ⟨b694, 0, none⟩)), (134, Value.slice a6 (List.length x5) c7), (135, Value.int .i64 ((List.length x5) : Int)), (136, Value.int .i64 x681), (201, Value.slice (subA a6 c7 0 4) (Int.toNat (x681)) c7)] ((1, Ent.blk b11 25 [Value.slice a2 (List.length x1) c3, Value.slice a6 (List.length x5) c7]) :: (42, Ent.blk b694 131 [Value.int .i64 x688.1.1, Value.int .i64 x688.1.2, Value.int .i64 x688.2.1, Value.int .i64 x688.2.2]) :: fr)))) (fun K => by kernel_rfl) 4 (by kernel_rfl) ?_
                          refine ⟨rfl, ?_⟩
                          refine ⟨(by have h1 := h10.le; have h2 := h10.len; have h0 := h782; omega), ?_⟩
                          refine U.as (t := 201) (congrArg (fun n => Value.slice (subA a6 c7 0 4) n c7) h783n) (by kernel_rfl) ?_
                          refine U.seg 2 [1, 3, 14, 134, 135, 136, 201, 202, 203] [] (fun K => K [(1, Value.pointer (some ⟨b11, 0, none⟩)), (3, Value.slice a2 (List.length x1) c3), (14, Value.pointer (some ⟨b694, 0, none⟩)), (134, Value.slice a6 (List.length x5) c7), (135, Value.int .i64 ((List.length x5) : Int)), (136, Value.int .i64 x681), (201, Value.slice (subA a6 c7 0 4) (List.length (List.take (Int.toNat (x681)) x5)) c7), (202, Value.int .i64 ((List.length (List.take (Int.toNat (x681)) x5)) : Int)), (203, Value.int .i64 0)] ((1, Ent.blk b11 25 [Value.slice a2 (List.length x1) c3, Value.slice a6 (List.length x5) c7]) :: (42, Ent.blk b694 131 [Value.int .i64 x688.1.1, Value.int .i64 x688.1.2, Value.int .i64 x688.2.1, Value.int .i64 x688.2.2]) :: fr)) (fun K => by kernel_rfl) 6 (by kernel_rfl) ?_
                          refine WO.done (by kernel_rfl) ?_
                          refine PO.nx ?_
                          refine WP.join (fun s => f29_j48 kk x681 = some q683 ∧ s = { n := 241, e := [(1, Value.pointer (some ⟨b11, 0, none⟩)), (3, Value.slice a2 (List.length x1) c3), (134, Value.slice a6 (List.length x5) c7), (135, Value.int .i64 ((List.length x5) : Int)), (136, Value.int .i64 x681)], d := [], g := g, h := ((1, Ent.blk b11 25 [Value.slice a2 (List.length x1) c3, Value.slice a6 (List.length x5) c7]) :: fr) }) ?_ ?_
                          · refine WP.block (id := 11) (by kernel_rfl) ?_
                            obtain ⟨o819, h841, h822⟩ := bnd_some H
                            refine WP.loopW (by kernel_rfl) (fun n s => ∃ (x818 : Int), iter (fun y : Int => f29_l46 kk y x681 x5 x688) n x818 = some o819 ∧ s = { n := 241, e := [(1, Value.pointer (some ⟨b11, 0, none⟩)), (3, Value.slice a2 (List.length x1) c3), (14, Value.pointer (some ⟨b694, 0, none⟩)), (134, Value.slice a6 (List.length x5) c7), (135, Value.int .i64 ((List.length x5) : Int)), (136, Value.int .i64 x681), (201, Value.slice (subA a6 c7 0 4) (List.length (List.take (Int.toNat (x681)) x5)) c7), (202, Value.int .i64 ((List.length (List.take (Int.toNat (x681)) x5)) : Int)), (203, Value.int .i64 x818)], d := [], g := g, h := ((1, Ent.blk b11 25 [Value.slice a2 (List.length x1) c3, Value.slice a6 (List.length x5) c7]) :: (42, Ent.blk b694 131 [Value.int .i64 x688.1.1, Value.int .i64 x688.1.2, Value.int .i64 x688.2.1, Value.int .i64 x688.2.2]) :: fr) }) (k := kk) ⟨0, h841, rfl⟩ (St.ok.to [1, 3, 14, 134, 135, 136, 201, 202, 203] 2 [(1, 0), (42, 1)] (by kernel_rfl) rfl (by kernel_rfl) rfl rfl (by kernel_rfl)) ?_
                            intro n836 s
                            rintro ⟨x818, h837, rfl⟩
                            obtain ⟨n823, q820, h839, h840, h821⟩ := iter_some h837
                            subst h839
                            have H : f29_l46 kk x818 x681 x5 x688 = some q820 := h840
                            unfold f29_l46 at H
                            refine WP.seq (by kernel_rfl) ?_
                            refine WP.reg (by kernel_rfl) ?_
                            refine U.seg 1 [1, 3, 14, 134, 135, 136, 201, 202, 203, 204] [] (fun K => K [(1, Value.pointer (some ⟨b11, 0, none⟩)), (3, Value.slice a2 (List.length x1) c3), (14, Value.pointer (some ⟨b694, 0, none⟩)), (134, Value.slice a6 (List.length x5) c7), (135, Value.int .i64 ((List.length x5) : Int)), (136, Value.int .i64 x681), (201, Value.slice (subA a6 c7 0 4) (List.length (List.take (Int.toNat (x681)) x5)) c7), (202, Value.int .i64 ((List.length (List.take (Int.toNat (x681)) x5)) : Int)), (203, Value.int .i64 x818), (204, Value.bool (decide (x818 < ((List.length (List.take (Int.toNat (x681)) x5)) : Int))))] ((1, Ent.blk b11 25 [Value.slice a2 (List.length x1) c3, Value.slice a6 (List.length x5) c7]) :: (42, Ent.blk b694 131 [Value.int .i64 x688.1.1, Value.int .i64 x688.1.2, Value.int .i64 x688.2.1, Value.int .i64 x688.2.2]) :: fr)) (fun K => by kernel_rfl) 1 (by kernel_rfl) ?_
                            refine WO.done (by kernel_rfl) ?_
                            refine PO.nx ?_
                            refine WP.seq (by kernel_rfl) ?_
                            rcases cond_some H with ⟨h824, H⟩ | ⟨h824, H⟩
                            · refine U.asW (t := 204) (congrArg Value.bool h824) (by kernel_rfl) ?_
                              refine WP.condT (by kernel_rfl) ?_
                              refine WP.skip (by kernel_rfl) ?_
                              refine PO.nx ?_
                              refine WP.seq (by kernel_rfl) ?_
                              refine WP.block (id := 12) (by kernel_rfl) ?_
                              refine WP.seq (by kernel_rfl) ?_
                              refine WP.reg (by kernel_rfl) ?_
                              obtain ⟨x825, h826, H⟩ := bnd_some H
                              obtain ⟨h827, s828, h829, h830⟩ := Sl.at' (d := (Kd.pair (Kd.pair (Kd.int .i64) (Kd.int .i64)) (Kd.pair (Kd.int .i64) (Kd.int .i64)))) h783 h826
                              obtain ⟨_, _, rfl, ⟨_, _, rfl, rfl, rfl⟩, ⟨_, _, rfl, rfl, rfl⟩⟩ := h829
                              refine U.seg 4 [1, 3, 14, 18, 134, 135, 136, 201, 202, 203] [(0, .s), (1, .lg (Value.agg #[Value.int .i64 x825.1.1, Value.int .i64 x825.1.2, Value.int .i64 x825.2.1, Value.int .i64 x825.2.2])), (2, .al 49), (3, .st 49)] (fun K => ((0 : Int) ≤ x818 ∧ x818 < ((List.length (List.take (Int.toNat (x681)) x5)) : Nat) ∧ FlatA (subA a6 c7 0 4) (List.length (List.take (Int.toNat (x681)) x5))) ∧ ((GLoad g ⟨ab (subA a6 c7 0 4), ao (subA a6 c7 0 4) + (Int.toNat (x818)) * 4, none⟩ true 4 (Value.agg #[Value.int .i64 x825.1.1, Value.int .i64 x825.1.2, Value.int .i64 x825.2.1, Value.int .i64 x825.2.2])) ∧ (∀ b831 : Nat, (b831 = b831) ∧ (K [(1, Value.pointer (some ⟨b11, 0, none⟩)), (3, Value.slice a2 (List.length x1) c3), (14, Value.pointer (some ⟨b694, 0, none⟩)), (18, Value.pointer (some ⟨b831, 0, none⟩)), (134, Value.slice a6 (List.length x5) c7), (135, Value.int .i64 ((List.length x5) : Int)), (136, Value.int .i64 x681), (201, Value.slice (subA a6 c7 0 4) (List.length (List.take (Int.toNat (x681)) x5)) c7), (202, Value.int .i64 ((List.length (List.take (Int.toNat (x681)) x5)) : Int)), (203, Value.int .i64 x818)] ((49, Ent.blk b831 131 [Value.int .i64 x825.1.1, Value.int .i64 x825.1.2, Value.int .i64 x825.2.1, Value.int .i64 x825.2.2]) :: (1, Ent.blk b11 25 [Value.slice a2 (List.length x1) c3, Value.slice a6 (List.length x5) c7]) :: (42, Ent.blk b694 131 [Value.int .i64 x688.1.1, Value.int .i64 x688.1.2, Value.int .i64 x688.2.1, Value.int .i64 x688.2.2]) :: fr))))) (fun K => by kernel_rfl) 4 (by kernel_rfl) ?_
                              refine ⟨h827, ?_⟩
                              refine ⟨(h830 _ 0 _ _ _ rfl rfl rfl (OwnRead.agg rfl rfl)), ?_⟩
                              intro b831
                              refine ⟨rfl, ?_⟩
                              refine WO.done (by kernel_rfl) ?_
                              refine PO.nx ?_
                              refine WP.seq (by kernel_rfl) ?_
                              refine WP.join (fun s => ∃ (x833 : Bool), f29_j47 kk x833 x818 = some q820 ∧ s = { n := 241, e := [(1, Value.pointer (some ⟨b11, 0, none⟩)), (3, Value.slice a2 (List.length x1) c3), (14, Value.pointer (some ⟨b694, 0, none⟩)), (134, Value.slice a6 (List.length x5) c7), (135, Value.int .i64 ((List.length x5) : Int)), (136, Value.int .i64 x681), (201, Value.slice (subA a6 c7 0 4) (List.length (List.take (Int.toNat (x681)) x5)) c7), (202, Value.int .i64 ((List.length (List.take (Int.toNat (x681)) x5)) : Int)), (203, Value.int .i64 x818), (238, Value.bool x833)], d := [], g := g, h := ((1, Ent.blk b11 25 [Value.slice a2 (List.length x1) c3, Value.slice a6 (List.length x5) c7]) :: (42, Ent.blk b694 131 [Value.int .i64 x688.1.1, Value.int .i64 x688.1.2, Value.int .i64 x688.2.1, Value.int .i64 x688.2.2]) :: fr) }) ?_ ?_
                              · refine WP.reg (by kernel_rfl) ?_
                                refine U.seg 16 [1, 3, 14, 18, 134, 135, 136, 201, 202, 203, 222] [(2, .ld 49), (5, .ld 42), (9, .ld 49), (12, .ld 42)] (fun K => (b831 = b831) ∧ ((b694 = b694) ∧ ((b831 = b831) ∧ ((b694 = b694) ∧ (K [(1, Value.pointer (some ⟨b11, 0, none⟩)), (3, Value.slice a2 (List.length x1) c3), (14, Value.pointer (some ⟨b694, 0, none⟩)), (18, Value.pointer (some ⟨b831, 0, none⟩)), (134, Value.slice a6 (List.length x5) c7), (135, Value.int .i64 ((List.length x5) : Int)), (136, Value.int .i64 x681), (201, Value.slice (subA a6 c7 0 4) (List.length (List.take (Int.toNat (x681)) x5)) c7), (202, Value.int .i64 ((List.length (List.take (Int.toNat (x681)) x5)) : Int)), (203, Value.int .i64 x818), (222, Value.bool (decide ((imax x825.1.1 x688.1.1) ≤ (imin x825.2.1 x688.2.1))))] ((49, Ent.blk b831 131 [Value.int .i64 x825.1.1, Value.int .i64 x825.1.2, Value.int .i64 x825.2.1, Value.int .i64 x825.2.2]) :: (1, Ent.blk b11 25 [Value.slice a2 (List.length x1) c3, Value.slice a6 (List.length x5) c7]) :: (42, Ent.blk b694 131 [Value.int .i64 x688.1.1, Value.int .i64 x688.1.2, Value.int .i64 x688.2.1, Value.int .i64 x688.2.2]) :: fr)))))) (fun K => by kernel_rfl) 16 (by kernel_rfl) ?_
                                refine ⟨rfl, ?_⟩
                                refine ⟨rfl, ?_⟩
                                refine ⟨rfl, ?_⟩
                                refine ⟨rfl, ?_⟩
                                rcases cond_some H with ⟨h832, H⟩ | ⟨h832, H⟩
                                · refine U.as (t := 222) (congrArg Value.bool h832) (by kernel_rfl) ?_
                                  refine U.seg 16 [1, 3, 14, 134, 135, 136, 201, 202, 203, 223, 224, 225, 226, 227, 228, 229, 230, 231, 232, 233, 234, 235, 236, 237, 238] [(18, .ld 49), (21, .ld 42), (25, .ld 49), (28, .ld 42)] (fun K => (b831 = b831) ∧ ((b694 = b694) ∧ ((b831 = b831) ∧ ((b694 = b694) ∧ (K [(1, Value.pointer (some ⟨b11, 0, none⟩)), (3, Value.slice a2 (List.length x1) c3), (14, Value.pointer (some ⟨b694, 0, none⟩)), (134, Value.slice a6 (List.length x5) c7), (135, Value.int .i64 ((List.length x5) : Int)), (136, Value.int .i64 x681), (201, Value.slice (subA a6 c7 0 4) (List.length (List.take (Int.toNat (x681)) x5)) c7), (202, Value.int .i64 ((List.length (List.take (Int.toNat (x681)) x5)) : Int)), (203, Value.int .i64 x818), (223, Value.pointer (some ⟨b831, 0, none⟩)), (224, Value.pointer (some ⟨b831, 1, none⟩)), (225, Value.int .i64 x825.1.2), (226, Value.pointer (some ⟨b694, 0, none⟩)), (227, Value.pointer (some ⟨b694, 1, none⟩)), (228, Value.int .i64 x688.1.2), (229, Value.int .i64 (imax x825.1.2 x688.1.2)), (230, Value.pointer (some ⟨b831, 2, none⟩)), (231, Value.pointer (some ⟨b831, 3, none⟩)), (232, Value.int .i64 x825.2.2), (233, Value.pointer (some ⟨b694, 2, none⟩)), (234, Value.pointer (some ⟨b694, 3, none⟩)), (235, Value.int .i64 x688.2.2), (236, Value.int .i64 (imin x825.2.2 x688.2.2)), (237, Value.bool (decide ((imax x825.1.2 x688.1.2) ≤ (imin x825.2.2 x688.2.2)))), (238, Value.bool (decide ((imax x825.1.2 x688.1.2) ≤ (imin x825.2.2 x688.2.2))))] ((49, Ent.blk b831 131 [Value.int .i64 x825.1.1, Value.int .i64 x825.1.2, Value.int .i64 x825.2.1, Value.int .i64 x825.2.2]) :: (1, Ent.blk b11 25 [Value.slice a2 (List.length x1) c3, Value.slice a6 (List.length x5) c7]) :: (42, Ent.blk b694 131 [Value.int .i64 x688.1.1, Value.int .i64 x688.1.2, Value.int .i64 x688.2.1, Value.int .i64 x688.2.2]) :: fr)))))) (fun K => by kernel_rfl) 32 (by kernel_rfl) ?_
                                  refine ⟨rfl, ?_⟩
                                  refine ⟨rfl, ?_⟩
                                  refine ⟨rfl, ?_⟩
                                  refine ⟨rfl, ?_⟩
                                  refine WO.done (by kernel_rfl) ?_
                                  refine PO.jn ⟨(decide ((imax x825.1.2 x688.1.2) ≤ (imin x825.2.2 x688.2.2))), H, rfl⟩ ?_
                                  exact (St.ok.to [1, 3, 14, 134, 135, 136, 201, 202, 203, 238] 3 [(1, 1), (42, 2)] (by kernel_rfl) rfl (by kernel_rfl) rfl rfl (by kernel_rfl))
                                · refine U.as (t := 222) (congrArg Value.bool h832) (by kernel_rfl) ?_
                                  refine U.seg 16 [1, 3, 14, 134, 135, 136, 201, 202, 203, 223, 224, 225, 226, 227, 228, 229, 230, 231, 232, 233, 234, 235, 236, 237, 238] [] (fun K => K [(1, Value.pointer (some ⟨b11, 0, none⟩)), (3, Value.slice a2 (List.length x1) c3), (14, Value.pointer (some ⟨b694, 0, none⟩)), (134, Value.slice a6 (List.length x5) c7), (135, Value.int .i64 ((List.length x5) : Int)), (136, Value.int .i64 x681), (201, Value.slice (subA a6 c7 0 4) (List.length (List.take (Int.toNat (x681)) x5)) c7), (202, Value.int .i64 ((List.length (List.take (Int.toNat (x681)) x5)) : Int)), (203, Value.int .i64 x818), (223, undef), (224, undef), (225, undef), (226, undef), (227, undef), (228, undef), (229, undef), (230, undef), (231, undef), (232, undef), (233, undef), (234, undef), (235, undef), (236, undef), (237, undef), (238, Value.bool false)] ((49, Ent.blk b831 131 [Value.int .i64 x825.1.1, Value.int .i64 x825.1.2, Value.int .i64 x825.2.1, Value.int .i64 x825.2.2]) :: (1, Ent.blk b11 25 [Value.slice a2 (List.length x1) c3, Value.slice a6 (List.length x5) c7]) :: (42, Ent.blk b694 131 [Value.int .i64 x688.1.1, Value.int .i64 x688.1.2, Value.int .i64 x688.2.1, Value.int .i64 x688.2.2]) :: fr)) (fun K => by kernel_rfl) 32 (by kernel_rfl) ?_
                                  refine WO.done (by kernel_rfl) ?_
                                  refine PO.jn ⟨false, H, rfl⟩ ?_
                                  exact (St.ok.to [1, 3, 14, 134, 135, 136, 201, 202, 203, 238] 3 [(1, 1), (42, 2)] (by kernel_rfl) rfl (by kernel_rfl) rfl rfl (by kernel_rfl))
                              · rintro _ ⟨x833, H, rfl⟩
                                unfold f29_j47 at H
                                refine PO.nx ?_
                                rcases cond_some H with ⟨h834, H⟩ | ⟨h834, H⟩
                                · refine U.asW (t := 238) (congrArg Value.bool h834) (by kernel_rfl) ?_
                                  refine WP.condT (by kernel_rfl) ?_
                                  refine WP.seq (by kernel_rfl) ?_
                                  refine WP.reg (by kernel_rfl) ?_
                                  refine U.seg 1 [2] [] (fun K => K [(2, Value.int .i64 10)] ((1, Ent.blk b11 25 [Value.slice a2 (List.length x1) c3, Value.slice a6 (List.length x5) c7]) :: (42, Ent.blk b694 131 [Value.int .i64 x688.1.1, Value.int .i64 x688.1.2, Value.int .i64 x688.2.1, Value.int .i64 x688.2.2]) :: fr)) (fun K => by kernel_rfl) 1 (by kernel_rfl) ?_
                                  refine WO.done (by kernel_rfl) ?_
                                  refine PO.nx ?_
                                  refine WP.ret (by kernel_rfl) ?_
                                  refine PO.blk_ret ?_
                                  refine PO.nx_ret ?_
                                  refine PO.lp_ret ?_
                                  refine PO.blk_ret ?_
                                  refine PO.jn_ret ?_
                                  refine PO.blk_ret ?_
                                  refine PO.nx_ret ?_
                                  refine PO.lp_ret ?_
                                  refine PO.blk_ret ?_
                                  refine PO.jn_ret ?_
                                  refine PO.nx_ret ?_
                                  have hq := Option.some.inj H
                                  subst hq
                                  have H := h822
                                  rw [← (show _ = o819 from h821)] at H
                                  have H : some (Sum.inl (Sum.inl 10)) = some q683 := H
                                  have hq := Option.some.inj H
                                  subst hq
                                  have H := h685
                                  rw [← (show _ = o682 from h684)] at H
                                  have H : some 10 = some r := H
                                  have hr := Option.some.inj H
                                  subst hr
                                  refine PO.body [Value.int .i64 10] ((1, Ent.blk b11 25 [Value.slice a2 (List.length x1) c3, Value.slice a6 (List.length x5) c7]) :: (42, Ent.blk b694 131 [Value.int .i64 x688.1.1, Value.int .i64 x688.1.2, Value.int .i64 x688.2.1, Value.int .i64 x688.2.2]) :: fr) rfl (Res.tmp (by kernel_rfl) Res.nil) ?_
                                  exact fun w hw => Ret.mk () trivial rfl (okNT 2 [] (by kernel_rfl) rfl hw)
                                · refine U.asW (t := 238) (congrArg Value.bool h834) (by kernel_rfl) ?_
                                  refine WP.condF (by kernel_rfl) ?_
                                  refine WP.skip (by kernel_rfl) ?_
                                  refine PO.blk_normal ?_
                                  refine PO.nx ?_
                                  refine WP.reg (by kernel_rfl) ?_
                                  refine U.seg 2 [1, 3, 14, 134, 135, 136, 201, 202, 203] [] (fun K => K [(1, Value.pointer (some ⟨b11, 0, none⟩)), (3, Value.slice a2 (List.length x1) c3), (14, Value.pointer (some ⟨b694, 0, none⟩)), (134, Value.slice a6 (List.length x5) c7), (135, Value.int .i64 ((List.length x5) : Int)), (136, Value.int .i64 x681), (201, Value.slice (subA a6 c7 0 4) (List.length (List.take (Int.toNat (x681)) x5)) c7), (202, Value.int .i64 ((List.length (List.take (Int.toNat (x681)) x5)) : Int)), (203, Value.int .i64 (w64 (x818 + 1)))] ((1, Ent.blk b11 25 [Value.slice a2 (List.length x1) c3, Value.slice a6 (List.length x5) c7]) :: (42, Ent.blk b694 131 [Value.int .i64 x688.1.1, Value.int .i64 x688.1.2, Value.int .i64 x688.2.1, Value.int .i64 x688.2.2]) :: fr)) (fun K => by kernel_rfl) 2 (by kernel_rfl) ?_
                                  refine WO.done (by kernel_rfl) ?_
                                  have hq := Option.some.inj H
                                  subst hq
                                  refine PO.againW ⟨(w64 (x818 + 1)), h821, rfl⟩ ?_ (Nat.lt_succ_self _)
                                  exact (St.ok.to [1, 3, 14, 134, 135, 136, 201, 202, 203] 2 [(1, 0), (42, 1)] (by kernel_rfl) rfl (by kernel_rfl) rfl rfl (by kernel_rfl))
                            · refine U.asW (t := 204) (congrArg Value.bool h824) (by kernel_rfl) ?_
                              refine WP.condF (by kernel_rfl) ?_
                              refine WP.exit (id := 11) (by kernel_rfl) ?_
                              refine PO.nx_exit ?_
                              refine PO.lp_exit ?_
                              refine PO.blk_exit ?_
                              have hq := Option.some.inj H
                              subst hq
                              have H := h822
                              rw [← (show _ = o819 from h821)] at H
                              have H : f29_j48 kk x681 = some q683 := H
                              refine PO.jn ⟨H, rfl⟩ ?_
                              exact (St.ok.to [1, 3, 134, 135, 136] 2 [(1, 0)] (by kernel_rfl) rfl (by kernel_rfl) rfl rfl (by kernel_rfl))
                          · rintro _ ⟨H, rfl⟩
                            unfold f29_j48 at H
                            refine PO.blk_normal ?_
                            refine PO.nx ?_
                            refine WP.reg (by kernel_rfl) ?_
                            refine U.seg 2 [1, 3, 134, 135, 136] [] (fun K => K [(1, Value.pointer (some ⟨b11, 0, none⟩)), (3, Value.slice a2 (List.length x1) c3), (134, Value.slice a6 (List.length x5) c7), (135, Value.int .i64 ((List.length x5) : Int)), (136, Value.int .i64 (w64 (x681 + 1)))] ((1, Ent.blk b11 25 [Value.slice a2 (List.length x1) c3, Value.slice a6 (List.length x5) c7]) :: fr)) (fun K => by kernel_rfl) 2 (by kernel_rfl) ?_
                            refine WO.done (by kernel_rfl) ?_
                            have hq := Option.some.inj H
                            subst hq
                            refine PO.againW ⟨(w64 (x681 + 1)), h684, rfl⟩ ?_ (Nat.lt_succ_self _)
                            exact (St.ok.to [1, 3, 134, 135, 136] 1 [(1, 0)] (by kernel_rfl) rfl (by kernel_rfl) rfl rfl (by kernel_rfl))
                  · refine U.asW (t := 137) (congrArg Value.bool h687) (by kernel_rfl) ?_
                    refine WP.condF (by kernel_rfl) ?_
                    refine WP.exit (id := 7) (by kernel_rfl) ?_
                    refine PO.nx_exit ?_
                    refine PO.lp_exit ?_
                    refine PO.blk_exit ?_
                    have hq := Option.some.inj H
                    subst hq
                    have H := h685
                    rw [← (show _ = o682 from h684)] at H
                    have H : f29_j49 kk = some r := H
                    refine PO.jn ⟨H, rfl⟩ ?_
                    exact (St.ok.to [] 1 [] (by kernel_rfl) rfl (by kernel_rfl) rfl rfl (by kernel_rfl))
                · rintro _ ⟨H, rfl⟩
                  unfold f29_j49 at H
                  refine PO.nx ?_
                  refine WP.seq (by kernel_rfl) ?_
                  refine WP.reg (by kernel_rfl) ?_
                  refine U.seg 1 [2] [] (fun K => K [(2, Value.int .i64 0)] (fr)) (fun K => by kernel_rfl) 1 (by kernel_rfl) ?_
                  refine WO.done (by kernel_rfl) ?_
                  refine PO.nx ?_
                  refine WP.ret (by kernel_rfl) ?_
                  have hr := Option.some.inj H
                  subst hr
                  refine PO.body [Value.int .i64 0] (fr) rfl (Res.tmp (by kernel_rfl) Res.nil) ?_
                  exact fun w hw => Ret.mk () trivial rfl (okNT 0 [] (by kernel_rfl) rfl hw)

set_option maxRecDepth 100000 in
theorem c_f71 (kk : Nat) (x1 : Int) (x2 : Int) (x3 : Int) (x4 : Int) {g : GH} {r : Bool} (H : m_f71 kk x1 x2 x3 x4 = some r) {fr : Hs} {w : World} (hw : Ok g (fr) w) :
    Calls Try.prog 71 (List.toArray [Value.agg #[Value.int .i64 x1, Value.int .i64 x2], Value.int .i64 x3, Value.int .i64 x4]) w (Ret (fun _ : Unit => True) (fun _ => Value.bool r) (fun _ => g) (fun _ => (fr))) := by
  refine fn_wp (args := [Value.agg #[Value.int .i64 x1, Value.int .i64 x2], Value.int .i64 x3, Value.int .i64 x4]) (c := C_71) Try.func71 (by kernel_rfl) Try.ntmps71 (by kernel_rfl) ?_ hw
  unfold m_f71 at H
  refine WP.seq (by kernel_rfl) ?_
  refine WP.reg (by kernel_rfl) ?_
  refine U.seg 2 [1, 2, 3] [(0, .al 1)] (fun K => ∀ b5 : Nat, K [(1, Value.int .i64 x3), (2, Value.int .i64 x4), (3, Value.pointer (some ⟨b5, 0, none⟩))] ((1, Ent.blk b5 27 [Value.int .i64 x1, Value.int .i64 x2]) :: fr)) (fun K => by kernel_rfl) 2 (by kernel_rfl) ?_
  intro b5
  refine WO.done (by kernel_rfl) ?_
  refine PO.nx ?_
  refine WP.seq (by kernel_rfl) ?_
  refine WP.join (fun s => ∃ (x8 : Bool), f71_j1 kk x8 = some r ∧ s = { n := 24, e := [(6, Value.bool x8)], d := [], g := g, h := (fr) }) ?_ ?_
  · refine WP.reg (by kernel_rfl) ?_
    refine U.seg 5 [2, 3, 11] [(2, .ld 1)] (fun K => (b5 = b5) ∧ (K [(2, Value.int .i64 x4), (3, Value.pointer (some ⟨b5, 0, none⟩)), (11, Value.bool (decide (x3 ≤ x1)))] ((1, Ent.blk b5 27 [Value.int .i64 x1, Value.int .i64 x2]) :: fr))) (fun K => by kernel_rfl) 5 (by kernel_rfl) ?_
    refine ⟨rfl, ?_⟩
    rcases cond_some H with ⟨h6, H⟩ | ⟨h6, H⟩
    · refine U.as (t := 11) (congrArg Value.bool h6) (by kernel_rfl) ?_
      refine U.seg 7 [2, 3, 18] [(6, .ld 1), (8, .ld 1)] (fun K => (b5 = b5) ∧ ((b5 = b5) ∧ (K [(2, Value.int .i64 x4), (3, Value.pointer (some ⟨b5, 0, none⟩)), (18, Value.bool (decide (x1 ≤ x2)))] ((1, Ent.blk b5 27 [Value.int .i64 x1, Value.int .i64 x2]) :: fr)))) (fun K => by kernel_rfl) 12 (by kernel_rfl) ?_
      refine ⟨rfl, ?_⟩
      refine ⟨rfl, ?_⟩
      rcases cond_some H with ⟨h7, H⟩ | ⟨h7, H⟩
      · refine U.as (t := 18) (congrArg Value.bool h7) (by kernel_rfl) ?_
        refine U.seg 6 [6] [(13, .ld 1)] (fun K => (b5 = b5) ∧ (K [(6, Value.bool (decide (x2 ≤ x4)))] ((1, Ent.blk b5 27 [Value.int .i64 x1, Value.int .i64 x2]) :: fr))) (fun K => by kernel_rfl) 18 (by kernel_rfl) ?_
        refine ⟨rfl, ?_⟩
        refine WO.done (by kernel_rfl) ?_
        refine PO.jn ⟨(decide (x2 ≤ x4)), H, rfl⟩ ?_
        exact (St.ok.to [6] 1 [] (by kernel_rfl) rfl (by kernel_rfl) rfl rfl (by kernel_rfl))
      · refine U.as (t := 18) (congrArg Value.bool h7) (by kernel_rfl) ?_
        refine U.seg 6 [6] [] (fun K => K [(6, Value.bool false)] ((1, Ent.blk b5 27 [Value.int .i64 x1, Value.int .i64 x2]) :: fr)) (fun K => by kernel_rfl) 18 (by kernel_rfl) ?_
        refine WO.done (by kernel_rfl) ?_
        refine PO.jn ⟨false, H, rfl⟩ ?_
        exact (St.ok.to [6] 1 [] (by kernel_rfl) rfl (by kernel_rfl) rfl rfl (by kernel_rfl))
    · refine U.as (t := 11) (congrArg Value.bool h6) (by kernel_rfl) ?_
      refine U.seg 13 [6] [] (fun K => K [(6, Value.bool false)] ((1, Ent.blk b5 27 [Value.int .i64 x1, Value.int .i64 x2]) :: fr)) (fun K => by kernel_rfl) 18 (by kernel_rfl) ?_
      refine WO.done (by kernel_rfl) ?_
      refine PO.jn ⟨false, H, rfl⟩ ?_
      exact (St.ok.to [6] 1 [] (by kernel_rfl) rfl (by kernel_rfl) rfl rfl (by kernel_rfl))
  · rintro _ ⟨x8, H, rfl⟩
    unfold f71_j1 at H
    refine PO.nx ?_
    refine WP.ret (by kernel_rfl) ?_
    have hr := Option.some.inj H
    subst hr
    refine PO.body [Value.bool x8] (fr) rfl (Res.tmp (by kernel_rfl) Res.nil) ?_
    exact fun w hw => Ret.mk () trivial rfl (okNT 0 [] (by kernel_rfl) rfl hw)

set_option maxRecDepth 100000 in
theorem c_f30 (kk : Nat) (x1 : Int) (x2 : Int) (x3 : Int) (x4 : Int) (x5 : Int) (x6 : Int) (x7 : Int) (x8 : Int) {g : GH} {r : Int} (H : m_f30 kk x1 x2 x3 x4 x5 x6 x7 x8 = some r) {fr : Hs} {w : World} (hw : Ok g (fr) w) :
    Calls Try.prog 30 (List.toArray [Value.agg #[Value.int .i64 x1, Value.int .i64 x2, Value.int .i64 x3, Value.int .i64 x4, Value.int .i64 x5, Value.int .i64 x6, Value.int .i64 x7, Value.int .i64 x8]]) w (Ret (fun _ : Unit => True) (fun _ => Value.int .i64 r) (fun _ => g) (fun _ => (fr))) := by
  refine fn_wp (args := [Value.agg #[Value.int .i64 x1, Value.int .i64 x2, Value.int .i64 x3, Value.int .i64 x4, Value.int .i64 x5, Value.int .i64 x6, Value.int .i64 x7, Value.int .i64 x8]]) (c := C_30) Try.func30 (by kernel_rfl) Try.ntmps30 (by kernel_rfl) ?_ hw
  unfold m_f30 at H
  refine WP.seq (by kernel_rfl) ?_
  refine WP.reg (by kernel_rfl) ?_
  refine U.seg 2 [1] [(0, .al 1)] (fun K => ∀ b9 : Nat, K [(1, Value.pointer (some ⟨b9, 0, none⟩))] ((1, Ent.blk b9 29 [Value.int .i64 x1, Value.int .i64 x2, Value.int .i64 x3, Value.int .i64 x4, Value.int .i64 x5, Value.int .i64 x6, Value.int .i64 x7, Value.int .i64 x8]) :: fr)) (fun K => by kernel_rfl) 2 (by kernel_rfl) ?_
  intro b9
  refine WO.done (by kernel_rfl) ?_
  refine PO.nx ?_
  refine WP.seq (by kernel_rfl) ?_
  refine WP.reg (by kernel_rfl) ?_
  refine U.seg 1 [1, 3] [] (fun K => K [(1, Value.pointer (some ⟨b9, 0, none⟩)), (3, Value.func (.func 71) #[] #[])] ((1, Ent.blk b9 29 [Value.int .i64 x1, Value.int .i64 x2, Value.int .i64 x3, Value.int .i64 x4, Value.int .i64 x5, Value.int .i64 x6, Value.int .i64 x7, Value.int .i64 x8]) :: fr)) (fun K => by kernel_rfl) 1 (by kernel_rfl) ?_
  refine WO.done (by kernel_rfl) ?_
  refine PO.nx ?_
  refine WP.seq (by kernel_rfl) ?_
  refine WP.seq (by kernel_rfl) ?_
  refine WP.join (fun s => ∃ (x27 : Bool), f30_j1 kk x27 = some r ∧ s = { n := 40, e := [(39, Value.bool x27)], d := [], g := g, h := (fr) }) ?_ ?_
  · refine WP.reg (by kernel_rfl) ?_
    refine U.seg 2 [1, 3, 5] [(1, .ld 1)] (fun K => (b9 = b9) ∧ (K [(1, Value.pointer (some ⟨b9, 0, none⟩)), (3, Value.func (.func 71) #[] #[]), (5, Value.int .i64 x1)] ((1, Ent.blk b9 29 [Value.int .i64 x1, Value.int .i64 x2, Value.int .i64 x3, Value.int .i64 x4, Value.int .i64 x5, Value.int .i64 x6, Value.int .i64 x7, Value.int .i64 x8]) :: fr))) (fun K => by kernel_rfl) 2 (by kernel_rfl) ?_
    refine ⟨rfl, ?_⟩
    obtain ⟨x10, h11, H⟩ := bnd_some H
    refine U.step 3 (by kernel_rfl) (U.call (dst := some 6) (fun w hw => c_f67 kk x1 1 96 h11 hw) (by kernel_rfl) (enters_of Try.func67 (by kernel_rfl) rfl)) ?_
    rintro _ _
    refine U.seg 2 [1, 3, 8] [] (fun K => K [(1, Value.pointer (some ⟨b9, 0, none⟩)), (3, Value.func (.func 71) #[] #[]), (8, Value.bool (!x10))] ((1, Ent.blk b9 29 [Value.int .i64 x1, Value.int .i64 x2, Value.int .i64 x3, Value.int .i64 x4, Value.int .i64 x5, Value.int .i64 x6, Value.int .i64 x7, Value.int .i64 x8]) :: fr)) (fun K => by kernel_rfl) 5 (by kernel_rfl) ?_
    rcases cond_some H with ⟨h12, H⟩ | ⟨h12, H⟩
    · refine U.as (t := 8) (congrArg Value.bool h12) (by kernel_rfl) ?_
      refine U.seg 31 [39] [] (fun K => K [(39, Value.bool true)] ((1, Ent.blk b9 29 [Value.int .i64 x1, Value.int .i64 x2, Value.int .i64 x3, Value.int .i64 x4, Value.int .i64 x5, Value.int .i64 x6, Value.int .i64 x7, Value.int .i64 x8]) :: fr)) (fun K => by kernel_rfl) 36 (by kernel_rfl) ?_
      refine WO.done (by kernel_rfl) ?_
      refine PO.jn ⟨true, H, rfl⟩ ?_
      exact (St.ok.to [39] 1 [] (by kernel_rfl) rfl (by kernel_rfl) rfl rfl (by kernel_rfl))
    · refine U.as (t := 8) (congrArg Value.bool h12) (by kernel_rfl) ?_
      refine U.seg 3 [1, 3, 8, 9, 11] [(7, .ld 1)] (fun K => (b9 = b9) ∧ (K [(1, Value.pointer (some ⟨b9, 0, none⟩)), (3, Value.func (.func 71) #[] #[]), (8, Value.bool false), (9, Value.func (.func 71) #[] #[]), (11, Value.agg #[Value.int .i64 x2, Value.int .i64 x3])] ((1, Ent.blk b9 29 [Value.int .i64 x1, Value.int .i64 x2, Value.int .i64 x3, Value.int .i64 x4, Value.int .i64 x5, Value.int .i64 x6, Value.int .i64 x7, Value.int .i64 x8]) :: fr))) (fun K => by kernel_rfl) 8 (by kernel_rfl) ?_
      refine ⟨rfl, ?_⟩
      obtain ⟨x13, h14, H⟩ := bnd_some H
      refine U.step 9 (by kernel_rfl) (U.call (dst := some 12) (fun w hw => c_f71 kk x2 x3 (-400) 0 h14 hw) (by kernel_rfl) (enters_of Try.func71 (by kernel_rfl) rfl)) ?_
      rintro _ _
      refine U.seg 3 [1, 3, 15] [] (fun K => K [(1, Value.pointer (some ⟨b9, 0, none⟩)), (3, Value.func (.func 71) #[] #[]), (15, Value.bool (!x13))] ((1, Ent.blk b9 29 [Value.int .i64 x1, Value.int .i64 x2, Value.int .i64 x3, Value.int .i64 x4, Value.int .i64 x5, Value.int .i64 x6, Value.int .i64 x7, Value.int .i64 x8]) :: fr)) (fun K => by kernel_rfl) 12 (by kernel_rfl) ?_
      rcases cond_some H with ⟨h15, H⟩ | ⟨h15, H⟩
      · refine U.as (t := 15) (congrArg Value.bool h15) (by kernel_rfl) ?_
        refine U.seg 24 [39] [] (fun K => K [(39, Value.bool true)] ((1, Ent.blk b9 29 [Value.int .i64 x1, Value.int .i64 x2, Value.int .i64 x3, Value.int .i64 x4, Value.int .i64 x5, Value.int .i64 x6, Value.int .i64 x7, Value.int .i64 x8]) :: fr)) (fun K => by kernel_rfl) 36 (by kernel_rfl) ?_
        refine WO.done (by kernel_rfl) ?_
        refine PO.jn ⟨true, H, rfl⟩ ?_
        exact (St.ok.to [39] 1 [] (by kernel_rfl) rfl (by kernel_rfl) rfl rfl (by kernel_rfl))
      · refine U.as (t := 15) (congrArg Value.bool h15) (by kernel_rfl) ?_
        refine U.seg 3 [1, 15, 16, 18] [(14, .ld 1)] (fun K => (b9 = b9) ∧ (K [(1, Value.pointer (some ⟨b9, 0, none⟩)), (15, Value.bool false), (16, Value.func (.func 71) #[] #[]), (18, Value.agg #[Value.int .i64 x4, Value.int .i64 x5])] ((1, Ent.blk b9 29 [Value.int .i64 x1, Value.int .i64 x2, Value.int .i64 x3, Value.int .i64 x4, Value.int .i64 x5, Value.int .i64 x6, Value.int .i64 x7, Value.int .i64 x8]) :: fr))) (fun K => by kernel_rfl) 15 (by kernel_rfl) ?_
        refine ⟨rfl, ?_⟩
        obtain ⟨x16, h17, H⟩ := bnd_some H
        refine U.step 16 (by kernel_rfl) (U.call (dst := some 19) (fun w hw => c_f71 kk x4 x5 1 100 h17 hw) (by kernel_rfl) (enters_of Try.func71 (by kernel_rfl) rfl)) ?_
        rintro _ _
        refine U.seg 3 [1, 22] [] (fun K => K [(1, Value.pointer (some ⟨b9, 0, none⟩)), (22, Value.bool (!x16))] ((1, Ent.blk b9 29 [Value.int .i64 x1, Value.int .i64 x2, Value.int .i64 x3, Value.int .i64 x4, Value.int .i64 x5, Value.int .i64 x6, Value.int .i64 x7, Value.int .i64 x8]) :: fr)) (fun K => by kernel_rfl) 19 (by kernel_rfl) ?_
        rcases cond_some H with ⟨h18, H⟩ | ⟨h18, H⟩
        · refine U.as (t := 22) (congrArg Value.bool h18) (by kernel_rfl) ?_
          refine U.seg 17 [39] [] (fun K => K [(39, Value.bool true)] ((1, Ent.blk b9 29 [Value.int .i64 x1, Value.int .i64 x2, Value.int .i64 x3, Value.int .i64 x4, Value.int .i64 x5, Value.int .i64 x6, Value.int .i64 x7, Value.int .i64 x8]) :: fr)) (fun K => by kernel_rfl) 36 (by kernel_rfl) ?_
          refine WO.done (by kernel_rfl) ?_
          refine PO.jn ⟨true, H, rfl⟩ ?_
          exact (St.ok.to [39] 1 [] (by kernel_rfl) rfl (by kernel_rfl) rfl rfl (by kernel_rfl))
        · refine U.as (t := 22) (congrArg Value.bool h18) (by kernel_rfl) ?_
          refine U.seg 2 [1, 22, 24] [(20, .ld 1)] (fun K => (b9 = b9) ∧ (K [(1, Value.pointer (some ⟨b9, 0, none⟩)), (22, Value.bool false), (24, Value.int .i64 x6)] ((1, Ent.blk b9 29 [Value.int .i64 x1, Value.int .i64 x2, Value.int .i64 x3, Value.int .i64 x4, Value.int .i64 x5, Value.int .i64 x6, Value.int .i64 x7, Value.int .i64 x8]) :: fr))) (fun K => by kernel_rfl) 21 (by kernel_rfl) ?_
          refine ⟨rfl, ?_⟩
          obtain ⟨x19, h20, H⟩ := bnd_some H
          refine U.step 22 (by kernel_rfl) (U.call (dst := some 25) (fun w hw => c_f67 kk x6 0 100 h20 hw) (by kernel_rfl) (enters_of Try.func67 (by kernel_rfl) rfl)) ?_
          rintro _ _
          refine U.seg 3 [1, 28] [] (fun K => K [(1, Value.pointer (some ⟨b9, 0, none⟩)), (28, Value.bool (!x19))] ((1, Ent.blk b9 29 [Value.int .i64 x1, Value.int .i64 x2, Value.int .i64 x3, Value.int .i64 x4, Value.int .i64 x5, Value.int .i64 x6, Value.int .i64 x7, Value.int .i64 x8]) :: fr)) (fun K => by kernel_rfl) 25 (by kernel_rfl) ?_
          rcases cond_some H with ⟨h21, H⟩ | ⟨h21, H⟩
          · refine U.as (t := 28) (congrArg Value.bool h21) (by kernel_rfl) ?_
            refine U.seg 11 [39] [] (fun K => K [(39, Value.bool true)] ((1, Ent.blk b9 29 [Value.int .i64 x1, Value.int .i64 x2, Value.int .i64 x3, Value.int .i64 x4, Value.int .i64 x5, Value.int .i64 x6, Value.int .i64 x7, Value.int .i64 x8]) :: fr)) (fun K => by kernel_rfl) 36 (by kernel_rfl) ?_
            refine WO.done (by kernel_rfl) ?_
            refine PO.jn ⟨true, H, rfl⟩ ?_
            exact (St.ok.to [39] 1 [] (by kernel_rfl) rfl (by kernel_rfl) rfl rfl (by kernel_rfl))
          · refine U.as (t := 28) (congrArg Value.bool h21) (by kernel_rfl) ?_
            refine U.seg 2 [1, 28, 30] [(26, .ld 1)] (fun K => (b9 = b9) ∧ (K [(1, Value.pointer (some ⟨b9, 0, none⟩)), (28, Value.bool false), (30, Value.int .i64 x7)] ((1, Ent.blk b9 29 [Value.int .i64 x1, Value.int .i64 x2, Value.int .i64 x3, Value.int .i64 x4, Value.int .i64 x5, Value.int .i64 x6, Value.int .i64 x7, Value.int .i64 x8]) :: fr))) (fun K => by kernel_rfl) 27 (by kernel_rfl) ?_
            refine ⟨rfl, ?_⟩
            obtain ⟨x22, h23, H⟩ := bnd_some H
            refine U.step 28 (by kernel_rfl) (U.call (dst := some 31) (fun w hw => c_f67 kk x7 0 100 h23 hw) (by kernel_rfl) (enters_of Try.func67 (by kernel_rfl) rfl)) ?_
            rintro _ _
            refine U.seg 3 [1, 34] [] (fun K => K [(1, Value.pointer (some ⟨b9, 0, none⟩)), (34, Value.bool (!x22))] ((1, Ent.blk b9 29 [Value.int .i64 x1, Value.int .i64 x2, Value.int .i64 x3, Value.int .i64 x4, Value.int .i64 x5, Value.int .i64 x6, Value.int .i64 x7, Value.int .i64 x8]) :: fr)) (fun K => by kernel_rfl) 31 (by kernel_rfl) ?_
            rcases cond_some H with ⟨h24, H⟩ | ⟨h24, H⟩
            · refine U.as (t := 34) (congrArg Value.bool h24) (by kernel_rfl) ?_
              refine U.seg 5 [39] [] (fun K => K [(39, Value.bool true)] ((1, Ent.blk b9 29 [Value.int .i64 x1, Value.int .i64 x2, Value.int .i64 x3, Value.int .i64 x4, Value.int .i64 x5, Value.int .i64 x6, Value.int .i64 x7, Value.int .i64 x8]) :: fr)) (fun K => by kernel_rfl) 36 (by kernel_rfl) ?_
              refine WO.done (by kernel_rfl) ?_
              refine PO.jn ⟨true, H, rfl⟩ ?_
              exact (St.ok.to [39] 1 [] (by kernel_rfl) rfl (by kernel_rfl) rfl rfl (by kernel_rfl))
            · refine U.as (t := 34) (congrArg Value.bool h24) (by kernel_rfl) ?_
              refine U.seg 2 [34, 36] [(32, .ld 1)] (fun K => (b9 = b9) ∧ (K [(34, Value.bool false), (36, Value.int .i64 x8)] ((1, Ent.blk b9 29 [Value.int .i64 x1, Value.int .i64 x2, Value.int .i64 x3, Value.int .i64 x4, Value.int .i64 x5, Value.int .i64 x6, Value.int .i64 x7, Value.int .i64 x8]) :: fr))) (fun K => by kernel_rfl) 33 (by kernel_rfl) ?_
              refine ⟨rfl, ?_⟩
              obtain ⟨x25, h26, H⟩ := bnd_some H
              refine U.step 34 (by kernel_rfl) (U.call (dst := some 37) (fun w hw => c_f67 kk x8 0 50 h26 hw) (by kernel_rfl) (enters_of Try.func67 (by kernel_rfl) rfl)) ?_
              rintro _ _
              refine U.seg 2 [39] [] (fun K => K [(39, Value.bool (!x25))] ((1, Ent.blk b9 29 [Value.int .i64 x1, Value.int .i64 x2, Value.int .i64 x3, Value.int .i64 x4, Value.int .i64 x5, Value.int .i64 x6, Value.int .i64 x7, Value.int .i64 x8]) :: fr)) (fun K => by kernel_rfl) 36 (by kernel_rfl) ?_
              refine WO.done (by kernel_rfl) ?_
              refine PO.jn ⟨(!x25), H, rfl⟩ ?_
              exact (St.ok.to [39] 1 [] (by kernel_rfl) rfl (by kernel_rfl) rfl rfl (by kernel_rfl))
  · rintro _ ⟨x27, H, rfl⟩
    unfold f30_j1 at H
    refine PO.nx ?_
    rcases cond_some H with ⟨h28, H⟩ | ⟨h28, H⟩
    · refine U.asW (t := 39) (congrArg Value.bool h28) (by kernel_rfl) ?_
      refine WP.condT (by kernel_rfl) ?_
      refine WP.seq (by kernel_rfl) ?_
      refine WP.reg (by kernel_rfl) ?_
      refine U.seg 1 [2] [] (fun K => K [(2, Value.int .i64 1)] (fr)) (fun K => by kernel_rfl) 1 (by kernel_rfl) ?_
      refine WO.done (by kernel_rfl) ?_
      refine PO.nx ?_
      refine WP.ret (by kernel_rfl) ?_
      refine PO.nx_ret ?_
      have hr := Option.some.inj H
      subst hr
      refine PO.body [Value.int .i64 1] (fr) rfl (Res.tmp (by kernel_rfl) Res.nil) ?_
      exact fun w hw => Ret.mk () trivial rfl (okNT 0 [] (by kernel_rfl) rfl hw)
    · refine U.asW (t := 39) (congrArg Value.bool h28) (by kernel_rfl) ?_
      refine WP.condF (by kernel_rfl) ?_
      refine WP.skip (by kernel_rfl) ?_
      refine PO.nx ?_
      refine WP.seq (by kernel_rfl) ?_
      refine WP.reg (by kernel_rfl) ?_
      refine U.seg 1 [2] [] (fun K => K [(2, Value.int .i64 0)] (fr)) (fun K => by kernel_rfl) 1 (by kernel_rfl) ?_
      refine WO.done (by kernel_rfl) ?_
      refine PO.nx ?_
      refine WP.ret (by kernel_rfl) ?_
      have hr := Option.some.inj H
      subst hr
      refine PO.body [Value.int .i64 0] (fr) rfl (Res.tmp (by kernel_rfl) Res.nil) ?_
      exact fun w hw => Ret.mk () trivial rfl (okNT 0 [] (by kernel_rfl) rfl hw)

set_option maxRecDepth 100000 in
theorem c_f31 (kk : Nat) (x1 : Int) (x2 : Int) (x3 : Int) (x4 : Int) (x5 : Int) (x6 : Int) {g : GH} {r : Bool} (H : m_f31 kk x1 x2 x3 x4 x5 x6 = some r) {fr : Hs} {w : World} (hw : Ok g (fr) w) :
    Calls Try.prog 31 (List.toArray [Value.agg #[Value.int .i64 x1, Value.int .i64 x2, Value.int .i64 x3, Value.int .i64 x4, Value.int .i64 x5, Value.int .i64 x6]]) w (Ret (fun _ : Unit => True) (fun _ => Value.bool r) (fun _ => g) (fun _ => (fr))) := by
  refine fn_wp (args := [Value.agg #[Value.int .i64 x1, Value.int .i64 x2, Value.int .i64 x3, Value.int .i64 x4, Value.int .i64 x5, Value.int .i64 x6]]) (c := C_31) Try.func31 (by kernel_rfl) Try.ntmps31 (by kernel_rfl) ?_ hw
  unfold m_f31 at H
  refine WP.seq (by kernel_rfl) ?_
  refine WP.reg (by kernel_rfl) ?_
  refine U.seg 2 [1] [(0, .al 1)] (fun K => ∀ b7 : Nat, K [(1, Value.pointer (some ⟨b7, 0, none⟩))] ((1, Ent.blk b7 90 [Value.int .i64 x1, Value.int .i64 x2, Value.int .i64 x3, Value.int .i64 x4, Value.int .i64 x5, Value.int .i64 x6]) :: fr)) (fun K => by kernel_rfl) 2 (by kernel_rfl) ?_
  intro b7
  refine WO.done (by kernel_rfl) ?_
  refine PO.nx ?_
  refine WP.seq (by kernel_rfl) ?_
  refine WP.join (fun s => ∃ (x26 : Bool), f31_j1 kk x26 = some r ∧ s = { n := 39, e := [(2, Value.bool x26)], d := [], g := g, h := (fr) }) ?_ ?_
  · refine WP.reg (by kernel_rfl) ?_
    refine U.seg 2 [1, 4] [(1, .ld 1)] (fun K => (b7 = b7) ∧ (K [(1, Value.pointer (some ⟨b7, 0, none⟩)), (4, Value.int .i64 x1)] ((1, Ent.blk b7 90 [Value.int .i64 x1, Value.int .i64 x2, Value.int .i64 x3, Value.int .i64 x4, Value.int .i64 x5, Value.int .i64 x6]) :: fr))) (fun K => by kernel_rfl) 2 (by kernel_rfl) ?_
    refine ⟨rfl, ?_⟩
    obtain ⟨x8, h9, H⟩ := bnd_some H
    refine U.step 3 (by kernel_rfl) (U.call (dst := some 5) (fun w hw => c_f67 kk x1 (-400) 400 h9 hw) (by kernel_rfl) (enters_of Try.func67 (by kernel_rfl) rfl)) ?_
    rintro _ _
    refine U.seg 1 [1, 6] [] (fun K => K [(1, Value.pointer (some ⟨b7, 0, none⟩)), (6, Value.bool x8)] ((1, Ent.blk b7 90 [Value.int .i64 x1, Value.int .i64 x2, Value.int .i64 x3, Value.int .i64 x4, Value.int .i64 x5, Value.int .i64 x6]) :: fr)) (fun K => by kernel_rfl) 4 (by kernel_rfl) ?_
    rcases cond_some H with ⟨h10, H⟩ | ⟨h10, H⟩
    · refine U.as (t := 6) (congrArg Value.bool h10) (by kernel_rfl) ?_
      refine U.seg 2 [1, 6, 8] [(5, .ld 1)] (fun K => (b7 = b7) ∧ (K [(1, Value.pointer (some ⟨b7, 0, none⟩)), (6, Value.bool true), (8, Value.int .i64 x2)] ((1, Ent.blk b7 90 [Value.int .i64 x1, Value.int .i64 x2, Value.int .i64 x3, Value.int .i64 x4, Value.int .i64 x5, Value.int .i64 x6]) :: fr))) (fun K => by kernel_rfl) 6 (by kernel_rfl) ?_
      refine ⟨rfl, ?_⟩
      obtain ⟨x11, h12, H⟩ := bnd_some H
      refine U.step 7 (by kernel_rfl) (U.call (dst := some 9) (fun w hw => c_f67 kk x2 1 100 h12 hw) (by kernel_rfl) (enters_of Try.func67 (by kernel_rfl) rfl)) ?_
      rintro _ _
      refine U.seg 2 [1, 11] [] (fun K => K [(1, Value.pointer (some ⟨b7, 0, none⟩)), (11, Value.bool x11)] ((1, Ent.blk b7 90 [Value.int .i64 x1, Value.int .i64 x2, Value.int .i64 x3, Value.int .i64 x4, Value.int .i64 x5, Value.int .i64 x6]) :: fr)) (fun K => by kernel_rfl) 9 (by kernel_rfl) ?_
      rcases cond_some H with ⟨h13, H⟩ | ⟨h13, H⟩
      · refine U.as (t := 11) (congrArg Value.bool h13) (by kernel_rfl) ?_
        refine U.seg 2 [1, 11, 13] [(10, .ld 1)] (fun K => (b7 = b7) ∧ (K [(1, Value.pointer (some ⟨b7, 0, none⟩)), (11, Value.bool true), (13, Value.int .i64 x3)] ((1, Ent.blk b7 90 [Value.int .i64 x1, Value.int .i64 x2, Value.int .i64 x3, Value.int .i64 x4, Value.int .i64 x5, Value.int .i64 x6]) :: fr))) (fun K => by kernel_rfl) 11 (by kernel_rfl) ?_
        refine ⟨rfl, ?_⟩
        obtain ⟨x14, h15, H⟩ := bnd_some H
        refine U.step 12 (by kernel_rfl) (U.call (dst := some 14) (fun w hw => c_f67 kk x3 1 100 h15 hw) (by kernel_rfl) (enters_of Try.func67 (by kernel_rfl) rfl)) ?_
        rintro _ _
        refine U.seg 2 [1, 16] [] (fun K => K [(1, Value.pointer (some ⟨b7, 0, none⟩)), (16, Value.bool x14)] ((1, Ent.blk b7 90 [Value.int .i64 x1, Value.int .i64 x2, Value.int .i64 x3, Value.int .i64 x4, Value.int .i64 x5, Value.int .i64 x6]) :: fr)) (fun K => by kernel_rfl) 14 (by kernel_rfl) ?_
        rcases cond_some H with ⟨h16, H⟩ | ⟨h16, H⟩
        · refine U.as (t := 16) (congrArg Value.bool h16) (by kernel_rfl) ?_
          refine U.seg 2 [1, 16, 18] [(15, .ld 1)] (fun K => (b7 = b7) ∧ (K [(1, Value.pointer (some ⟨b7, 0, none⟩)), (16, Value.bool true), (18, Value.int .i64 x4)] ((1, Ent.blk b7 90 [Value.int .i64 x1, Value.int .i64 x2, Value.int .i64 x3, Value.int .i64 x4, Value.int .i64 x5, Value.int .i64 x6]) :: fr))) (fun K => by kernel_rfl) 16 (by kernel_rfl) ?_
          refine ⟨rfl, ?_⟩
          obtain ⟨x17, h18, H⟩ := bnd_some H
          refine U.step 17 (by kernel_rfl) (U.call (dst := some 19) (fun w hw => c_f67 kk x4 (-50) 50 h18 hw) (by kernel_rfl) (enters_of Try.func67 (by kernel_rfl) rfl)) ?_
          rintro _ _
          refine U.seg 2 [1, 21] [] (fun K => K [(1, Value.pointer (some ⟨b7, 0, none⟩)), (21, Value.bool x17)] ((1, Ent.blk b7 90 [Value.int .i64 x1, Value.int .i64 x2, Value.int .i64 x3, Value.int .i64 x4, Value.int .i64 x5, Value.int .i64 x6]) :: fr)) (fun K => by kernel_rfl) 19 (by kernel_rfl) ?_
          rcases cond_some H with ⟨h19, H⟩ | ⟨h19, H⟩
          · refine U.as (t := 21) (congrArg Value.bool h19) (by kernel_rfl) ?_
            refine U.seg 2 [1, 21, 23] [(20, .ld 1)] (fun K => (b7 = b7) ∧ (K [(1, Value.pointer (some ⟨b7, 0, none⟩)), (21, Value.bool true), (23, Value.int .i64 x5)] ((1, Ent.blk b7 90 [Value.int .i64 x1, Value.int .i64 x2, Value.int .i64 x3, Value.int .i64 x4, Value.int .i64 x5, Value.int .i64 x6]) :: fr))) (fun K => by kernel_rfl) 21 (by kernel_rfl) ?_
            refine ⟨rfl, ?_⟩
            obtain ⟨x20, h21, H⟩ := bnd_some H
            refine U.step 22 (by kernel_rfl) (U.call (dst := some 24) (fun w hw => c_f67 kk x5 0 100 h21 hw) (by kernel_rfl) (enters_of Try.func67 (by kernel_rfl) rfl)) ?_
            rintro _ _
            refine U.seg 2 [1, 26] [] (fun K => K [(1, Value.pointer (some ⟨b7, 0, none⟩)), (26, Value.bool x20)] ((1, Ent.blk b7 90 [Value.int .i64 x1, Value.int .i64 x2, Value.int .i64 x3, Value.int .i64 x4, Value.int .i64 x5, Value.int .i64 x6]) :: fr)) (fun K => by kernel_rfl) 24 (by kernel_rfl) ?_
            rcases cond_some H with ⟨h22, H⟩ | ⟨h22, H⟩
            · refine U.as (t := 26) (congrArg Value.bool h22) (by kernel_rfl) ?_
              refine U.seg 8 [1, 34] [(25, .ld 1), (28, .ld 1)] (fun K => (b7 = b7) ∧ ((b7 = b7) ∧ (K [(1, Value.pointer (some ⟨b7, 0, none⟩)), (34, Value.bool (decide ((w64 (2 * x5)) < x2)))] ((1, Ent.blk b7 90 [Value.int .i64 x1, Value.int .i64 x2, Value.int .i64 x3, Value.int .i64 x4, Value.int .i64 x5, Value.int .i64 x6]) :: fr)))) (fun K => by kernel_rfl) 32 (by kernel_rfl) ?_
              refine ⟨rfl, ?_⟩
              refine ⟨rfl, ?_⟩
              rcases cond_some H with ⟨h23, H⟩ | ⟨h23, H⟩
              · refine U.as (t := 34) (congrArg Value.bool h23) (by kernel_rfl) ?_
                refine U.seg 2 [34, 36] [(33, .ld 1)] (fun K => (b7 = b7) ∧ (K [(34, Value.bool true), (36, Value.int .i64 x6)] ((1, Ent.blk b7 90 [Value.int .i64 x1, Value.int .i64 x2, Value.int .i64 x3, Value.int .i64 x4, Value.int .i64 x5, Value.int .i64 x6]) :: fr))) (fun K => by kernel_rfl) 34 (by kernel_rfl) ?_
                refine ⟨rfl, ?_⟩
                obtain ⟨x24, h25, H⟩ := bnd_some H
                refine U.step 35 (by kernel_rfl) (U.call (dst := some 37) (fun w hw => c_f67 kk x6 1 1000 h25 hw) (by kernel_rfl) (enters_of Try.func67 (by kernel_rfl) rfl)) ?_
                rintro _ _
                refine U.seg 2 [2] [] (fun K => K [(2, Value.bool x24)] ((1, Ent.blk b7 90 [Value.int .i64 x1, Value.int .i64 x2, Value.int .i64 x3, Value.int .i64 x4, Value.int .i64 x5, Value.int .i64 x6]) :: fr)) (fun K => by kernel_rfl) 37 (by kernel_rfl) ?_
                refine WO.done (by kernel_rfl) ?_
                refine PO.jn ⟨x24, H, rfl⟩ ?_
                exact (St.ok.to [2] 1 [] (by kernel_rfl) rfl (by kernel_rfl) rfl rfl (by kernel_rfl))
              · refine U.as (t := 34) (congrArg Value.bool h23) (by kernel_rfl) ?_
                refine U.seg 5 [2] [] (fun K => K [(2, Value.bool false)] ((1, Ent.blk b7 90 [Value.int .i64 x1, Value.int .i64 x2, Value.int .i64 x3, Value.int .i64 x4, Value.int .i64 x5, Value.int .i64 x6]) :: fr)) (fun K => by kernel_rfl) 37 (by kernel_rfl) ?_
                refine WO.done (by kernel_rfl) ?_
                refine PO.jn ⟨false, H, rfl⟩ ?_
                exact (St.ok.to [2] 1 [] (by kernel_rfl) rfl (by kernel_rfl) rfl rfl (by kernel_rfl))
            · refine U.as (t := 26) (congrArg Value.bool h22) (by kernel_rfl) ?_
              refine U.seg 13 [2] [] (fun K => K [(2, Value.bool false)] ((1, Ent.blk b7 90 [Value.int .i64 x1, Value.int .i64 x2, Value.int .i64 x3, Value.int .i64 x4, Value.int .i64 x5, Value.int .i64 x6]) :: fr)) (fun K => by kernel_rfl) 37 (by kernel_rfl) ?_
              refine WO.done (by kernel_rfl) ?_
              refine PO.jn ⟨false, H, rfl⟩ ?_
              exact (St.ok.to [2] 1 [] (by kernel_rfl) rfl (by kernel_rfl) rfl rfl (by kernel_rfl))
          · refine U.as (t := 21) (congrArg Value.bool h19) (by kernel_rfl) ?_
            refine U.seg 18 [2] [] (fun K => K [(2, Value.bool false)] ((1, Ent.blk b7 90 [Value.int .i64 x1, Value.int .i64 x2, Value.int .i64 x3, Value.int .i64 x4, Value.int .i64 x5, Value.int .i64 x6]) :: fr)) (fun K => by kernel_rfl) 37 (by kernel_rfl) ?_
            refine WO.done (by kernel_rfl) ?_
            refine PO.jn ⟨false, H, rfl⟩ ?_
            exact (St.ok.to [2] 1 [] (by kernel_rfl) rfl (by kernel_rfl) rfl rfl (by kernel_rfl))
        · refine U.as (t := 16) (congrArg Value.bool h16) (by kernel_rfl) ?_
          refine U.seg 23 [2] [] (fun K => K [(2, Value.bool false)] ((1, Ent.blk b7 90 [Value.int .i64 x1, Value.int .i64 x2, Value.int .i64 x3, Value.int .i64 x4, Value.int .i64 x5, Value.int .i64 x6]) :: fr)) (fun K => by kernel_rfl) 37 (by kernel_rfl) ?_
          refine WO.done (by kernel_rfl) ?_
          refine PO.jn ⟨false, H, rfl⟩ ?_
          exact (St.ok.to [2] 1 [] (by kernel_rfl) rfl (by kernel_rfl) rfl rfl (by kernel_rfl))
      · refine U.as (t := 11) (congrArg Value.bool h13) (by kernel_rfl) ?_
        refine U.seg 28 [2] [] (fun K => K [(2, Value.bool false)] ((1, Ent.blk b7 90 [Value.int .i64 x1, Value.int .i64 x2, Value.int .i64 x3, Value.int .i64 x4, Value.int .i64 x5, Value.int .i64 x6]) :: fr)) (fun K => by kernel_rfl) 37 (by kernel_rfl) ?_
        refine WO.done (by kernel_rfl) ?_
        refine PO.jn ⟨false, H, rfl⟩ ?_
        exact (St.ok.to [2] 1 [] (by kernel_rfl) rfl (by kernel_rfl) rfl rfl (by kernel_rfl))
    · refine U.as (t := 6) (congrArg Value.bool h10) (by kernel_rfl) ?_
      refine U.seg 33 [2] [] (fun K => K [(2, Value.bool false)] ((1, Ent.blk b7 90 [Value.int .i64 x1, Value.int .i64 x2, Value.int .i64 x3, Value.int .i64 x4, Value.int .i64 x5, Value.int .i64 x6]) :: fr)) (fun K => by kernel_rfl) 37 (by kernel_rfl) ?_
      refine WO.done (by kernel_rfl) ?_
      refine PO.jn ⟨false, H, rfl⟩ ?_
      exact (St.ok.to [2] 1 [] (by kernel_rfl) rfl (by kernel_rfl) rfl rfl (by kernel_rfl))
  · rintro _ ⟨x26, H, rfl⟩
    unfold f31_j1 at H
    refine PO.nx ?_
    refine WP.ret (by kernel_rfl) ?_
    have hr := Option.some.inj H
    subst hr
    refine PO.body [Value.bool x26] (fr) rfl (Res.tmp (by kernel_rfl) Res.nil) ?_
    exact fun w hw => Ret.mk () trivial rfl (okNT 0 [] (by kernel_rfl) rfl hw)

end Go.Proofs.Ytmkjcahdjphimaa
