/- printed: the walks -/
import Derived.Test.YtmkjcahdjphimaaRSP1
namespace Go.Proofs.Ytmkjcahdjphimaa
open Go Go.Eng
set_option maxRecDepth 100000 in
theorem w_f75 (kk : Nat) (F_f75 : Int → Int → Int → Int → (List (Int × Int)) → (List Int) → (List Int) → Int → (List Int) → Option (Bool × (List Int) × Int)) (hF_f75 : S_f75 F_f75) (x10 : Int) (x11 : Int) (x12 : Int) (x13 : Int) (x14 : (List (Int × Int))) (x18 : (List Int)) (x19 : (List Int)) (x23 : Int) (x24 : (List Int)) (b1 : Nat) (b2 : Nat) (b3 : Nat) (b4 : Nat) (b5 : Nat) (b6 : Nat) (b7 : Nat) (b8 : Nat) (b9 : Nat) (a15 : Option Addr) (c16 : Nat) (b20 : Nat) (T21 : Array Value) (b22 : Nat) (a25 : Option Addr) (c26 : Nat) {g : GH} (h28 : Sl (Kd.pair (Kd.int .i64) (Kd.int .i64)) g a15 (List.length x14) c16 x14) (h29 : x18.length = 8) (h30 : x19.length = 8) (h31 : EnvA 32 [(5, Value.pointer (some ⟨b7, 0, none⟩)), (7, Value.pointer (some ⟨b8, 0, none⟩))] T21) (h32 : Sl (Kd.int .i64) g a25 (List.length x24) c26 x24) {r : (Bool × (List Int) × Int)} (H : m_f75_s kk F_f75 x10 x11 x12 x13 x14 x18 x19 x23 x24 = some r) {fr : Hs} {w : World} (hw : Ok g ((1, Ent.blk b1 47 [Value.int .i64 x12, Value.int .i64 x13, Value.slice a15 (List.length x14) c16]) :: (2, Ent.blk b2 172 [yv b6]) :: (3, Ent.blk b3 112 (arrC 8 .i64 x18)) :: (4, Ent.blk b4 112 (arrC 8 .i64 x19)) :: (5, Ent.blk b5 173 ([Value.func (.func 75) #[] #[Value.pointer (some ⟨b1, 0, none⟩), Value.pointer (some ⟨b2, 0, none⟩), Value.pointer (some ⟨b3, 0, none⟩), Value.pointer (some ⟨b4, 0, none⟩), Value.pointer (some ⟨b5, 0, none⟩)]])) :: (6, Ent.ob b6 (.loop (lrec b20 T21 #[20] (C_43.r.r.r.r.r.l.r.l.l) (C_43.r.r.r.r.r.l.r.l.r) b22 [] 0))) :: (7, Ent.blk b7 179 ([Value.func (.func 77) #[] #[Value.pointer (some ⟨b9, 0, none⟩)]])) :: (8, Ent.blk b8 3 [Value.int .i64 x23]) :: (9, Ent.blk b9 53 [Value.slice a25 (List.length x24) c26]) :: fr) w) :
    Calls Try.prog 75 (List.toArray [Value.int .i64 x10, Value.int .i64 x11, Value.pointer (some ⟨b1, 0, none⟩), Value.pointer (some ⟨b2, 0, none⟩), Value.pointer (some ⟨b3, 0, none⟩), Value.pointer (some ⟨b4, 0, none⟩), Value.pointer (some ⟨b5, 0, none⟩)]) w (Ret (fun _ : Unit => List.length r.2.1 = 8) (fun _ => Value.bool r.1) (fun _ => g) (fun _ => ((1, Ent.blk b1 47 [Value.int .i64 x12, Value.int .i64 x13, Value.slice a15 (List.length x14) c16]) :: (2, Ent.blk b2 172 [yv b6]) :: (3, Ent.blk b3 112 (arrC 8 .i64 r.2.1)) :: (4, Ent.blk b4 112 (arrC 8 .i64 x19)) :: (5, Ent.blk b5 173 ([Value.func (.func 75) #[] #[Value.pointer (some ⟨b1, 0, none⟩), Value.pointer (some ⟨b2, 0, none⟩), Value.pointer (some ⟨b3, 0, none⟩), Value.pointer (some ⟨b4, 0, none⟩), Value.pointer (some ⟨b5, 0, none⟩)]])) :: (6, Ent.ob b6 (.loop (lrec b20 T21 #[20] (C_43.r.r.r.r.r.l.r.l.l) (C_43.r.r.r.r.r.l.r.l.r) b22 [] 0))) :: (7, Ent.blk b7 179 ([Value.func (.func 77) #[] #[Value.pointer (some ⟨b9, 0, none⟩)]])) :: (8, Ent.blk b8 3 [Value.int .i64 r.2.2]) :: (9, Ent.blk b9 53 [Value.slice a25 (List.length x24) c26]) :: fr))) := by
  refine fn_wp (args := [Value.int .i64 x10, Value.int .i64 x11, Value.pointer (some ⟨b1, 0, none⟩), Value.pointer (some ⟨b2, 0, none⟩), Value.pointer (some ⟨b3, 0, none⟩), Value.pointer (some ⟨b4, 0, none⟩), Value.pointer (some ⟨b5, 0, none⟩)]) (c := C_75) Try.func75 (by kernel_rfl) Try.ntmps75 (by kernel_rfl) ?_ hw
  unfold m_f75_s at H
  refine WP.seq (by kernel_rfl) ?_
  refine WP.reg (by kernel_rfl) ?_
  refine U.seg 1 [0, 1, 2, 3, 4, 5, 6] [] (fun K => K [(0, Value.int .i64 x10), (1, Value.int .i64 x11), (2, Value.pointer (some ⟨b1, 0, none⟩)), (3, Value.pointer (some ⟨b2, 0, none⟩)), (4, Value.pointer (some ⟨b3, 0, none⟩)), (5, Value.pointer (some ⟨b4, 0, none⟩)), (6, Value.pointer (some ⟨b5, 0, none⟩))] ((1, Ent.blk b1 47 [Value.int .i64 x12, Value.int .i64 x13, Value.slice a15 (List.length x14) c16]) :: (2, Ent.blk b2 172 [yv b6]) :: (3, Ent.blk b3 112 (arrC 8 .i64 x18)) :: (4, Ent.blk b4 112 (arrC 8 .i64 x19)) :: (5, Ent.blk b5 173 ([Value.func (.func 75) #[] #[Value.pointer (some ⟨b1, 0, none⟩), Value.pointer (some ⟨b2, 0, none⟩), Value.pointer (some ⟨b3, 0, none⟩), Value.pointer (some ⟨b4, 0, none⟩), Value.pointer (some ⟨b5, 0, none⟩)]])) :: (6, Ent.ob b6 (.loop (lrec b20 T21 #[20] (C_43.r.r.r.r.r.l.r.l.l) (C_43.r.r.r.r.r.l.r.l.r) b22 [] 0))) :: (7, Ent.blk b7 179 ([Value.func (.func 77) #[] #[Value.pointer (some ⟨b9, 0, none⟩)]])) :: (8, Ent.blk b8 3 [Value.int .i64 x23]) :: (9, Ent.blk b9 53 [Value.slice a25 (List.length x24) c26]) :: fr)) (fun K => by kernel_rfl) 1 (by kernel_rfl) ?_
  refine WO.done (by kernel_rfl) ?_
  refine PO.nx ?_
  refine WP.seq (by kernel_rfl) ?_
  refine WP.seq (by kernel_rfl) ?_
  refine WP.reg (by kernel_rfl) ?_
  refine U.seg 5 [0, 1, 2, 3, 4, 5, 6, 15] [(2, .ld 1)] (fun K => (b1 = b1) ∧ (K [(0, Value.int .i64 x10), (1, Value.int .i64 x11), (2, Value.pointer (some ⟨b1, 0, none⟩)), (3, Value.pointer (some ⟨b2, 0, none⟩)), (4, Value.pointer (some ⟨b3, 0, none⟩)), (5, Value.pointer (some ⟨b4, 0, none⟩)), (6, Value.pointer (some ⟨b5, 0, none⟩)), (15, Value.bool (x10 == ((List.length x14) : Int)))] ((1, Ent.blk b1 47 [Value.int .i64 x12, Value.int .i64 x13, Value.slice a15 (List.length x14) c16]) :: (2, Ent.blk b2 172 [yv b6]) :: (3, Ent.blk b3 112 (arrC 8 .i64 x18)) :: (4, Ent.blk b4 112 (arrC 8 .i64 x19)) :: (5, Ent.blk b5 173 ([Value.func (.func 75) #[] #[Value.pointer (some ⟨b1, 0, none⟩), Value.pointer (some ⟨b2, 0, none⟩), Value.pointer (some ⟨b3, 0, none⟩), Value.pointer (some ⟨b4, 0, none⟩), Value.pointer (some ⟨b5, 0, none⟩)]])) :: (6, Ent.ob b6 (.loop (lrec b20 T21 #[20] (C_43.r.r.r.r.r.l.r.l.l) (C_43.r.r.r.r.r.l.r.l.r) b22 [] 0))) :: (7, Ent.blk b7 179 ([Value.func (.func 77) #[] #[Value.pointer (some ⟨b9, 0, none⟩)]])) :: (8, Ent.blk b8 3 [Value.int .i64 x23]) :: (9, Ent.blk b9 53 [Value.slice a25 (List.length x24) c26]) :: fr))) (fun K => by kernel_rfl) 5 (by kernel_rfl) ?_
  refine ⟨rfl, ?_⟩
  refine WO.done (by kernel_rfl) ?_
  refine PO.nx ?_
  rcases cond_some H with ⟨h33, H⟩ | ⟨h33, H⟩
  · refine U.asW (t := 15) (congrArg Value.bool h33) (by kernel_rfl) ?_
    refine WP.condT (by kernel_rfl) ?_
    refine WP.seq (by kernel_rfl) ?_
    refine WP.reg (by kernel_rfl) ?_
    refine U.seg 2 [16, 17] [(0, .ld 2), (1, .ld 3)] (fun K => (b2 = b2) ∧ ((b3 = b3) ∧ (K [(16, yv b6), (17, Value.agg ((arrC 8 .i64 x18)).toArray)] ((1, Ent.blk b1 47 [Value.int .i64 x12, Value.int .i64 x13, Value.slice a15 (List.length x14) c16]) :: (2, Ent.blk b2 172 [yv b6]) :: (3, Ent.blk b3 112 (arrC 8 .i64 x18)) :: (4, Ent.blk b4 112 (arrC 8 .i64 x19)) :: (5, Ent.blk b5 173 ([Value.func (.func 75) #[] #[Value.pointer (some ⟨b1, 0, none⟩), Value.pointer (some ⟨b2, 0, none⟩), Value.pointer (some ⟨b3, 0, none⟩), Value.pointer (some ⟨b4, 0, none⟩), Value.pointer (some ⟨b5, 0, none⟩)]])) :: (6, Ent.ob b6 (.loop (lrec b20 T21 #[20] (C_43.r.r.r.r.r.l.r.l.l) (C_43.r.r.r.r.r.l.r.l.r) b22 [] 0))) :: (7, Ent.blk b7 179 ([Value.func (.func 77) #[] #[Value.pointer (some ⟨b9, 0, none⟩)]])) :: (8, Ent.blk b8 3 [Value.int .i64 x23]) :: (9, Ent.blk b9 53 [Value.slice a25 (List.length x24) c26]) :: fr)))) (fun K => by kernel_rfl) 2 (by kernel_rfl) ?_
    refine ⟨rfl, ?_⟩
    refine ⟨rfl, ?_⟩
    obtain ⟨x34, h35, H⟩ := bnd_some H
    refine U.step 3 (by kernel_rfl) (U.yield (dst := some 18) (t := 6) (D := b22) (js := []) (fun w hw => c_f43r0 kk x18 x23 x24 b6 b7 b8 b9 b20 T21 b22 a25 c26 h29 h31 h32 h35 (okNT 9 [(1, 5), (2, 6), (3, 7), (4, 8), (1, 0), (2, 1), (3, 2), (4, 3), (5, 4)] (by kernel_rfl) rfl hw)) (by kernel_rfl) (by kernel_rfl) rfl) ?_
    rintro _ _
    refine U.pick  9 [(6, 0), (7, 1), (8, 2), (9, 3), (1, 4), (2, 5), (3, 6), (4, 7), (5, 8)] ((6, Ent.ob b6 (.loop (lrec b20 T21 #[20] (C_43.r.r.r.r.r.l.r.l.l) (C_43.r.r.r.r.r.l.r.l.r) b22 [] 0))) :: (7, Ent.blk b7 179 ([Value.func (.func 77) #[] #[Value.pointer (some ⟨b9, 0, none⟩)]])) :: (8, Ent.blk b8 3 [Value.int .i64 x34.2]) :: (9, Ent.blk b9 53 [Value.slice a25 (List.length x24) c26]) :: (1, Ent.blk b1 47 [Value.int .i64 x12, Value.int .i64 x13, Value.slice a15 (List.length x14) c16]) :: (2, Ent.blk b2 172 [yv b6]) :: (3, Ent.blk b3 112 (arrC 8 .i64 x18)) :: (4, Ent.blk b4 112 (arrC 8 .i64 x19)) :: (5, Ent.blk b5 173 ([Value.func (.func 75) #[] #[Value.pointer (some ⟨b1, 0, none⟩), Value.pointer (some ⟨b2, 0, none⟩), Value.pointer (some ⟨b3, 0, none⟩), Value.pointer (some ⟨b4, 0, none⟩), Value.pointer (some ⟨b5, 0, none⟩)]])) :: fr) (by kernel_rfl) rfl ?_
    refine U.seg 1 [9] [] (fun K => K [(9, Value.bool x34.1)] ((6, Ent.ob b6 (.loop (lrec b20 T21 #[20] (C_43.r.r.r.r.r.l.r.l.l) (C_43.r.r.r.r.r.l.r.l.r) b22 [] 0))) :: (7, Ent.blk b7 179 ([Value.func (.func 77) #[] #[Value.pointer (some ⟨b9, 0, none⟩)]])) :: (8, Ent.blk b8 3 [Value.int .i64 x34.2]) :: (9, Ent.blk b9 53 [Value.slice a25 (List.length x24) c26]) :: (1, Ent.blk b1 47 [Value.int .i64 x12, Value.int .i64 x13, Value.slice a15 (List.length x14) c16]) :: (2, Ent.blk b2 172 [yv b6]) :: (3, Ent.blk b3 112 (arrC 8 .i64 x18)) :: (4, Ent.blk b4 112 (arrC 8 .i64 x19)) :: (5, Ent.blk b5 173 ([Value.func (.func 75) #[] #[Value.pointer (some ⟨b1, 0, none⟩), Value.pointer (some ⟨b2, 0, none⟩), Value.pointer (some ⟨b3, 0, none⟩), Value.pointer (some ⟨b4, 0, none⟩), Value.pointer (some ⟨b5, 0, none⟩)]])) :: fr)) (fun K => by kernel_rfl) 4 (by kernel_rfl) ?_
    refine WO.done (by kernel_rfl) ?_
    refine PO.nx ?_
    refine WP.ret (by kernel_rfl) ?_
    refine PO.nx_ret ?_
    have hr := Option.some.inj H
    subst hr
    refine PO.body [Value.bool x34.1] ((6, Ent.ob b6 (.loop (lrec b20 T21 #[20] (C_43.r.r.r.r.r.l.r.l.l) (C_43.r.r.r.r.r.l.r.l.r) b22 [] 0))) :: (7, Ent.blk b7 179 ([Value.func (.func 77) #[] #[Value.pointer (some ⟨b9, 0, none⟩)]])) :: (8, Ent.blk b8 3 [Value.int .i64 x34.2]) :: (9, Ent.blk b9 53 [Value.slice a25 (List.length x24) c26]) :: (1, Ent.blk b1 47 [Value.int .i64 x12, Value.int .i64 x13, Value.slice a15 (List.length x14) c16]) :: (2, Ent.blk b2 172 [yv b6]) :: (3, Ent.blk b3 112 (arrC 8 .i64 x18)) :: (4, Ent.blk b4 112 (arrC 8 .i64 x19)) :: (5, Ent.blk b5 173 ([Value.func (.func 75) #[] #[Value.pointer (some ⟨b1, 0, none⟩), Value.pointer (some ⟨b2, 0, none⟩), Value.pointer (some ⟨b3, 0, none⟩), Value.pointer (some ⟨b4, 0, none⟩), Value.pointer (some ⟨b5, 0, none⟩)]])) :: fr) rfl (Res.tmp (by kernel_rfl) Res.nil) ?_
    exact fun w hw => Ret.mk () h29 rfl (okNT 9 [(1, 4), (2, 5), (3, 6), (4, 7), (5, 8), (6, 0), (7, 1), (8, 2), (9, 3)] (by kernel_rfl) rfl hw)
  · refine U.asW (t := 15) (congrArg Value.bool h33) (by kernel_rfl) ?_
    refine WP.condF (by kernel_rfl) ?_
    refine WP.skip (by kernel_rfl) ?_
    refine PO.nx ?_
    refine WP.seq (by kernel_rfl) ?_
    refine U.draw [] g [(1, Ent.blk b1 47 [Value.int .i64 x12, Value.int .i64 x13, Value.slice a15 (List.length x14) c16]), (2, Ent.blk b2 172 [yv b6]), (3, Ent.blk b3 112 (arrC 8 .i64 x18)), (4, Ent.blk b4 112 (arrC 8 .i64 x19)), (5, Ent.blk b5 173 ([Value.func (.func 75) #[] #[Value.pointer (some ⟨b1, 0, none⟩), Value.pointer (some ⟨b2, 0, none⟩), Value.pointer (some ⟨b3, 0, none⟩), Value.pointer (some ⟨b4, 0, none⟩), Value.pointer (some ⟨b5, 0, none⟩)]])), (6, Ent.ob b6 (.loop (lrec b20 T21 #[20] (C_43.r.r.r.r.r.l.r.l.l) (C_43.r.r.r.r.r.l.r.l.r) b22 [] 0))), (7, Ent.blk b7 179 ([Value.func (.func 77) #[] #[Value.pointer (some ⟨b9, 0, none⟩)]])), (8, Ent.blk b8 3 [Value.int .i64 x23]), (9, Ent.blk b9 53 [Value.slice a25 (List.length x24) c26])] (by kernel_rfl) (by kernel_rfl) 10 (by kernel_rfl) (fun w hw => Ok.pickTo [(1, 0), (2, 1), (3, 2), (4, 3), (5, 4), (6, 5), (7, 6), (8, 7), (9, 8)] (by kernel_rfl) (by kernel_rfl) (GH.le_refl _) hw) ?_
    obtain ⟨x43, h44, H⟩ := bnd_some H
    obtain ⟨h45, s46, h47, h48⟩ := Sl.at' (d := (Kd.pair (Kd.int .i64) (Kd.int .i64))) h28 h44
    obtain ⟨_, _, rfl, rfl, rfl⟩ := h47
    refine U.take 0 [0, 1, 2, 3, 4, 5, 6, 7, 8, 9] [0, 1, 4, 5, 6, 10] [9, 8, 7, 6, 5, 4, 3, 2, 1, 0] [(1, .ld 1), (3, .s), (5, .lg (Value.int .i64 x43.1)), (7, .ld 1)] (fun K => (b1 = b1) ∧ (((0 : Int) ≤ x10 ∧ x10 < ((List.length x14) : Nat) ∧ FlatA a15 (List.length x14)) ∧ ((GLoad g ⟨ab a15, ao a15 + (Int.toNat (x10)) * 2, none⟩ false 1 (Value.int .i64 x43.1)) ∧ ((b1 = b1) ∧ (K [(0, Value.int .i64 x10), (1, Value.int .i64 x11), (4, Value.pointer (some ⟨b3, 0, none⟩)), (5, Value.pointer (some ⟨b4, 0, none⟩)), (6, Value.pointer (some ⟨b5, 0, none⟩)), (10, Value.int .i64 (w64 (x43.1 + x13)))]))))) (fun K => by kernel_rfl) (by kernel_rfl) (by kernel_rfl) (by kernel_rfl) ?_
    refine ⟨rfl, ?_⟩
    refine ⟨h45, ?_⟩
    refine ⟨(h48 _ 0 _ _ _ rfl rfl rfl (OwnRead.one rfl)), ?_⟩
    refine ⟨rfl, ?_⟩
    refine WD.done (by kernel_rfl) ?_
    refine PO.nx ?_
    refine WP.seq (by kernel_rfl) ?_
    refine WP.seq (by kernel_rfl) ?_
    refine WP.reg (by kernel_rfl) ?_
    obtain ⟨h49, H⟩ := grd_some H
    refine U.seg 3 [0, 1, 4, 5, 6, 10] [(1, .s), (2, .sv 3 (arrC 8 .i64 (setA 8 x18 x10 0)))] (fun K => ((0 : Int) ≤ x10 ∧ x10 < ((8 : Nat) : Int) ∧ (⟨b3, 0, none⟩ : Addr).spot = none) ∧ ((b3 = b3 ∧ [Value.int .i64 0].length = 1 ∧ 0 + (Int.toNat (x10)) * 1 + [Value.int .i64 0].length ≤ (arrC 8 .i64 x18).length ∧ (∀ u ∈ [Value.int .i64 0], u.oneCell' = true) ∧ splice (arrC 8 .i64 x18) (0 + (Int.toNat (x10)) * 1) [Value.int .i64 0] = (arrC 8 .i64 (setA 8 x18 x10 0))) ∧ (K [(0, Value.int .i64 x10), (1, Value.int .i64 x11), (4, Value.pointer (some ⟨b3, 0, none⟩)), (5, Value.pointer (some ⟨b4, 0, none⟩)), (6, Value.pointer (some ⟨b5, 0, none⟩)), (10, Value.int .i64 (w64 (x43.1 + x13)))] ((1, Ent.blk b1 47 [Value.int .i64 x12, Value.int .i64 x13, Value.slice a15 (List.length x14) c16]) :: (2, Ent.blk b2 172 [yv b6]) :: (3, Ent.blk b3 112 (arrC 8 .i64 (setA 8 x18 x10 0))) :: (4, Ent.blk b4 112 (arrC 8 .i64 x19)) :: (5, Ent.blk b5 173 ([Value.func (.func 75) #[] #[Value.pointer (some ⟨b1, 0, none⟩), Value.pointer (some ⟨b2, 0, none⟩), Value.pointer (some ⟨b3, 0, none⟩), Value.pointer (some ⟨b4, 0, none⟩), Value.pointer (some ⟨b5, 0, none⟩)]])) :: (6, Ent.ob b6 (.loop (lrec b20 T21 #[20] (C_43.r.r.r.r.r.l.r.l.l) (C_43.r.r.r.r.r.l.r.l.r) b22 [] 0))) :: (7, Ent.blk b7 179 ([Value.func (.func 77) #[] #[Value.pointer (some ⟨b9, 0, none⟩)]])) :: (8, Ent.blk b8 3 [Value.int .i64 x23]) :: (9, Ent.blk b9 53 [Value.slice a25 (List.length x24) c26]) :: fr)))) (fun K => by kernel_rfl) 3 (by kernel_rfl) ?_
    refine ⟨⟨h49.1, h49.2, rfl⟩, ?_⟩
    refine ⟨⟨rfl, rfl, arr_put (xs := x18) [] [] h49.1 h49.2 (by simp) (by simp) rfl⟩, ?_⟩
    refine WO.done (by kernel_rfl) ?_
    refine PO.nx ?_
    refine WP.join (fun s => ∃ (x110 : (List Int)) (x112 : Int), x110.length = 8 ∧ f75_j5 kk F_f75 x110 x10 x112 = some r ∧ s = { n := 57, e := [(0, Value.int .i64 x10), (4, Value.pointer (some ⟨b3, 0, none⟩))], d := [], g := g, h := ((1, Ent.blk b1 47 [Value.int .i64 x12, Value.int .i64 x13, Value.slice a15 (List.length x14) c16]) :: (2, Ent.blk b2 172 [yv b6]) :: (3, Ent.blk b3 112 (arrC 8 .i64 x110)) :: (4, Ent.blk b4 112 (arrC 8 .i64 x19)) :: (5, Ent.blk b5 173 ([Value.func (.func 75) #[] #[Value.pointer (some ⟨b1, 0, none⟩), Value.pointer (some ⟨b2, 0, none⟩), Value.pointer (some ⟨b3, 0, none⟩), Value.pointer (some ⟨b4, 0, none⟩), Value.pointer (some ⟨b5, 0, none⟩)]])) :: (6, Ent.ob b6 (.loop (lrec b20 T21 #[20] (C_43.r.r.r.r.r.l.r.l.l) (C_43.r.r.r.r.r.l.r.l.r) b22 [] 0))) :: (7, Ent.blk b7 179 ([Value.func (.func 77) #[] #[Value.pointer (some ⟨b9, 0, none⟩)]])) :: (8, Ent.blk b8 3 [Value.int .i64 x112]) :: (9, Ent.blk b9 53 [Value.slice a25 (List.length x24) c26]) :: fr) }) ?_ ?_
    · refine WP.block (id := 0) (by kernel_rfl) ?_
      obtain ⟨o86, h109, h89⟩ := bnd_some H
      refine WP.loopW (by kernel_rfl) (fun n s => ∃ (x82 : Int) (x83 : (List Int)) (x85 : Int), x83.length = 8 ∧ iter (fun y : (Int × (List Int) × Int) => f75_l3 kk F_f75 y.1 y.2.1 y.2.2 x10 x19 x12 x13 x14 x24 x43) n (x82, x83, x85) = some o86 ∧ s = { n := 57, e := [(0, Value.int .i64 x10), (1, Value.int .i64 x82), (4, Value.pointer (some ⟨b3, 0, none⟩)), (5, Value.pointer (some ⟨b4, 0, none⟩)), (6, Value.pointer (some ⟨b5, 0, none⟩)), (10, Value.int .i64 (w64 (x43.1 + x13)))], d := [], g := g, h := ((1, Ent.blk b1 47 [Value.int .i64 x12, Value.int .i64 x13, Value.slice a15 (List.length x14) c16]) :: (2, Ent.blk b2 172 [yv b6]) :: (3, Ent.blk b3 112 (arrC 8 .i64 x83)) :: (4, Ent.blk b4 112 (arrC 8 .i64 x19)) :: (5, Ent.blk b5 173 ([Value.func (.func 75) #[] #[Value.pointer (some ⟨b1, 0, none⟩), Value.pointer (some ⟨b2, 0, none⟩), Value.pointer (some ⟨b3, 0, none⟩), Value.pointer (some ⟨b4, 0, none⟩), Value.pointer (some ⟨b5, 0, none⟩)]])) :: (6, Ent.ob b6 (.loop (lrec b20 T21 #[20] (C_43.r.r.r.r.r.l.r.l.l) (C_43.r.r.r.r.r.l.r.l.r) b22 [] 0))) :: (7, Ent.blk b7 179 ([Value.func (.func 77) #[] #[Value.pointer (some ⟨b9, 0, none⟩)]])) :: (8, Ent.blk b8 3 [Value.int .i64 x85]) :: (9, Ent.blk b9 53 [Value.slice a25 (List.length x24) c26]) :: fr) }) (k := kk) ⟨x11, (setA 8 x18 x10 0), x23, (by simp [setA]), h109, rfl⟩ (St.ok.to [0, 1, 4, 5, 6, 10] 9 [(1, 0), (2, 1), (3, 2), (4, 3), (5, 4), (6, 5), (7, 6), (8, 7), (9, 8)] (by kernel_rfl) rfl (by kernel_rfl) rfl rfl (by kernel_rfl)) ?_
      intro n104 s
      rintro ⟨x82, x83, x85, h84, h105, rfl⟩
      obtain ⟨n90, q87, h107, h108, h88⟩ := iter_some h105
      subst h107
      have H : f75_l3 kk F_f75 x82 x83 x85 x10 x19 x12 x13 x14 x24 x43 = some q87 := h108
      unfold f75_l3 at H
      refine WP.seq (by kernel_rfl) ?_
      refine WP.seq (by kernel_rfl) ?_
      refine WP.join (fun s => ∃ (x92 : Bool), f75_j4 kk F_f75 x92 x10 x82 x12 x13 x14 x83 x19 x85 x24 x43 = some q87 ∧ s = { n := 57, e := [(0, Value.int .i64 x10), (1, Value.int .i64 x82), (4, Value.pointer (some ⟨b3, 0, none⟩)), (5, Value.pointer (some ⟨b4, 0, none⟩)), (6, Value.pointer (some ⟨b5, 0, none⟩)), (10, Value.int .i64 (w64 (x43.1 + x13))), (40, Value.bool x92)], d := [], g := g, h := ((1, Ent.blk b1 47 [Value.int .i64 x12, Value.int .i64 x13, Value.slice a15 (List.length x14) c16]) :: (2, Ent.blk b2 172 [yv b6]) :: (3, Ent.blk b3 112 (arrC 8 .i64 x83)) :: (4, Ent.blk b4 112 (arrC 8 .i64 x19)) :: (5, Ent.blk b5 173 ([Value.func (.func 75) #[] #[Value.pointer (some ⟨b1, 0, none⟩), Value.pointer (some ⟨b2, 0, none⟩), Value.pointer (some ⟨b3, 0, none⟩), Value.pointer (some ⟨b4, 0, none⟩), Value.pointer (some ⟨b5, 0, none⟩)]])) :: (6, Ent.ob b6 (.loop (lrec b20 T21 #[20] (C_43.r.r.r.r.r.l.r.l.l) (C_43.r.r.r.r.r.l.r.l.r) b22 [] 0))) :: (7, Ent.blk b7 179 ([Value.func (.func 77) #[] #[Value.pointer (some ⟨b9, 0, none⟩)]])) :: (8, Ent.blk b8 3 [Value.int .i64 x85]) :: (9, Ent.blk b9 53 [Value.slice a25 (List.length x24) c26]) :: fr) }) ?_ ?_
      · refine U.draw [] g [(1, Ent.blk b1 47 [Value.int .i64 x12, Value.int .i64 x13, Value.slice a15 (List.length x14) c16]), (2, Ent.blk b2 172 [yv b6]), (3, Ent.blk b3 112 (arrC 8 .i64 x83)), (4, Ent.blk b4 112 (arrC 8 .i64 x19)), (5, Ent.blk b5 173 ([Value.func (.func 75) #[] #[Value.pointer (some ⟨b1, 0, none⟩), Value.pointer (some ⟨b2, 0, none⟩), Value.pointer (some ⟨b3, 0, none⟩), Value.pointer (some ⟨b4, 0, none⟩), Value.pointer (some ⟨b5, 0, none⟩)]])), (6, Ent.ob b6 (.loop (lrec b20 T21 #[20] (C_43.r.r.r.r.r.l.r.l.l) (C_43.r.r.r.r.r.l.r.l.r) b22 [] 0))), (7, Ent.blk b7 179 ([Value.func (.func 77) #[] #[Value.pointer (some ⟨b9, 0, none⟩)]])), (8, Ent.blk b8 3 [Value.int .i64 x85]), (9, Ent.blk b9 53 [Value.slice a25 (List.length x24) c26])] (by kernel_rfl) (by kernel_rfl) 11 (by kernel_rfl) (fun w hw => Ok.pickTo [(1, 0), (2, 1), (3, 2), (4, 3), (5, 4), (6, 5), (7, 6), (8, 7), (9, 8)] (by kernel_rfl) (by kernel_rfl) (GH.le_refl _) hw) ?_
        refine U.take 3 [0, 1, 2, 3, 4, 5, 6, 7] [0, 1, 4, 5, 6, 10, 37] [7, 6, 5, 4, 3, 2, 1, 0] [(1, .s), (2, .lv 3 (Value.int .i64 (List.getD x83 (Int.toNat (x10)) 0))), (4, .s), (5, .lv 4 (Value.int .i64 (List.getD x19 (Int.toNat (x10)) 0)))] (fun K => ((0 : Int) ≤ x10 ∧ x10 < ((8 : Nat) : Int) ∧ (⟨b3, 0, none⟩ : Addr).spot = none) ∧ ((b3 = b3 ∧ OwnRead (arrC 8 .i64 x83) (0 + (Int.toNat (x10)) * 1) false 1 (Value.int .i64 (List.getD x83 (Int.toNat (x10)) 0))) ∧ (((0 : Int) ≤ x10 ∧ x10 < ((8 : Nat) : Int) ∧ (⟨b4, 0, none⟩ : Addr).spot = none) ∧ ((b4 = b4 ∧ OwnRead (arrC 8 .i64 x19) (0 + (Int.toNat (x10)) * 1) false 1 (Value.int .i64 (List.getD x19 (Int.toNat (x10)) 0))) ∧ (K [(0, Value.int .i64 x10), (1, Value.int .i64 x82), (4, Value.pointer (some ⟨b3, 0, none⟩)), (5, Value.pointer (some ⟨b4, 0, none⟩)), (6, Value.pointer (some ⟨b5, 0, none⟩)), (10, Value.int .i64 (w64 (x43.1 + x13))), (37, Value.bool (decide ((List.getD x83 (Int.toNat (x10)) 0) ≤ (List.getD x19 (Int.toNat (x10)) 0))))]))))) (fun K => by kernel_rfl) (by kernel_rfl) (by kernel_rfl) (by kernel_rfl) ?_
        refine ⟨⟨h49.1, h49.2, rfl⟩, ?_⟩
        refine ⟨⟨rfl, (arr_read (k := .i64) (xs := x83) [] [] h49.1 h49.2 (by simp) rfl)⟩, ?_⟩
        refine ⟨⟨h49.1, h49.2, rfl⟩, ?_⟩
        refine ⟨⟨rfl, (arr_read (k := .i64) (xs := x19) [] [] h49.1 h49.2 (by simp) rfl)⟩, ?_⟩
        rcases cond_some H with ⟨h91, H⟩ | ⟨h91, H⟩
        · refine U.asD (t := 37) (congrArg Value.bool h91) (by kernel_rfl) ?_
          refine U.take 0 [8, 9, 10] [0, 1, 4, 5, 6, 10, 38, 39, 40] [10, 9, 8, 7, 6, 5, 4, 3, 2, 1, 0] [] (fun K => K [(0, Value.int .i64 x10), (1, Value.int .i64 x82), (4, Value.pointer (some ⟨b3, 0, none⟩)), (5, Value.pointer (some ⟨b4, 0, none⟩)), (6, Value.pointer (some ⟨b5, 0, none⟩)), (10, Value.int .i64 (w64 (x43.1 + x13))), (38, Value.int .i64 x82), (39, Value.bool (decide (x82 ≥ 0))), (40, Value.bool (decide (x82 ≥ 0)))]) (fun K => by kernel_rfl) (by kernel_rfl) (by kernel_rfl) (by kernel_rfl) ?_
          refine WD.done (by kernel_rfl) ?_
          refine PO.jn ⟨(decide (x82 ≥ 0)), H, rfl⟩ ?_
          exact (St.ok.to [0, 1, 4, 5, 6, 10, 40] 9 [(1, 0), (2, 1), (3, 2), (4, 3), (5, 4), (6, 5), (7, 6), (8, 7), (9, 8)] (by kernel_rfl) rfl (by kernel_rfl) rfl rfl (by kernel_rfl))
        · refine U.asD (t := 37) (congrArg Value.bool h91) (by kernel_rfl) ?_
          refine U.take 0 [8, 9, 10] [0, 1, 4, 5, 6, 10, 38, 39, 40] [10, 9, 8, 7, 6, 5, 4, 3, 2, 1, 0] [] (fun K => K [(0, Value.int .i64 x10), (1, Value.int .i64 x82), (4, Value.pointer (some ⟨b3, 0, none⟩)), (5, Value.pointer (some ⟨b4, 0, none⟩)), (6, Value.pointer (some ⟨b5, 0, none⟩)), (10, Value.int .i64 (w64 (x43.1 + x13))), (38, undef), (39, undef), (40, Value.bool false)]) (fun K => by kernel_rfl) (by kernel_rfl) (by kernel_rfl) (by kernel_rfl) ?_
          refine WD.done (by kernel_rfl) ?_
          refine PO.jn ⟨false, H, rfl⟩ ?_
          exact (St.ok.to [0, 1, 4, 5, 6, 10, 40] 9 [(1, 0), (2, 1), (3, 2), (4, 3), (5, 4), (6, 5), (7, 6), (8, 7), (9, 8)] (by kernel_rfl) rfl (by kernel_rfl) rfl rfl (by kernel_rfl))
      · rintro _ ⟨x92, H, rfl⟩
        unfold f75_j4 at H
        refine PO.nx ?_
        rcases cond_some H with ⟨h93, H⟩ | ⟨h93, H⟩
        · refine U.asW (t := 40) (congrArg Value.bool h93) (by kernel_rfl) ?_
          refine WP.condT (by kernel_rfl) ?_
          refine WP.skip (by kernel_rfl) ?_
          refine PO.nx ?_
          refine WP.seq (by kernel_rfl) ?_
          refine WP.block (id := 1) (by kernel_rfl) ?_
          refine WP.seq (by kernel_rfl) ?_
          refine WP.seq (by kernel_rfl) ?_
          refine WP.reg (by kernel_rfl) ?_
          refine U.seg 4 [0, 1, 4, 5, 6, 10, 46, 48, 49] [(0, .ld 5)] (fun K => (b5 = b5) ∧ (K [(0, Value.int .i64 x10), (1, Value.int .i64 x82), (4, Value.pointer (some ⟨b3, 0, none⟩)), (5, Value.pointer (some ⟨b4, 0, none⟩)), (6, Value.pointer (some ⟨b5, 0, none⟩)), (10, Value.int .i64 (w64 (x43.1 + x13))), (46, Value.func (.func 75) #[] #[Value.pointer (some ⟨b1, 0, none⟩), Value.pointer (some ⟨b2, 0, none⟩), Value.pointer (some ⟨b3, 0, none⟩), Value.pointer (some ⟨b4, 0, none⟩), Value.pointer (some ⟨b5, 0, none⟩)]), (48, Value.int .i64 (w64 (x10 + 1))), (49, Value.int .i64 x82)] ((1, Ent.blk b1 47 [Value.int .i64 x12, Value.int .i64 x13, Value.slice a15 (List.length x14) c16]) :: (2, Ent.blk b2 172 [yv b6]) :: (3, Ent.blk b3 112 (arrC 8 .i64 x83)) :: (4, Ent.blk b4 112 (arrC 8 .i64 x19)) :: (5, Ent.blk b5 173 ([Value.func (.func 75) #[] #[Value.pointer (some ⟨b1, 0, none⟩), Value.pointer (some ⟨b2, 0, none⟩), Value.pointer (some ⟨b3, 0, none⟩), Value.pointer (some ⟨b4, 0, none⟩), Value.pointer (some ⟨b5, 0, none⟩)]])) :: (6, Ent.ob b6 (.loop (lrec b20 T21 #[20] (C_43.r.r.r.r.r.l.r.l.l) (C_43.r.r.r.r.r.l.r.l.r) b22 [] 0))) :: (7, Ent.blk b7 179 ([Value.func (.func 77) #[] #[Value.pointer (some ⟨b9, 0, none⟩)]])) :: (8, Ent.blk b8 3 [Value.int .i64 x85]) :: (9, Ent.blk b9 53 [Value.slice a25 (List.length x24) c26]) :: fr))) (fun K => by kernel_rfl) 4 (by kernel_rfl) ?_
          refine ⟨rfl, ?_⟩
          obtain ⟨x94, h95, H⟩ := bnd_some H
          refine U.step 5 (by kernel_rfl) (U.call (dst := some 50) (fun w hw => hF_f75 (w64 (x10 + 1)) x82 x12 x13 x14 x83 x19 x85 x24 b1 b2 b3 b4 b5 b6 b7 b8 b9 a15 c16 b20 T21 b22 a25 c26 h28 h84 h30 h31 h32 h95 (okNT 9 [(1, 0), (2, 1), (3, 2), (4, 3), (5, 4), (6, 5), (7, 6), (8, 7), (9, 8)] (by kernel_rfl) rfl hw)) (by kernel_rfl) (enters_of Try.func75 (by kernel_rfl) rfl)) ?_
          rintro _ h98
          refine U.seg 1 [0, 1, 4, 5, 6, 10, 51] [] (fun K => K [(0, Value.int .i64 x10), (1, Value.int .i64 x82), (4, Value.pointer (some ⟨b3, 0, none⟩)), (5, Value.pointer (some ⟨b4, 0, none⟩)), (6, Value.pointer (some ⟨b5, 0, none⟩)), (10, Value.int .i64 (w64 (x43.1 + x13))), (51, Value.bool (!x94.1))] ((1, Ent.blk b1 47 [Value.int .i64 x12, Value.int .i64 x13, Value.slice a15 (List.length x14) c16]) :: (2, Ent.blk b2 172 [yv b6]) :: (3, Ent.blk b3 112 (arrC 8 .i64 x94.2.1)) :: (4, Ent.blk b4 112 (arrC 8 .i64 x19)) :: (5, Ent.blk b5 173 ([Value.func (.func 75) #[] #[Value.pointer (some ⟨b1, 0, none⟩), Value.pointer (some ⟨b2, 0, none⟩), Value.pointer (some ⟨b3, 0, none⟩), Value.pointer (some ⟨b4, 0, none⟩), Value.pointer (some ⟨b5, 0, none⟩)]])) :: (6, Ent.ob b6 (.loop (lrec b20 T21 #[20] (C_43.r.r.r.r.r.l.r.l.l) (C_43.r.r.r.r.r.l.r.l.r) b22 [] 0))) :: (7, Ent.blk b7 179 ([Value.func (.func 77) #[] #[Value.pointer (some ⟨b9, 0, none⟩)]])) :: (8, Ent.blk b8 3 [Value.int .i64 x94.2.2]) :: (9, Ent.blk b9 53 [Value.slice a25 (List.length x24) c26]) :: fr)) (fun K => by kernel_rfl) 6 (by kernel_rfl) ?_
          refine WO.done (by kernel_rfl) ?_
          refine PO.nx ?_
          rcases cond_some H with ⟨h99, H⟩ | ⟨h99, H⟩
          · refine U.asW (t := 51) (congrArg Value.bool h99) (by kernel_rfl) ?_
            refine WP.condT (by kernel_rfl) ?_
            refine WP.seq (by kernel_rfl) ?_
            refine WP.reg (by kernel_rfl) ?_
            refine U.seg 1 [9] [] (fun K => K [(9, Value.bool false)] ((1, Ent.blk b1 47 [Value.int .i64 x12, Value.int .i64 x13, Value.slice a15 (List.length x14) c16]) :: (2, Ent.blk b2 172 [yv b6]) :: (3, Ent.blk b3 112 (arrC 8 .i64 x94.2.1)) :: (4, Ent.blk b4 112 (arrC 8 .i64 x19)) :: (5, Ent.blk b5 173 ([Value.func (.func 75) #[] #[Value.pointer (some ⟨b1, 0, none⟩), Value.pointer (some ⟨b2, 0, none⟩), Value.pointer (some ⟨b3, 0, none⟩), Value.pointer (some ⟨b4, 0, none⟩), Value.pointer (some ⟨b5, 0, none⟩)]])) :: (6, Ent.ob b6 (.loop (lrec b20 T21 #[20] (C_43.r.r.r.r.r.l.r.l.l) (C_43.r.r.r.r.r.l.r.l.r) b22 [] 0))) :: (7, Ent.blk b7 179 ([Value.func (.func 77) #[] #[Value.pointer (some ⟨b9, 0, none⟩)]])) :: (8, Ent.blk b8 3 [Value.int .i64 x94.2.2]) :: (9, Ent.blk b9 53 [Value.slice a25 (List.length x24) c26]) :: fr)) (fun K => by kernel_rfl) 1 (by kernel_rfl) ?_
            refine WO.done (by kernel_rfl) ?_
            refine PO.nx ?_
            refine WP.ret (by kernel_rfl) ?_
            refine PO.nx_ret ?_
            refine PO.blk_ret ?_
            refine PO.nx_ret ?_
            refine PO.lp_ret ?_
            refine PO.blk_ret ?_
            refine PO.jn_ret ?_
            refine PO.nx_ret ?_
            have hq := Option.some.inj H
            subst hq
            have H := h89
            rw [← (show _ = o86 from h88)] at H
            have H : some (false, x94.2.1, x94.2.2) = some r := H
            have hr := Option.some.inj H
            subst hr
            refine PO.body [Value.bool false] ((1, Ent.blk b1 47 [Value.int .i64 x12, Value.int .i64 x13, Value.slice a15 (List.length x14) c16]) :: (2, Ent.blk b2 172 [yv b6]) :: (3, Ent.blk b3 112 (arrC 8 .i64 x94.2.1)) :: (4, Ent.blk b4 112 (arrC 8 .i64 x19)) :: (5, Ent.blk b5 173 ([Value.func (.func 75) #[] #[Value.pointer (some ⟨b1, 0, none⟩), Value.pointer (some ⟨b2, 0, none⟩), Value.pointer (some ⟨b3, 0, none⟩), Value.pointer (some ⟨b4, 0, none⟩), Value.pointer (some ⟨b5, 0, none⟩)]])) :: (6, Ent.ob b6 (.loop (lrec b20 T21 #[20] (C_43.r.r.r.r.r.l.r.l.l) (C_43.r.r.r.r.r.l.r.l.r) b22 [] 0))) :: (7, Ent.blk b7 179 ([Value.func (.func 77) #[] #[Value.pointer (some ⟨b9, 0, none⟩)]])) :: (8, Ent.blk b8 3 [Value.int .i64 x94.2.2]) :: (9, Ent.blk b9 53 [Value.slice a25 (List.length x24) c26]) :: fr) rfl (Res.tmp (by kernel_rfl) Res.nil) ?_
            exact fun w hw => Ret.mk () h98 rfl (okNT 9 [(1, 0), (2, 1), (3, 2), (4, 3), (5, 4), (6, 5), (7, 6), (8, 7), (9, 8)] (by kernel_rfl) rfl hw)
          · refine U.asW (t := 51) (congrArg Value.bool h99) (by kernel_rfl) ?_
            refine WP.condF (by kernel_rfl) ?_
            refine WP.skip (by kernel_rfl) ?_
            refine PO.nx ?_
            refine WP.reg (by kernel_rfl) ?_
            refine U.seg 4 [0, 1, 4, 5, 6, 10] [] (fun K => K [(0, Value.int .i64 x10), (1, Value.int .i64 (w64 (x82 - (w64 (x43.1 + x13))))), (4, Value.pointer (some ⟨b3, 0, none⟩)), (5, Value.pointer (some ⟨b4, 0, none⟩)), (6, Value.pointer (some ⟨b5, 0, none⟩)), (10, Value.int .i64 (w64 (x43.1 + x13)))] ((1, Ent.blk b1 47 [Value.int .i64 x12, Value.int .i64 x13, Value.slice a15 (List.length x14) c16]) :: (2, Ent.blk b2 172 [yv b6]) :: (3, Ent.blk b3 112 (arrC 8 .i64 x94.2.1)) :: (4, Ent.blk b4 112 (arrC 8 .i64 x19)) :: (5, Ent.blk b5 173 ([Value.func (.func 75) #[] #[Value.pointer (some ⟨b1, 0, none⟩), Value.pointer (some ⟨b2, 0, none⟩), Value.pointer (some ⟨b3, 0, none⟩), Value.pointer (some ⟨b4, 0, none⟩), Value.pointer (some ⟨b5, 0, none⟩)]])) :: (6, Ent.ob b6 (.loop (lrec b20 T21 #[20] (C_43.r.r.r.r.r.l.r.l.l) (C_43.r.r.r.r.r.l.r.l.r) b22 [] 0))) :: (7, Ent.blk b7 179 ([Value.func (.func 77) #[] #[Value.pointer (some ⟨b9, 0, none⟩)]])) :: (8, Ent.blk b8 3 [Value.int .i64 x94.2.2]) :: (9, Ent.blk b9 53 [Value.slice a25 (List.length x24) c26]) :: fr)) (fun K => by kernel_rfl) 4 (by kernel_rfl) ?_
            refine WO.done (by kernel_rfl) ?_
            refine PO.blk_normal ?_
            refine PO.nx ?_
            refine WP.reg (by kernel_rfl) ?_
            refine U.seg 6 [0, 1, 4, 5, 6, 10] [(1, .s), (2, .lv 3 (Value.int .i64 (List.getD x94.2.1 (Int.toNat (x10)) 0))), (4, .s), (5, .sv 3 (arrC 8 .i64 (setA 8 x94.2.1 x10 (w64 ((List.getD x94.2.1 (Int.toNat (x10)) 0) + 1)))))] (fun K => ((0 : Int) ≤ x10 ∧ x10 < ((8 : Nat) : Int) ∧ (⟨b3, 0, none⟩ : Addr).spot = none) ∧ ((b3 = b3 ∧ OwnRead (arrC 8 .i64 x94.2.1) (0 + (Int.toNat (x10)) * 1) false 1 (Value.int .i64 (List.getD x94.2.1 (Int.toNat (x10)) 0))) ∧ (((0 : Int) ≤ x10 ∧ x10 < ((8 : Nat) : Int) ∧ (⟨b3, 0, none⟩ : Addr).spot = none) ∧ ((b3 = b3 ∧ [Value.int .i64 (w64 ((List.getD x94.2.1 (Int.toNat (x10)) 0) + 1))].length = 1 ∧ 0 + (Int.toNat (x10)) * 1 + [Value.int .i64 (w64 ((List.getD x94.2.1 (Int.toNat (x10)) 0) + 1))].length ≤ (arrC 8 .i64 x94.2.1).length ∧ (∀ u ∈ [Value.int .i64 (w64 ((List.getD x94.2.1 (Int.toNat (x10)) 0) + 1))], u.oneCell' = true) ∧ splice (arrC 8 .i64 x94.2.1) (0 + (Int.toNat (x10)) * 1) [Value.int .i64 (w64 ((List.getD x94.2.1 (Int.toNat (x10)) 0) + 1))] = (arrC 8 .i64 (setA 8 x94.2.1 x10 (w64 ((List.getD x94.2.1 (Int.toNat (x10)) 0) + 1))))) ∧ (K [(0, Value.int .i64 x10), (1, Value.int .i64 (w64 (x82 - (w64 (x43.1 + x13))))), (4, Value.pointer (some ⟨b3, 0, none⟩)), (5, Value.pointer (some ⟨b4, 0, none⟩)), (6, Value.pointer (some ⟨b5, 0, none⟩)), (10, Value.int .i64 (w64 (x43.1 + x13)))] ((1, Ent.blk b1 47 [Value.int .i64 x12, Value.int .i64 x13, Value.slice a15 (List.length x14) c16]) :: (2, Ent.blk b2 172 [yv b6]) :: (3, Ent.blk b3 112 (arrC 8 .i64 (setA 8 x94.2.1 x10 (w64 ((List.getD x94.2.1 (Int.toNat (x10)) 0) + 1))))) :: (4, Ent.blk b4 112 (arrC 8 .i64 x19)) :: (5, Ent.blk b5 173 ([Value.func (.func 75) #[] #[Value.pointer (some ⟨b1, 0, none⟩), Value.pointer (some ⟨b2, 0, none⟩), Value.pointer (some ⟨b3, 0, none⟩), Value.pointer (some ⟨b4, 0, none⟩), Value.pointer (some ⟨b5, 0, none⟩)]])) :: (6, Ent.ob b6 (.loop (lrec b20 T21 #[20] (C_43.r.r.r.r.r.l.r.l.l) (C_43.r.r.r.r.r.l.r.l.r) b22 [] 0))) :: (7, Ent.blk b7 179 ([Value.func (.func 77) #[] #[Value.pointer (some ⟨b9, 0, none⟩)]])) :: (8, Ent.blk b8 3 [Value.int .i64 x94.2.2]) :: (9, Ent.blk b9 53 [Value.slice a25 (List.length x24) c26]) :: fr)))))) (fun K => by kernel_rfl) 6 (by kernel_rfl) ?_
            refine ⟨⟨h49.1, h49.2, rfl⟩, ?_⟩
            refine ⟨⟨rfl, (arr_read (k := .i64) (xs := x94.2.1) [] [] h49.1 h49.2 (by simp) rfl)⟩, ?_⟩
            refine ⟨⟨h49.1, h49.2, rfl⟩, ?_⟩
            refine ⟨⟨rfl, rfl, arr_put (xs := x94.2.1) [] [] h49.1 h49.2 (by simp) (by simp) rfl⟩, ?_⟩
            refine WO.done (by kernel_rfl) ?_
            have hq := Option.some.inj H
            subst hq
            refine PO.againW ⟨(w64 (x82 - (w64 (x43.1 + x13)))), (setA 8 x94.2.1 x10 (w64 ((List.getD x94.2.1 (Int.toNat (x10)) 0) + 1))), x94.2.2, (by simp [setA]), h88, rfl⟩ ?_ (Nat.lt_succ_self _)
            exact (St.ok.to [0, 1, 4, 5, 6, 10] 9 [(1, 0), (2, 1), (3, 2), (4, 3), (5, 4), (6, 5), (7, 6), (8, 7), (9, 8)] (by kernel_rfl) rfl (by kernel_rfl) rfl rfl (by kernel_rfl))
        · refine U.asW (t := 40) (congrArg Value.bool h93) (by kernel_rfl) ?_
          refine WP.condF (by kernel_rfl) ?_
          refine WP.exit (id := 0) (by kernel_rfl) ?_
          refine PO.nx_exit ?_
          refine PO.lp_exit ?_
          refine PO.blk_exit ?_
          have hq := Option.some.inj H
          subst hq
          have H := h89
          rw [← (show _ = o86 from h88)] at H
          have H : f75_j5 kk F_f75 x83 x10 x85 = some r := H
          refine PO.jn ⟨x83, x85, h84, H, rfl⟩ ?_
          exact (St.ok.to [0, 4] 9 [(1, 0), (2, 1), (3, 2), (4, 3), (5, 4), (6, 5), (7, 6), (8, 7), (9, 8)] (by kernel_rfl) rfl (by kernel_rfl) rfl rfl (by kernel_rfl))
    · rintro _ ⟨x110, x112, h111, H, rfl⟩
      unfold f75_j5 at H
      refine PO.nx ?_
      refine WP.seq (by kernel_rfl) ?_
      refine WP.reg (by kernel_rfl) ?_
      refine U.seg 3 [] [(1, .s), (2, .sv 3 (arrC 8 .i64 (setA 8 x110 x10 0)))] (fun K => ((0 : Int) ≤ x10 ∧ x10 < ((8 : Nat) : Int) ∧ (⟨b3, 0, none⟩ : Addr).spot = none) ∧ ((b3 = b3 ∧ [Value.int .i64 0].length = 1 ∧ 0 + (Int.toNat (x10)) * 1 + [Value.int .i64 0].length ≤ (arrC 8 .i64 x110).length ∧ (∀ u ∈ [Value.int .i64 0], u.oneCell' = true) ∧ splice (arrC 8 .i64 x110) (0 + (Int.toNat (x10)) * 1) [Value.int .i64 0] = (arrC 8 .i64 (setA 8 x110 x10 0))) ∧ (K [] ((1, Ent.blk b1 47 [Value.int .i64 x12, Value.int .i64 x13, Value.slice a15 (List.length x14) c16]) :: (2, Ent.blk b2 172 [yv b6]) :: (3, Ent.blk b3 112 (arrC 8 .i64 (setA 8 x110 x10 0))) :: (4, Ent.blk b4 112 (arrC 8 .i64 x19)) :: (5, Ent.blk b5 173 ([Value.func (.func 75) #[] #[Value.pointer (some ⟨b1, 0, none⟩), Value.pointer (some ⟨b2, 0, none⟩), Value.pointer (some ⟨b3, 0, none⟩), Value.pointer (some ⟨b4, 0, none⟩), Value.pointer (some ⟨b5, 0, none⟩)]])) :: (6, Ent.ob b6 (.loop (lrec b20 T21 #[20] (C_43.r.r.r.r.r.l.r.l.l) (C_43.r.r.r.r.r.l.r.l.r) b22 [] 0))) :: (7, Ent.blk b7 179 ([Value.func (.func 77) #[] #[Value.pointer (some ⟨b9, 0, none⟩)]])) :: (8, Ent.blk b8 3 [Value.int .i64 x112]) :: (9, Ent.blk b9 53 [Value.slice a25 (List.length x24) c26]) :: fr)))) (fun K => by kernel_rfl) 3 (by kernel_rfl) ?_
      refine ⟨⟨h49.1, h49.2, rfl⟩, ?_⟩
      refine ⟨⟨rfl, rfl, arr_put (xs := x110) [] [] h49.1 h49.2 (by simp) (by simp) rfl⟩, ?_⟩
      refine WO.done (by kernel_rfl) ?_
      refine PO.nx ?_
      refine WP.seq (by kernel_rfl) ?_
      refine WP.reg (by kernel_rfl) ?_
      refine U.seg 1 [9] [] (fun K => K [(9, Value.bool true)] ((1, Ent.blk b1 47 [Value.int .i64 x12, Value.int .i64 x13, Value.slice a15 (List.length x14) c16]) :: (2, Ent.blk b2 172 [yv b6]) :: (3, Ent.blk b3 112 (arrC 8 .i64 (setA 8 x110 x10 0))) :: (4, Ent.blk b4 112 (arrC 8 .i64 x19)) :: (5, Ent.blk b5 173 ([Value.func (.func 75) #[] #[Value.pointer (some ⟨b1, 0, none⟩), Value.pointer (some ⟨b2, 0, none⟩), Value.pointer (some ⟨b3, 0, none⟩), Value.pointer (some ⟨b4, 0, none⟩), Value.pointer (some ⟨b5, 0, none⟩)]])) :: (6, Ent.ob b6 (.loop (lrec b20 T21 #[20] (C_43.r.r.r.r.r.l.r.l.l) (C_43.r.r.r.r.r.l.r.l.r) b22 [] 0))) :: (7, Ent.blk b7 179 ([Value.func (.func 77) #[] #[Value.pointer (some ⟨b9, 0, none⟩)]])) :: (8, Ent.blk b8 3 [Value.int .i64 x112]) :: (9, Ent.blk b9 53 [Value.slice a25 (List.length x24) c26]) :: fr)) (fun K => by kernel_rfl) 1 (by kernel_rfl) ?_
      refine WO.done (by kernel_rfl) ?_
      refine PO.nx ?_
      refine WP.ret (by kernel_rfl) ?_
      have hr := Option.some.inj H
      subst hr
      refine PO.body [Value.bool true] ((1, Ent.blk b1 47 [Value.int .i64 x12, Value.int .i64 x13, Value.slice a15 (List.length x14) c16]) :: (2, Ent.blk b2 172 [yv b6]) :: (3, Ent.blk b3 112 (arrC 8 .i64 (setA 8 x110 x10 0))) :: (4, Ent.blk b4 112 (arrC 8 .i64 x19)) :: (5, Ent.blk b5 173 ([Value.func (.func 75) #[] #[Value.pointer (some ⟨b1, 0, none⟩), Value.pointer (some ⟨b2, 0, none⟩), Value.pointer (some ⟨b3, 0, none⟩), Value.pointer (some ⟨b4, 0, none⟩), Value.pointer (some ⟨b5, 0, none⟩)]])) :: (6, Ent.ob b6 (.loop (lrec b20 T21 #[20] (C_43.r.r.r.r.r.l.r.l.l) (C_43.r.r.r.r.r.l.r.l.r) b22 [] 0))) :: (7, Ent.blk b7 179 ([Value.func (.func 77) #[] #[Value.pointer (some ⟨b9, 0, none⟩)]])) :: (8, Ent.blk b8 3 [Value.int .i64 x112]) :: (9, Ent.blk b9 53 [Value.slice a25 (List.length x24) c26]) :: fr) rfl (Res.tmp (by kernel_rfl) Res.nil) ?_
      exact fun w hw => Ret.mk () (by simp [setA]) rfl (okNT 9 [(1, 0), (2, 1), (3, 2), (4, 3), (5, 4), (6, 5), (7, 6), (8, 7), (9, 8)] (by kernel_rfl) rfl hw)
theorem c_f75 (kk : Nat) : S_f75 (m_f75 kk) := by
  induction kk with
  | zero => exact fun x10 x11 x12 x13 x14 x18 x19 x23 x24 b1 b2 b3 b4 b5 b6 b7 b8 b9 a15 c16 b20 T21 b22 a25 c26 {g} h28 h29 h30 h31 h32 {r} H {fr w} hw => by cases H
  | succ kk ih => exact fun x10 x11 x12 x13 x14 x18 x19 x23 x24 b1 b2 b3 b4 b5 b6 b7 b8 b9 a15 c16 b20 T21 b22 a25 c26 {g} h28 h29 h30 h31 h32 {r} H {fr w} hw => w_f75 kk (m_f75 kk) ih x10 x11 x12 x13 x14 x18 x19 x23 x24 b1 b2 b3 b4 b5 b6 b7 b8 b9 a15 c16 b20 T21 b22 a25 c26 h28 h29 h30 h31 h32 H hw

set_option maxRecDepth 100000 in
theorem c_f74 (kk : Nat) (x10 : Int) (x11 : Int) (x12 : (List (Int × Int))) (x16 : (List Int)) (x17 : Int) (x18 : (List Int)) (b1 : Nat) (b2 : Nat) (b3 : Nat) (b4 : Nat) (b5 : Nat) (b6 : Nat) (b7 : Nat) (T8 : Array Value) (b9 : Nat) (a13 : Option Addr) (c14 : Nat) (a19 : Option Addr) (c20 : Nat) {g : GH} (h22 : EnvA 32 [(5, Value.pointer (some ⟨b4, 0, none⟩)), (7, Value.pointer (some ⟨b5, 0, none⟩))] T8) (h23 : Sl (Kd.pair (Kd.int .i64) (Kd.int .i64)) g a13 (List.length x12) c14 x12) (h24 : x16.length = 8) (h25 : Sl (Kd.int .i64) g a19 (List.length x18) c20 x18) {r : Int} (H : m_f74 kk x10 x11 x12 x16 x17 x18 = some r) {fr : Hs} {w : World} (hw : Ok g ((1, Ent.ob b1 (.loop (lrec b7 T8 #[20] (C_43.r.r.r.r.r.l.r.l.l) (C_43.r.r.r.r.r.l.r.l.r) b9 [] 0))) :: (2, Ent.blk b2 47 [Value.int .i64 x10, Value.int .i64 x11, Value.slice a13 (List.length x12) c14]) :: (3, Ent.blk b3 112 (arrC 8 .i64 x16)) :: (4, Ent.blk b4 179 ([Value.func (.func 77) #[] #[Value.pointer (some ⟨b6, 0, none⟩)]])) :: (5, Ent.blk b5 3 [Value.int .i64 x17]) :: (6, Ent.blk b6 53 [Value.slice a19 (List.length x18) c20]) :: fr) w) :
    Calls Try.prog 74 (List.toArray [yv b1, Value.pointer (some ⟨b2, 0, none⟩), Value.pointer (some ⟨b3, 0, none⟩)]) w (Ret (fun _ : Unit => True) (fun _ => Value.tuple #[]) (fun _ => g) (fun _ => ((1, Ent.ob b1 (.loop (lrec b7 T8 #[20] (C_43.r.r.r.r.r.l.r.l.l) (C_43.r.r.r.r.r.l.r.l.r) b9 [] 0))) :: (2, Ent.blk b2 47 [Value.int .i64 x10, Value.int .i64 x11, Value.slice a13 (List.length x12) c14]) :: (3, Ent.blk b3 112 (arrC 8 .i64 x16)) :: (4, Ent.blk b4 179 ([Value.func (.func 77) #[] #[Value.pointer (some ⟨b6, 0, none⟩)]])) :: (5, Ent.blk b5 3 [Value.int .i64 r]) :: (6, Ent.blk b6 53 [Value.slice a19 (List.length x18) c20]) :: fr))) := by
  refine fn_wp (args := [yv b1, Value.pointer (some ⟨b2, 0, none⟩), Value.pointer (some ⟨b3, 0, none⟩)]) (c := C_74) Try.func74 (by kernel_rfl) Try.ntmps74 (by kernel_rfl) ?_ hw
  unfold m_f74 at H
  refine WP.seq (by kernel_rfl) ?_
  refine WP.reg (by kernel_rfl) ?_
  refine U.seg 1 [1, 2, 3] [(0, .al 7)] (fun K => ∀ b26 : Nat, K [(1, Value.pointer (some ⟨b2, 0, none⟩)), (2, Value.pointer (some ⟨b3, 0, none⟩)), (3, Value.pointer (some ⟨b26, 0, none⟩))] ((7, Ent.blk b26 172 [yv b1]) :: (1, Ent.ob b1 (.loop (lrec b7 T8 #[20] (C_43.r.r.r.r.r.l.r.l.l) (C_43.r.r.r.r.r.l.r.l.r) b9 [] 0))) :: (2, Ent.blk b2 47 [Value.int .i64 x10, Value.int .i64 x11, Value.slice a13 (List.length x12) c14]) :: (3, Ent.blk b3 112 (arrC 8 .i64 x16)) :: (4, Ent.blk b4 179 ([Value.func (.func 77) #[] #[Value.pointer (some ⟨b6, 0, none⟩)]])) :: (5, Ent.blk b5 3 [Value.int .i64 x17]) :: (6, Ent.blk b6 53 [Value.slice a19 (List.length x18) c20]) :: fr)) (fun K => by kernel_rfl) 1 (by kernel_rfl) ?_
  intro b26
  refine WO.done (by kernel_rfl) ?_
  refine PO.nx ?_
  refine WP.seq (by kernel_rfl) ?_
  refine WP.reg (by kernel_rfl) ?_
  refine U.seg 1 [1, 2, 3, 4] [(0, .al 8)] (fun K => ∀ b27 : Nat, K [(1, Value.pointer (some ⟨b2, 0, none⟩)), (2, Value.pointer (some ⟨b3, 0, none⟩)), (3, Value.pointer (some ⟨b26, 0, none⟩)), (4, Value.pointer (some ⟨b27, 0, none⟩))] ((8, Ent.blk b27 112 (arrC 8 .i64 (List.replicate 8 (0 : Int)))) :: (7, Ent.blk b26 172 [yv b1]) :: (1, Ent.ob b1 (.loop (lrec b7 T8 #[20] (C_43.r.r.r.r.r.l.r.l.l) (C_43.r.r.r.r.r.l.r.l.r) b9 [] 0))) :: (2, Ent.blk b2 47 [Value.int .i64 x10, Value.int .i64 x11, Value.slice a13 (List.length x12) c14]) :: (3, Ent.blk b3 112 (arrC 8 .i64 x16)) :: (4, Ent.blk b4 179 ([Value.func (.func 77) #[] #[Value.pointer (some ⟨b6, 0, none⟩)]])) :: (5, Ent.blk b5 3 [Value.int .i64 x17]) :: (6, Ent.blk b6 53 [Value.slice a19 (List.length x18) c20]) :: fr)) (fun K => by kernel_rfl) 1 (by kernel_rfl) ?_
  intro b27
  refine WO.done (by kernel_rfl) ?_
  refine PO.nx ?_
  refine WP.seq (by kernel_rfl) ?_
  refine WP.reg (by kernel_rfl) ?_
  refine U.seg 1 [1, 2, 3, 4, 5] [(0, .al 9)] (fun K => ∀ b28 : Nat, K [(1, Value.pointer (some ⟨b2, 0, none⟩)), (2, Value.pointer (some ⟨b3, 0, none⟩)), (3, Value.pointer (some ⟨b26, 0, none⟩)), (4, Value.pointer (some ⟨b27, 0, none⟩)), (5, Value.pointer (some ⟨b28, 0, none⟩))] ((9, Ent.blk b28 173 [Value.nilFunc]) :: (8, Ent.blk b27 112 (arrC 8 .i64 (List.replicate 8 (0 : Int)))) :: (7, Ent.blk b26 172 [yv b1]) :: (1, Ent.ob b1 (.loop (lrec b7 T8 #[20] (C_43.r.r.r.r.r.l.r.l.l) (C_43.r.r.r.r.r.l.r.l.r) b9 [] 0))) :: (2, Ent.blk b2 47 [Value.int .i64 x10, Value.int .i64 x11, Value.slice a13 (List.length x12) c14]) :: (3, Ent.blk b3 112 (arrC 8 .i64 x16)) :: (4, Ent.blk b4 179 ([Value.func (.func 77) #[] #[Value.pointer (some ⟨b6, 0, none⟩)]])) :: (5, Ent.blk b5 3 [Value.int .i64 x17]) :: (6, Ent.blk b6 53 [Value.slice a19 (List.length x18) c20]) :: fr)) (fun K => by kernel_rfl) 1 (by kernel_rfl) ?_
  intro b28
  refine WO.done (by kernel_rfl) ?_
  refine PO.nx ?_
  refine WP.seq (by kernel_rfl) ?_
  refine WP.reg (by kernel_rfl) ?_
  refine U.seg 2 [1, 5] [(1, .st 9)] (fun K => (b28 = b28) ∧ (K [(1, Value.pointer (some ⟨b2, 0, none⟩)), (5, Value.pointer (some ⟨b28, 0, none⟩))] ((9, Ent.blk b28 173 ([Value.func (.func 75) #[] #[Value.pointer (some ⟨b2, 0, none⟩), Value.pointer (some ⟨b26, 0, none⟩), Value.pointer (some ⟨b27, 0, none⟩), Value.pointer (some ⟨b3, 0, none⟩), Value.pointer (some ⟨b28, 0, none⟩)]])) :: (8, Ent.blk b27 112 (arrC 8 .i64 (List.replicate 8 (0 : Int)))) :: (7, Ent.blk b26 172 [yv b1]) :: (1, Ent.ob b1 (.loop (lrec b7 T8 #[20] (C_43.r.r.r.r.r.l.r.l.l) (C_43.r.r.r.r.r.l.r.l.r) b9 [] 0))) :: (2, Ent.blk b2 47 [Value.int .i64 x10, Value.int .i64 x11, Value.slice a13 (List.length x12) c14]) :: (3, Ent.blk b3 112 (arrC 8 .i64 x16)) :: (4, Ent.blk b4 179 ([Value.func (.func 77) #[] #[Value.pointer (some ⟨b6, 0, none⟩)]])) :: (5, Ent.blk b5 3 [Value.int .i64 x17]) :: (6, Ent.blk b6 53 [Value.slice a19 (List.length x18) c20]) :: fr))) (fun K => by kernel_rfl) 2 (by kernel_rfl) ?_
  refine ⟨rfl, ?_⟩
  refine WO.done (by kernel_rfl) ?_
  refine PO.nx ?_
  refine WP.reg (by kernel_rfl) ?_
  refine U.seg 6 [7, 12] [(0, .ld 9), (2, .ld 2), (4, .ld 2)] (fun K => (b28 = b28) ∧ ((b2 = b2) ∧ ((b2 = b2) ∧ (K [(7, Value.func (.func 75) #[] #[Value.pointer (some ⟨b2, 0, none⟩), Value.pointer (some ⟨b26, 0, none⟩), Value.pointer (some ⟨b27, 0, none⟩), Value.pointer (some ⟨b3, 0, none⟩), Value.pointer (some ⟨b28, 0, none⟩)]), (12, Value.int .i64 (w64 (x10 + x11)))] ((9, Ent.blk b28 173 ([Value.func (.func 75) #[] #[Value.pointer (some ⟨b2, 0, none⟩), Value.pointer (some ⟨b26, 0, none⟩), Value.pointer (some ⟨b27, 0, none⟩), Value.pointer (some ⟨b3, 0, none⟩), Value.pointer (some ⟨b28, 0, none⟩)]])) :: (8, Ent.blk b27 112 (arrC 8 .i64 (List.replicate 8 (0 : Int)))) :: (7, Ent.blk b26 172 [yv b1]) :: (1, Ent.ob b1 (.loop (lrec b7 T8 #[20] (C_43.r.r.r.r.r.l.r.l.l) (C_43.r.r.r.r.r.l.r.l.r) b9 [] 0))) :: (2, Ent.blk b2 47 [Value.int .i64 x10, Value.int .i64 x11, Value.slice a13 (List.length x12) c14]) :: (3, Ent.blk b3 112 (arrC 8 .i64 x16)) :: (4, Ent.blk b4 179 ([Value.func (.func 77) #[] #[Value.pointer (some ⟨b6, 0, none⟩)]])) :: (5, Ent.blk b5 3 [Value.int .i64 x17]) :: (6, Ent.blk b6 53 [Value.slice a19 (List.length x18) c20]) :: fr))))) (fun K => by kernel_rfl) 6 (by kernel_rfl) ?_
  refine ⟨rfl, ?_⟩
  refine ⟨rfl, ?_⟩
  refine ⟨rfl, ?_⟩
  obtain ⟨x29, h30, H⟩ := bnd_some H
  refine U.step 7 (by kernel_rfl) (U.call (dst := some 13) (fun w hw => c_f75 kk 0 (w64 (x10 + x11)) x10 x11 x12 (List.replicate 8 (0 : Int)) x16 x17 x18 b2 b26 b27 b3 b28 b1 b4 b5 b6 a13 c14 b7 T8 b9 a19 c20 h23 (List.length_replicate ..) h24 h22 h25 h30 (okNT 9 [(1, 4), (2, 2), (3, 1), (4, 5), (5, 0), (6, 3), (7, 6), (8, 7), (9, 8)] (by kernel_rfl) rfl hw)) (by kernel_rfl) (enters_of Try.func75 (by kernel_rfl) rfl)) ?_
  rintro _ h33
  refine U.pick  9 [(2, 0), (7, 1), (8, 2), (3, 3), (9, 4), (1, 5), (4, 6), (5, 7), (6, 8)] ((2, Ent.blk b2 47 [Value.int .i64 x10, Value.int .i64 x11, Value.slice a13 (List.length x12) c14]) :: (7, Ent.blk b26 172 [yv b1]) :: (8, Ent.blk b27 112 (arrC 8 .i64 x29.2.1)) :: (3, Ent.blk b3 112 (arrC 8 .i64 x16)) :: (9, Ent.blk b28 173 ([Value.func (.func 75) #[] #[Value.pointer (some ⟨b2, 0, none⟩), Value.pointer (some ⟨b26, 0, none⟩), Value.pointer (some ⟨b27, 0, none⟩), Value.pointer (some ⟨b3, 0, none⟩), Value.pointer (some ⟨b28, 0, none⟩)]])) :: (1, Ent.ob b1 (.loop (lrec b7 T8 #[20] (C_43.r.r.r.r.r.l.r.l.l) (C_43.r.r.r.r.r.l.r.l.r) b9 [] 0))) :: (4, Ent.blk b4 179 ([Value.func (.func 77) #[] #[Value.pointer (some ⟨b6, 0, none⟩)]])) :: (5, Ent.blk b5 3 [Value.int .i64 x29.2.2]) :: (6, Ent.blk b6 53 [Value.slice a19 (List.length x18) c20]) :: fr) (by kernel_rfl) rfl ?_
  refine WO.done (by kernel_rfl) ?_
  have hr := Option.some.inj H
  subst hr
  refine PO.bodyN ?_
  refine PO.body [] ((2, Ent.blk b2 47 [Value.int .i64 x10, Value.int .i64 x11, Value.slice a13 (List.length x12) c14]) :: (7, Ent.blk b26 172 [yv b1]) :: (8, Ent.blk b27 112 (arrC 8 .i64 x29.2.1)) :: (3, Ent.blk b3 112 (arrC 8 .i64 x16)) :: (9, Ent.blk b28 173 ([Value.func (.func 75) #[] #[Value.pointer (some ⟨b2, 0, none⟩), Value.pointer (some ⟨b26, 0, none⟩), Value.pointer (some ⟨b27, 0, none⟩), Value.pointer (some ⟨b3, 0, none⟩), Value.pointer (some ⟨b28, 0, none⟩)]])) :: (1, Ent.ob b1 (.loop (lrec b7 T8 #[20] (C_43.r.r.r.r.r.l.r.l.l) (C_43.r.r.r.r.r.l.r.l.r) b9 [] 0))) :: (4, Ent.blk b4 179 ([Value.func (.func 77) #[] #[Value.pointer (some ⟨b6, 0, none⟩)]])) :: (5, Ent.blk b5 3 [Value.int .i64 x29.2.2]) :: (6, Ent.blk b6 53 [Value.slice a19 (List.length x18) c20]) :: fr) rfl Res.nil ?_
  exact fun w hw => Ret.mk () trivial rfl (okNT 9 [(1, 5), (2, 0), (3, 3), (4, 6), (5, 7), (6, 8)] (by kernel_rfl) rfl hw)

set_option maxRecDepth 100000 in
theorem c_f43 (kk : Nat) (x1 : Int) (x2 : Int) (x3 : (List (Int × Int))) (x7 : (List Int)) (a4 : Option Addr) (c5 : Nat) (a8 : Option Addr) (c9 : Nat) {g : GH} (h11 : Sl (Kd.pair (Kd.int .i64) (Kd.int .i64)) g a4 (List.length x3) c5 x3) (h12 : Sl (Kd.int .i64) g a8 (List.length x7) c9 x7) {r : Int} (H : m_f43 kk x1 x2 x3 x7 = some r) {fr : Hs} {w : World} (hw : Ok g (fr) w) :
    Calls Try.prog 43 (List.toArray [Value.agg #[Value.int .i64 x1, Value.int .i64 x2, Value.slice a4 (List.length x3) c5], Value.slice a8 (List.length x7) c9]) w (Ret (fun _ : Unit => True) (fun _ => Value.int .i64 r) (fun _ => g) (fun _ => (fr))) := by
  refine fn_wp (args := [Value.agg #[Value.int .i64 x1, Value.int .i64 x2, Value.slice a4 (List.length x3) c5], Value.slice a8 (List.length x7) c9]) (c := C_43) Try.func43 (by kernel_rfl) Try.ntmps43 (by kernel_rfl) ?_ hw
  unfold m_f43 at H
  refine WP.seq (by kernel_rfl) ?_
  refine WP.reg (by kernel_rfl) ?_
  refine U.seg 3 [2, 3] [(0, .al 1), (1, .al 2)] (fun K => ∀ b13 : Nat, ∀ b14 : Nat, K [(2, Value.pointer (some ⟨b13, 0, none⟩)), (3, Value.pointer (some ⟨b14, 0, none⟩))] ((2, Ent.blk b14 53 [Value.slice a8 (List.length x7) c9]) :: (1, Ent.blk b13 47 [Value.int .i64 x1, Value.int .i64 x2, Value.slice a4 (List.length x3) c5]) :: fr)) (fun K => by kernel_rfl) 3 (by kernel_rfl) ?_
  intro b13
  intro b14
  refine WO.done (by kernel_rfl) ?_
  refine PO.nx ?_
  refine WP.seq (by kernel_rfl) ?_
  refine WP.reg (by kernel_rfl) ?_
  refine U.seg 3 [2, 5] [(1, .al 3), (2, .st 3)] (fun K => ∀ b15 : Nat, (b15 = b15) ∧ (K [(2, Value.pointer (some ⟨b13, 0, none⟩)), (5, Value.pointer (some ⟨b15, 0, none⟩))] ((3, Ent.blk b15 179 ([Value.func (.func 77) #[] #[Value.pointer (some ⟨b14, 0, none⟩)]])) :: (2, Ent.blk b14 53 [Value.slice a8 (List.length x7) c9]) :: (1, Ent.blk b13 47 [Value.int .i64 x1, Value.int .i64 x2, Value.slice a4 (List.length x3) c5]) :: fr))) (fun K => by kernel_rfl) 3 (by kernel_rfl) ?_
  intro b15
  refine ⟨rfl, ?_⟩
  refine WO.done (by kernel_rfl) ?_
  refine PO.nx ?_
  refine WP.seq (by kernel_rfl) ?_
  refine U.draw [] g [(3, Ent.blk b15 179 ([Value.func (.func 77) #[] #[Value.pointer (some ⟨b14, 0, none⟩)]])), (2, Ent.blk b14 53 [Value.slice a8 (List.length x7) c9]), (1, Ent.blk b13 47 [Value.int .i64 x1, Value.int .i64 x2, Value.slice a4 (List.length x3) c5])] (by kernel_rfl) (by kernel_rfl) 5 (by kernel_rfl) (fun w hw => Ok.pickTo [(3, 0), (2, 1), (1, 2)] (by kernel_rfl) (by kernel_rfl) (GH.le_refl _) hw) ?_
  refine U.take 3 [0, 1] [2, 5, 10, 11] [1, 0] [(0, .ld 3), (1, .ld 1)] (fun K => (b15 = b15) ∧ ((b13 = b13) ∧ (K [(2, Value.pointer (some ⟨b13, 0, none⟩)), (5, Value.pointer (some ⟨b15, 0, none⟩)), (10, Value.func (.func 77) #[] #[Value.pointer (some ⟨b14, 0, none⟩)]), (11, Value.agg #[Value.int .i64 x1, Value.int .i64 x2, Value.slice a4 (List.length x3) c5])]))) (fun K => by kernel_rfl) (by kernel_rfl) (by kernel_rfl) (by kernel_rfl) ?_
  refine ⟨rfl, ?_⟩
  refine ⟨rfl, ?_⟩
  obtain ⟨x22, h23, H⟩ := bnd_some H
  refine U.force 2 2 (by kernel_rfl) (by kernel_rfl) (U.call (dst := some 12) (fun w hw => c_f38 kk x1 x2 x3 a4 c5 h11 h23 hw) (by kernel_rfl) (enters_of Try.func38 (by kernel_rfl) rfl)) ?_
  rintro _ h24
  refine ⟨(fun w hw => .inr (Ok.pickTo [(3, 0), (2, 1), (1, 2)] (by kernel_rfl) (by kernel_rfl) (GH.le_refl _) hw)), ?_⟩
  obtain ⟨x25, h26, H⟩ := bnd_some H
  refine U.force 1 3 (by kernel_rfl) (by kernel_rfl) (U.call (dst := some 13) (fun w hw => c_f77 kk x22 x7 b14 a8 c9 h24 h12 h26 (okNT 3 [(1, 1), (3, 0), (1, 2)] (by kernel_rfl) rfl hw)) (by kernel_rfl) (enters_of Try.func77 (by kernel_rfl) rfl)) ?_
  rintro _ _
  refine ⟨(fun w hw => .inr (Ok.pickTo [(3, 1), (2, 0), (1, 2)] (by kernel_rfl) (by kernel_rfl) (GH.le_refl _) hw)), ?_⟩
  refine U.pickD  3 [(2, 0), (3, 1), (1, 2)] ((2, Ent.blk b14 53 [Value.slice a8 (List.length x7) c9]) :: (3, Ent.blk b15 179 ([Value.func (.func 77) #[] #[Value.pointer (some ⟨b14, 0, none⟩)]])) :: (1, Ent.blk b13 47 [Value.int .i64 x1, Value.int .i64 x2, Value.slice a4 (List.length x3) c5]) :: fr) (by kernel_rfl) rfl ?_
  refine U.take 0 [4] [2, 5, 6] [4, 3, 2, 1, 0] [] (fun K => K [(2, Value.pointer (some ⟨b13, 0, none⟩)), (5, Value.pointer (some ⟨b15, 0, none⟩)), (6, Value.int .i64 x25)]) (fun K => by kernel_rfl) (by kernel_rfl) (by kernel_rfl) (by kernel_rfl) ?_
  refine WD.done (by kernel_rfl) ?_
  refine PO.nx ?_
  refine WP.seq (by kernel_rfl) ?_
  refine WP.seq (by kernel_rfl) ?_
  refine WP.reg (by kernel_rfl) ?_
  refine U.seg 2 [2, 5, 6, 15] [] (fun K => K [(2, Value.pointer (some ⟨b13, 0, none⟩)), (5, Value.pointer (some ⟨b15, 0, none⟩)), (6, Value.int .i64 x25), (15, Value.bool (x25 == 0))] ((2, Ent.blk b14 53 [Value.slice a8 (List.length x7) c9]) :: (3, Ent.blk b15 179 ([Value.func (.func 77) #[] #[Value.pointer (some ⟨b14, 0, none⟩)]])) :: (1, Ent.blk b13 47 [Value.int .i64 x1, Value.int .i64 x2, Value.slice a4 (List.length x3) c5]) :: fr)) (fun K => by kernel_rfl) 2 (by kernel_rfl) ?_
  refine WO.done (by kernel_rfl) ?_
  refine PO.nx ?_
  rcases cond_some H with ⟨h28, H⟩ | ⟨h28, H⟩
  · refine U.asW (t := 15) (congrArg Value.bool h28) (by kernel_rfl) ?_
    refine WP.condT (by kernel_rfl) ?_
    refine WP.seq (by kernel_rfl) ?_
    refine WP.reg (by kernel_rfl) ?_
    refine U.seg 1 [4] [] (fun K => K [(4, Value.int .i64 0)] ((2, Ent.blk b14 53 [Value.slice a8 (List.length x7) c9]) :: (3, Ent.blk b15 179 ([Value.func (.func 77) #[] #[Value.pointer (some ⟨b14, 0, none⟩)]])) :: (1, Ent.blk b13 47 [Value.int .i64 x1, Value.int .i64 x2, Value.slice a4 (List.length x3) c5]) :: fr)) (fun K => by kernel_rfl) 1 (by kernel_rfl) ?_
    refine WO.done (by kernel_rfl) ?_
    refine PO.nx ?_
    refine WP.ret (by kernel_rfl) ?_
    refine PO.nx_ret ?_
    have hr := Option.some.inj H
    subst hr
    refine PO.body [Value.int .i64 0] ((2, Ent.blk b14 53 [Value.slice a8 (List.length x7) c9]) :: (3, Ent.blk b15 179 ([Value.func (.func 77) #[] #[Value.pointer (some ⟨b14, 0, none⟩)]])) :: (1, Ent.blk b13 47 [Value.int .i64 x1, Value.int .i64 x2, Value.slice a4 (List.length x3) c5]) :: fr) rfl (Res.tmp (by kernel_rfl) Res.nil) ?_
    exact fun w hw => Ret.mk () trivial rfl (okNT 3 [] (by kernel_rfl) rfl hw)
  · refine U.asW (t := 15) (congrArg Value.bool h28) (by kernel_rfl) ?_
    refine WP.condF (by kernel_rfl) ?_
    refine WP.skip (by kernel_rfl) ?_
    refine PO.nx ?_
    refine WP.seq (by kernel_rfl) ?_
    refine WP.reg (by kernel_rfl) ?_
    refine U.seg 2 [2, 5, 6, 7] [(0, .al 4), (1, .st 4)] (fun K => ∀ b29 : Nat, (b29 = b29) ∧ (K [(2, Value.pointer (some ⟨b13, 0, none⟩)), (5, Value.pointer (some ⟨b15, 0, none⟩)), (6, Value.int .i64 x25), (7, Value.pointer (some ⟨b29, 0, none⟩))] ((4, Ent.blk b29 3 [Value.int .i64 0]) :: (2, Ent.blk b14 53 [Value.slice a8 (List.length x7) c9]) :: (3, Ent.blk b15 179 ([Value.func (.func 77) #[] #[Value.pointer (some ⟨b14, 0, none⟩)]])) :: (1, Ent.blk b13 47 [Value.int .i64 x1, Value.int .i64 x2, Value.slice a4 (List.length x3) c5]) :: fr))) (fun K => by kernel_rfl) 2 (by kernel_rfl) ?_
    intro b29
    refine ⟨rfl, ?_⟩
    refine WO.done (by kernel_rfl) ?_
    refine PO.nx ?_
    refine WP.seq (by kernel_rfl) ?_
    refine WP.seq (by kernel_rfl) ?_
    refine U.draw [] g [(4, Ent.blk b29 3 [Value.int .i64 0]), (2, Ent.blk b14 53 [Value.slice a8 (List.length x7) c9]), (3, Ent.blk b15 179 ([Value.func (.func 77) #[] #[Value.pointer (some ⟨b14, 0, none⟩)]])), (1, Ent.blk b13 47 [Value.int .i64 x1, Value.int .i64 x2, Value.slice a4 (List.length x3) c5])] (by kernel_rfl) (by kernel_rfl) 4 (by kernel_rfl) (fun w hw => Ok.pickTo [(4, 0), (2, 1), (3, 2), (1, 3)] (by kernel_rfl) (by kernel_rfl) (GH.le_refl _) hw) ?_
    refine U.take 2 [0, 1] [5, 6, 7, 16, 17] [1, 0] [(0, .ld 1), (1, .ld 1)] (fun K => (b13 = b13) ∧ ((b13 = b13) ∧ (K [(5, Value.pointer (some ⟨b15, 0, none⟩)), (6, Value.int .i64 x25), (7, Value.pointer (some ⟨b29, 0, none⟩)), (16, Value.agg #[Value.int .i64 x1, Value.int .i64 x2, Value.slice a4 (List.length x3) c5]), (17, Value.agg #[Value.int .i64 x1, Value.int .i64 x2, Value.slice a4 (List.length x3) c5])]))) (fun K => by kernel_rfl) (by kernel_rfl) (by kernel_rfl) (by kernel_rfl) ?_
    refine ⟨rfl, ?_⟩
    refine ⟨rfl, ?_⟩
    obtain ⟨x44, h45, H⟩ := bnd_some H
    refine U.force 1 2 (by kernel_rfl) (by kernel_rfl) (U.call (dst := some 18) (fun w hw => c_f38 kk x1 x2 x3 a4 c5 h11 h45 hw) (by kernel_rfl) (enters_of Try.func38 (by kernel_rfl) rfl)) ?_
    rintro _ h46
    refine ⟨(fun w hw => .inr (Ok.pickTo [(4, 0), (2, 1), (3, 2), (1, 3)] (by kernel_rfl) (by kernel_rfl) (GH.le_refl _) hw)), ?_⟩
    obtain ⟨x47, h48, H⟩ := bnd_some H
    refine U.force 0 3 (by kernel_rfl) (by kernel_rfl) (U.call (dst := some 19) (fun w hw => c_f36 kk x1 x2 x3 x44 a4 c5 h11 h46 h48 hw) (by kernel_rfl) (enters_of Try.func36 (by kernel_rfl) rfl)) ?_
    rintro ⟨g49, b51, b52, a53, c54⟩ ⟨h50, h56, h57⟩
    refine ⟨(fun w hw => .inr (Ok.pickTo [(4, 2), (2, 3), (3, 4), (1, 5)] (by kernel_rfl) (by kernel_rfl) h50 hw)), ?_⟩
    refine U.pickD  6 [(7, 0), (8, 1), (4, 2), (2, 3), (3, 4), (1, 5)] ((7, Ent.blk b51 47 [Value.int .i64 x47.1, Value.int .i64 x47.2.1, Value.slice a53 (List.length x47.2.2.1) c54]) :: (8, Ent.blk b52 112 (arrC 8 .i64 x47.2.2.2)) :: (4, Ent.blk b29 3 [Value.int .i64 0]) :: (2, Ent.blk b14 53 [Value.slice a8 (List.length x7) c9]) :: (3, Ent.blk b15 179 ([Value.func (.func 77) #[] #[Value.pointer (some ⟨b14, 0, none⟩)]])) :: (1, Ent.blk b13 47 [Value.int .i64 x1, Value.int .i64 x2, Value.slice a4 (List.length x3) c5]) :: fr) (by kernel_rfl) rfl ?_
    refine WD.done (by kernel_rfl) ?_
    refine PO.nx ?_
    refine WP.block (id := 0) (by kernel_rfl) ?_
    refine U.selW [5, 6, 7, 19] [(5, Value.pointer (some ⟨b15, 0, none⟩)), (6, Value.int .i64 x25), (7, Value.pointer (some ⟨b29, 0, none⟩)), (19, Value.func (.func 74) #[] #[Value.pointer (some ⟨b51, 0, none⟩), Value.pointer (some ⟨b52, 0, none⟩)])] rfl ?_
    obtain ⟨x63, h64, H⟩ := bnd_some H
    refine U.range (K := 74) (first := []) (cap := [Value.pointer (some ⟨b51, 0, none⟩), Value.pointer (some ⟨b52, 0, none⟩)]) (ps := #[20]) [] 9 10 1 (by kernel_rfl) (enters_of Try.func74 (by kernel_rfl) rfl) (fun b61 T60 b59 b58 h62 => ⟨_, _, _, _, _, fun w hw => c_f74 kk x47.1 x47.2.1 x47.2.2.1 x47.2.2.2 0 x7 b58 b51 b52 b15 b29 b14 b61 T60 b59 a53 c54 a8 c9 (h62.sel [5, 7] rfl) h56 h57 (h12.mono h50) h64 (okNT 8 [(1, 0), (2, 2), (3, 3), (4, 6), (5, 4), (6, 5), (10, 1), (1, 7)] (by kernel_rfl) rfl hw), ?_⟩)
    rintro _ _
    refine ⟨0, by kernel_rfl, ?_⟩
    refine U.pickJ 7 [(7, 0), (8, 1), (3, 2), (4, 3), (2, 4), (10, 5), (1, 6)] ((7, Ent.blk b51 47 [Value.int .i64 x47.1, Value.int .i64 x47.2.1, Value.slice a53 (List.length x47.2.2.1) c54]) :: (8, Ent.blk b52 112 (arrC 8 .i64 x47.2.2.2)) :: (3, Ent.blk b15 179 ([Value.func (.func 77) #[] #[Value.pointer (some ⟨b14, 0, none⟩)]])) :: (4, Ent.blk b29 3 [Value.int .i64 x63]) :: (2, Ent.blk b14 53 [Value.slice a8 (List.length x7) c9]) :: (10, Ent.ob b59 (.deferred (some []))) :: (1, Ent.blk b13 47 [Value.int .i64 x1, Value.int .i64 x2, Value.slice a4 (List.length x3) c5]) :: fr) (by kernel_rfl) rfl ?_
    refine PJ.zero rfl ?_
    refine PO.blk_normal ?_
    refine PO.nx ?_
    refine WP.seq (by kernel_rfl) ?_
    refine WP.reg (by kernel_rfl) ?_
    obtain ⟨h67, H⟩ := grd_some H
    refine U.seg 7 [4] [(1, .ld 4), (4, .ld 4), (5, .s)] (fun K => (b29 = b29) ∧ ((b29 = b29) ∧ ((x63 ≠ (0 : Int)) ∧ (K [(4, Value.int .i64 (w64 (Int.tdiv (w64 ((w64 (x25 + x63)) - 1)) x63)))] ((7, Ent.blk b51 47 [Value.int .i64 x47.1, Value.int .i64 x47.2.1, Value.slice a53 (List.length x47.2.2.1) c54]) :: (8, Ent.blk b52 112 (arrC 8 .i64 x47.2.2.2)) :: (3, Ent.blk b15 179 ([Value.func (.func 77) #[] #[Value.pointer (some ⟨b14, 0, none⟩)]])) :: (4, Ent.blk b29 3 [Value.int .i64 x63]) :: (2, Ent.blk b14 53 [Value.slice a8 (List.length x7) c9]) :: (10, Ent.ob b59 (.deferred (some []))) :: (1, Ent.blk b13 47 [Value.int .i64 x1, Value.int .i64 x2, Value.slice a4 (List.length x3) c5]) :: fr))))) (fun K => by kernel_rfl) 7 (by kernel_rfl) ?_
    refine ⟨rfl, ?_⟩
    refine ⟨rfl, ?_⟩
    refine ⟨h67, ?_⟩
    refine WO.done (by kernel_rfl) ?_
    refine PO.nx ?_
    refine WP.ret (by kernel_rfl) ?_
    have hr := Option.some.inj H
    subst hr
    refine PO.body [Value.int .i64 (w64 (Int.tdiv (w64 ((w64 (x25 + x63)) - 1)) x63))] ((7, Ent.blk b51 47 [Value.int .i64 x47.1, Value.int .i64 x47.2.1, Value.slice a53 (List.length x47.2.2.1) c54]) :: (8, Ent.blk b52 112 (arrC 8 .i64 x47.2.2.2)) :: (3, Ent.blk b15 179 ([Value.func (.func 77) #[] #[Value.pointer (some ⟨b14, 0, none⟩)]])) :: (4, Ent.blk b29 3 [Value.int .i64 x63]) :: (2, Ent.blk b14 53 [Value.slice a8 (List.length x7) c9]) :: (10, Ent.ob b59 (.deferred none)) :: (1, Ent.blk b13 47 [Value.int .i64 x1, Value.int .i64 x2, Value.slice a4 (List.length x3) c5]) :: fr) ⟨b59, 10, rfl, by kernel_rfl, rfl⟩ (Res.tmp (by kernel_rfl) Res.nil) ?_
    exact fun w hw => Ret.mk () trivial rfl (Ok.gweak h50 (okNT 7 [] (by kernel_rfl) rfl hw))

set_option maxRecDepth 100000 in
theorem c_f27 (kk : Nat) (x1 : Int) (x2 : Int) (x3 : (List (Int × Int))) (a4 : Option Addr) (c5 : Nat) {g : GH} (h7 : Sl (Kd.pair (Kd.int .i64) (Kd.int .i64)) g a4 (List.length x3) c5 x3) {r : (Int × (List Int) × Int)} (H : m_f27 kk x1 x2 x3 = some r) {fr : Hs} {w : World} (hw : Ok g (fr) w) :
    Calls Try.prog 27 (List.toArray [Value.agg #[Value.int .i64 x1, Value.int .i64 x2, Value.slice a4 (List.length x3) c5]]) w (Ret (fun y : (GH) × (Option Addr) × (Nat) => GH.le g y.1 ∧ Sl (Kd.int .i64) y.1 y.2.1 (List.length r.2.1) y.2.2 r.2.1) (fun y => Value.tuple #[Value.int .i64 r.1, Value.slice y.2.1 (List.length r.2.1) y.2.2, Value.int .i64 r.2.2]) (fun y => y.1) (fun y => (fr))) := by
  refine fn_wp (args := [Value.agg #[Value.int .i64 x1, Value.int .i64 x2, Value.slice a4 (List.length x3) c5]]) (c := C_27) Try.func27 (by kernel_rfl) Try.ntmps27 (by kernel_rfl) ?_ hw
  unfold m_f27 at H
  refine WP.seq (by kernel_rfl) ?_
  refine WP.reg (by kernel_rfl) ?_
  refine U.seg 4 [1, 3] [(0, .al 1)] (fun K => ∀ b8 : Nat, K [(1, Value.pointer (some ⟨b8, 0, none⟩)), (3, Value.slice none 0 0)] ((1, Ent.blk b8 47 [Value.int .i64 x1, Value.int .i64 x2, Value.slice a4 (List.length x3) c5]) :: fr)) (fun K => by kernel_rfl) 4 (by kernel_rfl) ?_
  intro b8
  refine WO.done (by kernel_rfl) ?_
  refine PO.nx ?_
  refine WP.seq (by kernel_rfl) ?_
  refine WP.seq (by kernel_rfl) ?_
  refine WP.reg (by kernel_rfl) ?_
  refine U.seg 1 [1, 3, 11] [(0, .ld 1)] (fun K => (b8 = b8) ∧ (K [(1, Value.pointer (some ⟨b8, 0, none⟩)), (3, Value.slice none 0 0), (11, Value.agg #[Value.int .i64 x1, Value.int .i64 x2, Value.slice a4 (List.length x3) c5])] ((1, Ent.blk b8 47 [Value.int .i64 x1, Value.int .i64 x2, Value.slice a4 (List.length x3) c5]) :: fr))) (fun K => by kernel_rfl) 1 (by kernel_rfl) ?_
  refine ⟨rfl, ?_⟩
  obtain ⟨x10, h11, H⟩ := bnd_some H
  refine U.step 2 (by kernel_rfl) (U.call (dst := some 12) (fun w hw => c_f32 kk x1 x2 x3 a4 c5 h7 h11 hw) (by kernel_rfl) (enters_of Try.func32 (by kernel_rfl) rfl)) ?_
  rintro _ _
  refine U.seg 1 [1, 3, 5] [] (fun K => K [(1, Value.pointer (some ⟨b8, 0, none⟩)), (3, Value.slice none 0 0), (5, Value.int .i64 x10)] ((1, Ent.blk b8 47 [Value.int .i64 x1, Value.int .i64 x2, Value.slice a4 (List.length x3) c5]) :: fr)) (fun K => by kernel_rfl) 3 (by kernel_rfl) ?_
  refine WO.done (by kernel_rfl) ?_
  refine PO.nx ?_
  refine WP.seq (by kernel_rfl) ?_
  refine WP.reg (by kernel_rfl) ?_
  refine U.seg 2 [1, 3, 5, 14] [] (fun K => K [(1, Value.pointer (some ⟨b8, 0, none⟩)), (3, Value.slice none 0 0), (5, Value.int .i64 x10), (14, Value.bool (x10 != 0))] ((1, Ent.blk b8 47 [Value.int .i64 x1, Value.int .i64 x2, Value.slice a4 (List.length x3) c5]) :: fr)) (fun K => by kernel_rfl) 2 (by kernel_rfl) ?_
  refine WO.done (by kernel_rfl) ?_
  refine PO.nx ?_
  rcases cond_some H with ⟨h12, H⟩ | ⟨h12, H⟩
  · refine U.asW (t := 14) (congrArg Value.bool h12) (by kernel_rfl) ?_
    refine WP.condT (by kernel_rfl) ?_
    refine WP.seq (by kernel_rfl) ?_
    refine WP.reg (by kernel_rfl) ?_
    refine U.seg 4 [2, 3, 4] [] (fun K => K [(2, Value.int .i64 0), (3, Value.slice none 0 0), (4, Value.int .i64 x10)] ((1, Ent.blk b8 47 [Value.int .i64 x1, Value.int .i64 x2, Value.slice a4 (List.length x3) c5]) :: fr)) (fun K => by kernel_rfl) 4 (by kernel_rfl) ?_
    refine WO.done (by kernel_rfl) ?_
    refine PO.nx ?_
    refine WP.ret (by kernel_rfl) ?_
    refine PO.nx_ret ?_
    have hr := Option.some.inj H
    subst hr
    refine PO.body [Value.int .i64 0, Value.slice none 0 0, Value.int .i64 x10] ((1, Ent.blk b8 47 [Value.int .i64 x1, Value.int .i64 x2, Value.slice a4 (List.length x3) c5]) :: fr) rfl (Res.tmp (by kernel_rfl) (Res.tmp (by kernel_rfl) (Res.tmp (by kernel_rfl) Res.nil))) ?_
    exact fun w hw => Ret.mk (g, none, 0) ⟨(GH.le_refl _), Sl.nil'⟩ rfl (okNT 1 [] (by kernel_rfl) rfl hw)
  · refine U.asW (t := 14) (congrArg Value.bool h12) (by kernel_rfl) ?_
    refine WP.condF (by kernel_rfl) ?_
    refine WP.skip (by kernel_rfl) ?_
    refine PO.nx ?_
    refine WP.seq (by kernel_rfl) ?_
    refine WP.reg (by kernel_rfl) ?_
    refine U.seg 1 [1, 2, 3] [] (fun K => K [(1, Value.pointer (some ⟨b8, 0, none⟩)), (2, Value.int .i64 (-1)), (3, Value.slice none 0 0)] ((1, Ent.blk b8 47 [Value.int .i64 x1, Value.int .i64 x2, Value.slice a4 (List.length x3) c5]) :: fr)) (fun K => by kernel_rfl) 1 (by kernel_rfl) ?_
    refine WO.done (by kernel_rfl) ?_
    refine PO.nx ?_
    refine WP.seq (by kernel_rfl) ?_
    refine WP.seq (by kernel_rfl) ?_
    refine WP.reg (by kernel_rfl) ?_
    refine U.seg 1 [1, 2, 3, 6] [] (fun K => K [(1, Value.pointer (some ⟨b8, 0, none⟩)), (2, Value.int .i64 (-1)), (3, Value.slice none 0 0), (6, Value.int .i64 1)] ((1, Ent.blk b8 47 [Value.int .i64 x1, Value.int .i64 x2, Value.slice a4 (List.length x3) c5]) :: fr)) (fun K => by kernel_rfl) 1 (by kernel_rfl) ?_
    refine WO.done (by kernel_rfl) ?_
    refine PO.nx ?_
    refine WP.join (fun s => ∃ (x415 : Int) (x420 : (List Int)) (g413 : GH) (a417 : Option Addr) (c418 : Nat), GH.le g g413 ∧ Sl (Kd.int .i64) g413 a417 (List.length x420) c418 x420 ∧ f27_j11 kk x415 x420 = some r ∧ s = { n := 54, e := [(2, Value.int .i64 x415), (3, Value.slice a417 (List.length x420) c418)], d := [], g := g413, h := (fr) }) ?_ ?_
    · refine WP.block (id := 0) (by kernel_rfl) ?_
      obtain ⟨o278, h412, h281⟩ := bnd_some H
      refine WP.loopW (by kernel_rfl) (fun n s => ∃ (x271 : Int) (x272 : Int) (x277 : (List Int)) (g269 : GH) (a274 : Option Addr) (c275 : Nat), GH.le g g269 ∧ Sl (Kd.int .i64) g269 a274 (List.length x277) c275 x277 ∧ iter (fun y : (Int × Int × (List Int)) => f27_l7 kk y.1 y.2.1 y.2.2 x3 x1 x2) n (x271, x272, x277) = some o278 ∧ s = { n := 54, e := [(1, Value.pointer (some ⟨b8, 0, none⟩)), (2, Value.int .i64 x271), (3, Value.slice a274 (List.length x277) c275), (6, Value.int .i64 x272)], d := [], g := g269, h := ((1, Ent.blk b8 47 [Value.int .i64 x1, Value.int .i64 x2, Value.slice a4 (List.length x3) c5]) :: fr) }) (k := kk) ⟨(-1), 1, [], g, none, 0, (GH.le_refl _), Sl.nil', h412, rfl⟩ (St.ok.to [1, 2, 3, 6] 1 [(1, 0)] (by kernel_rfl) rfl (by kernel_rfl) rfl rfl (by kernel_rfl)) ?_
      intro n407 s
      rintro ⟨x271, x272, x277, g269, a274, c275, h270, h276, h408, rfl⟩
      obtain ⟨n282, q279, h410, h411, h280⟩ := iter_some h408
      subst h410
      have H : f27_l7 kk x271 x272 x277 x3 x1 x2 = some q279 := h411
      unfold f27_l7 at H
      refine WP.seq (by kernel_rfl) ?_
      refine WP.seq (by kernel_rfl) ?_
      refine WP.reg (by kernel_rfl) ?_
      refine U.seg 2 [1, 2, 3, 6, 17] [] (fun K => K [(1, Value.pointer (some ⟨b8, 0, none⟩)), (2, Value.int .i64 x271), (3, Value.slice a274 (List.length x277) c275), (6, Value.int .i64 x272), (17, Value.bool (decide (x272 ≤ 20)))] ((1, Ent.blk b8 47 [Value.int .i64 x1, Value.int .i64 x2, Value.slice a4 (List.length x3) c5]) :: fr)) (fun K => by kernel_rfl) 2 (by kernel_rfl) ?_
      refine WO.done (by kernel_rfl) ?_
      refine PO.nx ?_
      rcases cond_some H with ⟨h283, H⟩ | ⟨h283, H⟩
      · refine U.asW (t := 17) (congrArg Value.bool h283) (by kernel_rfl) ?_
        refine WP.condT (by kernel_rfl) ?_
        refine WP.skip (by kernel_rfl) ?_
        refine PO.nx ?_
        refine WP.seq (by kernel_rfl) ?_
        refine WP.block (id := 1) (by kernel_rfl) ?_
        refine WP.seq (by kernel_rfl) ?_
        refine WP.reg (by kernel_rfl) ?_
        refine U.seg 1 [1, 2, 3, 6, 7] [] (fun K => K [(1, Value.pointer (some ⟨b8, 0, none⟩)), (2, Value.int .i64 x271), (3, Value.slice a274 (List.length x277) c275), (6, Value.int .i64 x272), (7, Value.slice none 0 0)] ((1, Ent.blk b8 47 [Value.int .i64 x1, Value.int .i64 x2, Value.slice a4 (List.length x3) c5]) :: fr)) (fun K => by kernel_rfl) 1 (by kernel_rfl) ?_
        refine WO.done (by kernel_rfl) ?_
        refine PO.nx ?_
        refine WP.seq (by kernel_rfl) ?_
        refine WP.seq (by kernel_rfl) ?_
        refine WP.reg (by kernel_rfl) ?_
        refine U.seg 4 [1, 2, 3, 6, 7, 21, 22, 23] [(1, .ld 1)] (fun K => (b8 = b8) ∧ (K [(1, Value.pointer (some ⟨b8, 0, none⟩)), (2, Value.int .i64 x271), (3, Value.slice a274 (List.length x277) c275), (6, Value.int .i64 x272), (7, Value.slice none 0 0), (21, Value.slice a4 (List.length x3) c5), (22, Value.int .i64 ((List.length x3) : Int)), (23, Value.int .i64 0)] ((1, Ent.blk b8 47 [Value.int .i64 x1, Value.int .i64 x2, Value.slice a4 (List.length x3) c5]) :: fr))) (fun K => by kernel_rfl) 4 (by kernel_rfl) ?_
        refine ⟨rfl, ?_⟩
        refine WO.done (by kernel_rfl) ?_
        refine PO.nx ?_
        refine WP.join (fun s => ∃ (x384 : (List Int)) (a381 : Option Addr) (c382 : Nat) (s385 : List Value), Rw (Kd.int .i64) g269 s385 x384 ∧ f27_j9 kk x1 x2 x3 x384 x271 x272 x277 = some q279 ∧ s = { n := 54, e := [(1, Value.pointer (some ⟨b8, 0, none⟩)), (2, Value.int .i64 x271), (3, Value.slice a274 (List.length x277) c275), (6, Value.int .i64 x272), (7, Value.slice a381 (List.length x384) c382)], d := [], g := g269, h := ((1, Ent.blk b8 47 [Value.int .i64 x1, Value.int .i64 x2, Value.slice a4 (List.length x3) c5]) :: (43, Ent.sl a381 (List.length x384) c382 3 1 s385) :: fr) }) ?_ ?_
        · refine WP.block (id := 2) (by kernel_rfl) ?_
          obtain ⟨o345, h379, h348⟩ := bnd_some H
          refine U.nilW 42 3 1 ?_
          refine WP.loopW (by kernel_rfl) (fun n s => ∃ (x338 : Int) (x343 : (List Int)) (a340 : Option Addr) (c341 : Nat) (s344 : List Value), Rw (Kd.int .i64) g269 s344 x343 ∧ iter (fun y : (Int × (List Int)) => f27_l8 kk y.1 y.2 x3 x1 x2 x272 x271 x277) n (x338, x343) = some o345 ∧ s = { n := 54, e := [(1, Value.pointer (some ⟨b8, 0, none⟩)), (2, Value.int .i64 x271), (3, Value.slice a274 (List.length x277) c275), (6, Value.int .i64 x272), (7, Value.slice a340 (List.length x343) c341), (21, Value.slice a4 (List.length x3) c5), (22, Value.int .i64 ((List.length x3) : Int)), (23, Value.int .i64 x338)], d := [], g := g269, h := ((1, Ent.blk b8 47 [Value.int .i64 x1, Value.int .i64 x2, Value.slice a4 (List.length x3) c5]) :: (37, Ent.sl a340 (List.length x343) c341 3 1 s344) :: fr) }) (k := kk) ⟨0, [], none, 0, [], Rw.nil, h379, rfl⟩ (St.ok.to [1, 2, 3, 6, 7, 21, 22, 23] 2 [(1, 1), (37, 0)] (by kernel_rfl) rfl (by kernel_rfl) rfl rfl (by kernel_rfl)) ?_
          intro n374 s
          rintro ⟨x338, x343, a340, c341, s344, h342, h375, rfl⟩
          obtain ⟨n349, q346, h377, h378, h347⟩ := iter_some h375
          subst h377
          have H : f27_l8 kk x338 x343 x3 x1 x2 x272 x271 x277 = some q346 := h378
          unfold f27_l8 at H
          refine WP.seq (by kernel_rfl) ?_
          refine WP.reg (by kernel_rfl) ?_
          refine U.seg 1 [1, 2, 3, 6, 7, 21, 22, 23, 24] [] (fun K => K [(1, Value.pointer (some ⟨b8, 0, none⟩)), (2, Value.int .i64 x271), (3, Value.slice a274 (List.length x277) c275), (6, Value.int .i64 x272), (7, Value.slice a340 (List.length x343) c341), (21, Value.slice a4 (List.length x3) c5), (22, Value.int .i64 ((List.length x3) : Int)), (23, Value.int .i64 x338), (24, Value.bool (decide (x338 < ((List.length x3) : Int))))] ((1, Ent.blk b8 47 [Value.int .i64 x1, Value.int .i64 x2, Value.slice a4 (List.length x3) c5]) :: (37, Ent.sl a340 (List.length x343) c341 3 1 s344) :: fr)) (fun K => by kernel_rfl) 1 (by kernel_rfl) ?_
          refine WO.done (by kernel_rfl) ?_
          refine PO.nx ?_
          refine WP.seq (by kernel_rfl) ?_
          rcases cond_some H with ⟨h350, H⟩ | ⟨h350, H⟩
          · refine U.asW (t := 24) (congrArg Value.bool h350) (by kernel_rfl) ?_
            refine WP.condT (by kernel_rfl) ?_
            refine WP.skip (by kernel_rfl) ?_
            refine PO.nx ?_
            refine WP.seq (by kernel_rfl) ?_
            refine WP.block (id := 3) (by kernel_rfl) ?_
            refine WP.seq (by kernel_rfl) ?_
            refine WP.reg (by kernel_rfl) ?_
            obtain ⟨x351, h352, H⟩ := bnd_some H
            obtain ⟨h353, s354, h355, h356⟩ := Sl.at' (d := (Kd.pair (Kd.int .i64) (Kd.int .i64))) (h7.mono h270) h352
            obtain ⟨_, _, rfl, rfl, rfl⟩ := h355
            refine U.seg 4 [1, 2, 3, 6, 7, 9, 21, 22, 23] [(0, .s), (1, .lg (Value.agg #[Value.int .i64 x351.1, Value.int .i64 x351.2])), (2, .al 39), (3, .st 39)] (fun K => ((0 : Int) ≤ x338 ∧ x338 < ((List.length x3) : Nat) ∧ FlatA a4 (List.length x3)) ∧ ((GLoad g269 ⟨ab a4, ao a4 + (Int.toNat (x338)) * 2, none⟩ true 2 (Value.agg #[Value.int .i64 x351.1, Value.int .i64 x351.2])) ∧ (∀ b357 : Nat, (b357 = b357) ∧ (K [(1, Value.pointer (some ⟨b8, 0, none⟩)), (2, Value.int .i64 x271), (3, Value.slice a274 (List.length x277) c275), (6, Value.int .i64 x272), (7, Value.slice a340 (List.length x343) c341), (9, Value.pointer (some ⟨b357, 0, none⟩)), (21, Value.slice a4 (List.length x3) c5), (22, Value.int .i64 ((List.length x3) : Int)), (23, Value.int .i64 x338)] ((39, Ent.blk b357 44 [Value.int .i64 x351.1, Value.int .i64 x351.2]) :: (1, Ent.blk b8 47 [Value.int .i64 x1, Value.int .i64 x2, Value.slice a4 (List.length x3) c5]) :: (37, Ent.sl a340 (List.length x343) c341 3 1 s344) :: fr))))) (fun K => by kernel_rfl) 4 (by kernel_rfl) ?_
            refine ⟨h353, ?_⟩
            refine ⟨(h356 _ 0 _ _ _ rfl rfl rfl (OwnRead.agg rfl rfl)), ?_⟩
            intro b357
            refine ⟨rfl, ?_⟩
            refine WO.done (by kernel_rfl) ?_
            refine PO.nx ?_
            refine WP.reg (by kernel_rfl) ?_
            obtain ⟨h358, H⟩ := grd_some H
            have h360 : Rw (Kd.int .i64) g269 [Value.int .i64 (w64 (Int.tdiv (w64 (x272 * (w64 (x351.1 + x2)))) (w64 (x1 + x2))))] [(w64 (Int.tdiv (w64 (x272 * (w64 (x351.1 + x2)))) (w64 (x1 + x2))))] := ⟨[Value.int .i64 (w64 (Int.tdiv (w64 (x272 * (w64 (x351.1 + x2)))) (w64 (x1 + x2))))], [], rfl, rfl, rfl⟩
            refine U.seg 15 [1, 2, 3, 6, 21, 22, 23, 27, 41] [(3, .ld 39), (5, .ld 1), (9, .ld 1), (11, .ld 1), (13, .s), (14, .al 40)] (fun K => (b357 = b357) ∧ ((b8 = b8) ∧ ((b8 = b8) ∧ ((b8 = b8) ∧ (((w64 (x1 + x2)) ≠ (0 : Int)) ∧ (∀ b359 : Nat, K [(1, Value.pointer (some ⟨b8, 0, none⟩)), (2, Value.int .i64 x271), (3, Value.slice a274 (List.length x277) c275), (6, Value.int .i64 x272), (21, Value.slice a4 (List.length x3) c5), (22, Value.int .i64 ((List.length x3) : Int)), (23, Value.int .i64 x338), (27, Value.slice a340 (List.length x343) c341), (41, Value.slice (some ⟨b359, 0, none⟩ : Option Addr) 1 1)] ((40, Ent.sl (some ⟨b359, 0, none⟩ : Option Addr) 1 1 3 1 [Value.int .i64 (w64 (Int.tdiv (w64 (x272 * (w64 (x351.1 + x2)))) (w64 (x1 + x2))))]) :: (39, Ent.blk b357 44 [Value.int .i64 x351.1, Value.int .i64 x351.2]) :: (1, Ent.blk b8 47 [Value.int .i64 x1, Value.int .i64 x2, Value.slice a4 (List.length x3) c5]) :: (37, Ent.sl a340 (List.length x343) c341 3 1 s344) :: fr))))))) (fun K => by kernel_rfl) 15 (by kernel_rfl) ?_
            refine ⟨rfl, ?_⟩
            refine ⟨rfl, ?_⟩
            refine ⟨rfl, ?_⟩
            refine ⟨rfl, ?_⟩
            refine ⟨h358, ?_⟩
            intro b359
            obtain ⟨h362, H⟩ := grd_some H
            have h365 : Rw (Kd.int .i64) g269 (s344 ++ [Value.int .i64 (w64 (Int.tdiv (w64 (x272 * (w64 (x351.1 + x2)))) (w64 (x1 + x2))))]) (x343 ++ [(w64 (Int.tdiv (w64 (x272 * (w64 (x351.1 + x2)))) (w64 (x1 + x2))))]) := Rw.app h342 h360
            refine U.step 16 (by kernel_rfl) (U.append (T := 53) (el := 3) (sz := 1) (dst := some 42) (t := 37) (n1 := (List.length x343)) (m := 1) (a := a340) (cc := c341) (b := (some ⟨b359, 0, none⟩ : Option Addr)) (cc2 := 1) (cs := s344) (news := [Value.int .i64 (w64 (Int.tdiv (w64 (x272 * (w64 (x351.1 + x2)))) (w64 (x1 + x2))))]) (List.length (x343 ++ [(w64 (Int.tdiv (w64 (x272 * (w64 (x351.1 + x2)))) (w64 (x1 + x2))))])) (by kernel_rfl) (by kernel_rfl) (by kernel_rfl) (Reads.own (t := 40) (T := 3) (sz := 1) (by kernel_rfl)) (Rw.len h360) (Rw.one h360) (by simp) h362) ?_
            rintro ⟨a363, c364⟩ _
            refine U.seg 1 [1, 2, 3, 6, 7, 21, 22, 23] [] (fun K => K [(1, Value.pointer (some ⟨b8, 0, none⟩)), (2, Value.int .i64 x271), (3, Value.slice a274 (List.length x277) c275), (6, Value.int .i64 x272), (7, Value.slice a363 (List.length (x343 ++ [(w64 (Int.tdiv (w64 (x272 * (w64 (x351.1 + x2)))) (w64 (x1 + x2))))])) c364), (21, Value.slice a4 (List.length x3) c5), (22, Value.int .i64 ((List.length x3) : Int)), (23, Value.int .i64 x338)] ((40, Ent.sl (some ⟨b359, 0, none⟩ : Option Addr) 1 1 3 1 [Value.int .i64 (w64 (Int.tdiv (w64 (x272 * (w64 (x351.1 + x2)))) (w64 (x1 + x2))))]) :: (39, Ent.blk b357 44 [Value.int .i64 x351.1, Value.int .i64 x351.2]) :: (1, Ent.blk b8 47 [Value.int .i64 x1, Value.int .i64 x2, Value.slice a4 (List.length x3) c5]) :: (37, Ent.sl a363 (List.length (x343 ++ [(w64 (Int.tdiv (w64 (x272 * (w64 (x351.1 + x2)))) (w64 (x1 + x2))))])) c364 3 1 (s344 ++ [Value.int .i64 (w64 (Int.tdiv (w64 (x272 * (w64 (x351.1 + x2)))) (w64 (x1 + x2))))])) :: fr)) (fun K => by kernel_rfl) 17 (by kernel_rfl) ?_
            refine WO.done (by kernel_rfl) ?_
            refine PO.blk_normal ?_
            refine PO.nx ?_
            refine WP.reg (by kernel_rfl) ?_
            refine U.seg 2 [1, 2, 3, 6, 7, 21, 22, 23] [] (fun K => K [(1, Value.pointer (some ⟨b8, 0, none⟩)), (2, Value.int .i64 x271), (3, Value.slice a274 (List.length x277) c275), (6, Value.int .i64 x272), (7, Value.slice a363 (List.length (x343 ++ [(w64 (Int.tdiv (w64 (x272 * (w64 (x351.1 + x2)))) (w64 (x1 + x2))))])) c364), (21, Value.slice a4 (List.length x3) c5), (22, Value.int .i64 ((List.length x3) : Int)), (23, Value.int .i64 (w64 (x338 + 1)))] ((40, Ent.sl (some ⟨b359, 0, none⟩ : Option Addr) 1 1 3 1 [Value.int .i64 (w64 (Int.tdiv (w64 (x272 * (w64 (x351.1 + x2)))) (w64 (x1 + x2))))]) :: (39, Ent.blk b357 44 [Value.int .i64 x351.1, Value.int .i64 x351.2]) :: (1, Ent.blk b8 47 [Value.int .i64 x1, Value.int .i64 x2, Value.slice a4 (List.length x3) c5]) :: (37, Ent.sl a363 (List.length (x343 ++ [(w64 (Int.tdiv (w64 (x272 * (w64 (x351.1 + x2)))) (w64 (x1 + x2))))])) c364 3 1 (s344 ++ [Value.int .i64 (w64 (Int.tdiv (w64 (x272 * (w64 (x351.1 + x2)))) (w64 (x1 + x2))))])) :: fr)) (fun K => by kernel_rfl) 2 (by kernel_rfl) ?_
            refine WO.done (by kernel_rfl) ?_
            have hq := Option.some.inj H
            subst hq
            refine PO.againW ⟨(w64 (x338 + 1)), (x343 ++ [(w64 (Int.tdiv (w64 (x272 * (w64 (x351.1 + x2)))) (w64 (x1 + x2))))]), a363, c364, (s344 ++ [Value.int .i64 (w64 (Int.tdiv (w64 (x272 * (w64 (x351.1 + x2)))) (w64 (x1 + x2))))]), h365, h347, rfl⟩ ?_ (Nat.lt_succ_self _)
            exact (St.ok.to [1, 2, 3, 6, 7, 21, 22, 23] 4 [(1, 2), (37, 3)] (by kernel_rfl) rfl (by kernel_rfl) rfl rfl (by kernel_rfl))
          · refine U.asW (t := 24) (congrArg Value.bool h350) (by kernel_rfl) ?_
            refine WP.condF (by kernel_rfl) ?_
            refine WP.exit (id := 2) (by kernel_rfl) ?_
            refine PO.nx_exit ?_
            refine PO.lp_exit ?_
            refine PO.blk_exit ?_
            have hq := Option.some.inj H
            subst hq
            have H := h348
            rw [← (show _ = o345 from h347)] at H
            have H : f27_j9 kk x1 x2 x3 x343 x271 x272 x277 = some q279 := H
            refine PO.jn ⟨x343, a340, c341, s344, h342, H, rfl⟩ ?_
            exact (St.ok.to [1, 2, 3, 6, 7] 2 [(1, 0), (43, 1)] (by kernel_rfl) rfl (by kernel_rfl) rfl rfl (by kernel_rfl))
        · rintro _ ⟨x384, a381, c382, s385, h383, H, rfl⟩
          unfold f27_j9 at H
          refine PO.nx ?_
          refine WP.seq (by kernel_rfl) ?_
          refine WP.reg (by kernel_rfl) ?_
          refine U.seg 2 [1, 2, 3, 6, 7, 44, 45] [(0, .ld 1)] (fun K => (b8 = b8) ∧ (K [(1, Value.pointer (some ⟨b8, 0, none⟩)), (2, Value.int .i64 x271), (3, Value.slice a274 (List.length x277) c275), (6, Value.int .i64 x272), (7, Value.slice a381 (List.length x384) c382), (44, Value.agg #[Value.int .i64 x1, Value.int .i64 x2, Value.slice a4 (List.length x3) c5]), (45, Value.slice a381 (List.length x384) c382)] ((1, Ent.blk b8 47 [Value.int .i64 x1, Value.int .i64 x2, Value.slice a4 (List.length x3) c5]) :: (43, Ent.sl a381 (List.length x384) c382 3 1 s385) :: fr))) (fun K => by kernel_rfl) 2 (by kernel_rfl) ?_
          refine ⟨rfl, ?_⟩
          refine U.freeze (dd := (Kd.int .i64)) (t := 43) (a := a381) (n1 := (List.length x384)) (cc := c382) (T := 3) (cs := s385) (by kernel_rfl) h383 rfl (fun g386 h387 h388 => ?_)
          obtain ⟨x389, h390, H⟩ := bnd_some H
          refine U.step 3 (by kernel_rfl) (U.call (dst := some 46) (fun w hw => c_f43 kk x1 x2 x3 x384 a4 c5 a381 c382 (h7.mono (GH.le_trans h270 h387)) h388 h390 hw) (by kernel_rfl) (enters_of Try.func43 (by kernel_rfl) rfl)) ?_
          rintro _ _
          refine U.seg 1 [1, 2, 3, 6, 7, 10] [] (fun K => K [(1, Value.pointer (some ⟨b8, 0, none⟩)), (2, Value.int .i64 x271), (3, Value.slice a274 (List.length x277) c275), (6, Value.int .i64 x272), (7, Value.slice a381 (List.length x384) c382), (10, Value.int .i64 x389)] ((1, Ent.blk b8 47 [Value.int .i64 x1, Value.int .i64 x2, Value.slice a4 (List.length x3) c5]) :: fr)) (fun K => by kernel_rfl) 4 (by kernel_rfl) ?_
          refine WO.done (by kernel_rfl) ?_
          refine PO.nx ?_
          refine WP.seq (by kernel_rfl) ?_
          refine WP.reg (by kernel_rfl) ?_
          refine U.seg 3 [1, 2, 3, 6, 7, 10, 49] [] (fun K => K [(1, Value.pointer (some ⟨b8, 0, none⟩)), (2, Value.int .i64 x271), (3, Value.slice a274 (List.length x277) c275), (6, Value.int .i64 x272), (7, Value.slice a381 (List.length x384) c382), (10, Value.int .i64 x389), (49, Value.bool (decide (x389 > x271)))] ((1, Ent.blk b8 47 [Value.int .i64 x1, Value.int .i64 x2, Value.slice a4 (List.length x3) c5]) :: fr)) (fun K => by kernel_rfl) 3 (by kernel_rfl) ?_
          refine WO.done (by kernel_rfl) ?_
          refine PO.nx ?_
          refine WP.join (fun s => ∃ (x392 : Int) (x397 : (List Int)) (a394 : Option Addr) (c395 : Nat), Sl (Kd.int .i64) g386 a394 (List.length x397) c395 x397 ∧ f27_j10 kk x392 x272 x397 = some q279 ∧ s = { n := 54, e := [(1, Value.pointer (some ⟨b8, 0, none⟩)), (2, Value.int .i64 x392), (3, Value.slice a394 (List.length x397) c395), (6, Value.int .i64 x272)], d := [], g := g386, h := ((1, Ent.blk b8 47 [Value.int .i64 x1, Value.int .i64 x2, Value.slice a4 (List.length x3) c5]) :: fr) }) ?_ ?_
          · rcases cond_some H with ⟨h391, H⟩ | ⟨h391, H⟩
            · refine U.asW (t := 49) (congrArg Value.bool h391) (by kernel_rfl) ?_
              refine WP.condT (by kernel_rfl) ?_
              refine WP.reg (by kernel_rfl) ?_
              refine U.seg 4 [1, 2, 3, 6] [] (fun K => K [(1, Value.pointer (some ⟨b8, 0, none⟩)), (2, Value.int .i64 x389), (3, Value.slice a381 (List.length x384) c382), (6, Value.int .i64 x272)] ((1, Ent.blk b8 47 [Value.int .i64 x1, Value.int .i64 x2, Value.slice a4 (List.length x3) c5]) :: fr)) (fun K => by kernel_rfl) 4 (by kernel_rfl) ?_
              refine WO.done (by kernel_rfl) ?_
              refine PO.jn ⟨x389, x384, a381, c382, h388, H, rfl⟩ ?_
              exact (St.ok.to [1, 2, 3, 6] 1 [(1, 0)] (by kernel_rfl) rfl (by kernel_rfl) rfl rfl (by kernel_rfl))
            · refine U.asW (t := 49) (congrArg Value.bool h391) (by kernel_rfl) ?_
              refine WP.condF (by kernel_rfl) ?_
              refine WP.skip (by kernel_rfl) ?_
              refine PO.jn ⟨x271, x277, a274, c275, (h276.mono h387), H, rfl⟩ ?_
              exact (St.ok.to [1, 2, 3, 6] 1 [(1, 0)] (by kernel_rfl) rfl (by kernel_rfl) rfl rfl (by kernel_rfl))
          · rintro _ ⟨x392, x397, a394, c395, h396, H, rfl⟩
            unfold f27_j10 at H
            refine PO.blk_normal ?_
            refine PO.nx ?_
            refine WP.reg (by kernel_rfl) ?_
            refine U.seg 3 [1, 2, 3, 6] [] (fun K => K [(1, Value.pointer (some ⟨b8, 0, none⟩)), (2, Value.int .i64 x392), (3, Value.slice a394 (List.length x397) c395), (6, Value.int .i64 (w64 (x272 + 1)))] ((1, Ent.blk b8 47 [Value.int .i64 x1, Value.int .i64 x2, Value.slice a4 (List.length x3) c5]) :: fr)) (fun K => by kernel_rfl) 3 (by kernel_rfl) ?_
            refine WO.done (by kernel_rfl) ?_
            have hq := Option.some.inj H
            subst hq
            refine PO.againW ⟨x392, (w64 (x272 + 1)), x397, g386, a394, c395, (GH.le_trans h270 h387), h396, h280, rfl⟩ ?_ (Nat.lt_succ_self _)
            exact (St.ok.to [1, 2, 3, 6] 1 [(1, 0)] (by kernel_rfl) rfl (by kernel_rfl) rfl rfl (by kernel_rfl))
      · refine U.asW (t := 17) (congrArg Value.bool h283) (by kernel_rfl) ?_
        refine WP.condF (by kernel_rfl) ?_
        refine WP.exit (id := 0) (by kernel_rfl) ?_
        refine PO.nx_exit ?_
        refine PO.lp_exit ?_
        refine PO.blk_exit ?_
        have hq := Option.some.inj H
        subst hq
        have H := h281
        rw [← (show _ = o278 from h280)] at H
        have H : f27_j11 kk x271 x277 = some r := H
        refine PO.jn ⟨x271, x277, g269, a274, c275, h270, h276, H, rfl⟩ ?_
        exact (St.ok.to [2, 3] 1 [] (by kernel_rfl) rfl (by kernel_rfl) rfl rfl (by kernel_rfl))
    · rintro _ ⟨x415, x420, g413, a417, c418, h414, h419, H, rfl⟩
      unfold f27_j11 at H
      refine PO.nx ?_
      refine WP.seq (by kernel_rfl) ?_
      refine WP.reg (by kernel_rfl) ?_
      refine U.seg 5 [2, 3, 4] [] (fun K => K [(2, Value.int .i64 x415), (3, Value.slice a417 (List.length x420) c418), (4, Value.int .i64 0)] (fr)) (fun K => by kernel_rfl) 5 (by kernel_rfl) ?_
      refine WO.done (by kernel_rfl) ?_
      refine PO.nx ?_
      refine WP.ret (by kernel_rfl) ?_
      have hr := Option.some.inj H
      subst hr
      refine PO.body [Value.int .i64 x415, Value.slice a417 (List.length x420) c418, Value.int .i64 0] (fr) rfl (Res.tmp (by kernel_rfl) (Res.tmp (by kernel_rfl) (Res.tmp (by kernel_rfl) Res.nil))) ?_
      exact fun w hw => Ret.mk (g413, a417, c418) ⟨h414, h419⟩ rfl (okNT 0 [] (by kernel_rfl) rfl hw)

set_option maxRecDepth 100000 in
theorem c_f24 (kk : Nat) (x1 : (List Int)) (x5 : (List Int)) (a2 : Option Addr) (c3 : Nat) (a6 : Option Addr) (c7 : Nat) {g : GH} (h9 : Sl (Kd.int .i64) g a2 (List.length x1) c3 x1) (h10 : Sl (Kd.int .i64) g a6 (List.length x5) c7 x5) {r : Bool} (H : m_f24 kk x1 x5 = some r) {fr : Hs} {w : World} (hw : Ok g (fr) w) :
    Calls Try.prog 24 (List.toArray [Value.slice a2 (List.length x1) c3, Value.slice a6 (List.length x5) c7]) w (Ret (fun _ : Unit => True) (fun _ => Value.bool r) (fun _ => g) (fun _ => (fr))) := by
  refine fn_wp (args := [Value.slice a2 (List.length x1) c3, Value.slice a6 (List.length x5) c7]) (c := C_24) Try.func24 (by kernel_rfl) Try.ntmps24 (by kernel_rfl) ?_ hw
  unfold m_f24 at H
  refine WP.seq (by kernel_rfl) ?_
  refine WP.reg (by kernel_rfl) ?_
  refine U.seg 1 [0, 1] [] (fun K => K [(0, Value.slice a2 (List.length x1) c3), (1, Value.slice a6 (List.length x5) c7)] (fr)) (fun K => by kernel_rfl) 1 (by kernel_rfl) ?_
  refine WO.done (by kernel_rfl) ?_
  refine PO.nx ?_
  refine WP.seq (by kernel_rfl) ?_
  refine WP.seq (by kernel_rfl) ?_
  refine WP.reg (by kernel_rfl) ?_
  refine U.seg 5 [0, 1, 10] [] (fun K => K [(0, Value.slice a2 (List.length x1) c3), (1, Value.slice a6 (List.length x5) c7), (10, Value.bool (((List.length x1) : Int) != ((List.length x5) : Int)))] (fr)) (fun K => by kernel_rfl) 5 (by kernel_rfl) ?_
  refine WO.done (by kernel_rfl) ?_
  refine PO.nx ?_
  rcases cond_some H with ⟨h11, H⟩ | ⟨h11, H⟩
  · refine U.asW (t := 10) (congrArg Value.bool h11) (by kernel_rfl) ?_
    refine WP.condT (by kernel_rfl) ?_
    refine WP.seq (by kernel_rfl) ?_
    refine WP.reg (by kernel_rfl) ?_
    refine U.seg 1 [4] [] (fun K => K [(4, Value.bool false)] (fr)) (fun K => by kernel_rfl) 1 (by kernel_rfl) ?_
    refine WO.done (by kernel_rfl) ?_
    refine PO.nx ?_
    refine WP.ret (by kernel_rfl) ?_
    refine PO.nx_ret ?_
    have hr := Option.some.inj H
    subst hr
    refine PO.body [Value.bool false] (fr) rfl (Res.tmp (by kernel_rfl) Res.nil) ?_
    exact fun w hw => Ret.mk () trivial rfl (okNT 0 [] (by kernel_rfl) rfl hw)
  · refine U.asW (t := 10) (congrArg Value.bool h11) (by kernel_rfl) ?_
    refine WP.condF (by kernel_rfl) ?_
    refine WP.skip (by kernel_rfl) ?_
    refine PO.nx ?_
    refine WP.seq (by kernel_rfl) ?_
    refine WP.seq (by kernel_rfl) ?_
    refine WP.reg (by kernel_rfl) ?_
    refine U.seg 1 [0, 1, 5] [] (fun K => K [(0, Value.slice a2 (List.length x1) c3), (1, Value.slice a6 (List.length x5) c7), (5, Value.int .i64 0)] (fr)) (fun K => by kernel_rfl) 1 (by kernel_rfl) ?_
    refine WO.done (by kernel_rfl) ?_
    refine PO.nx ?_
    refine WP.join (fun s => f24_j2 kk = some r ∧ s = { n := 26, e := [], d := [], g := g, h := (fr) }) ?_ ?_
    · refine WP.block (id := 0) (by kernel_rfl) ?_
      obtain ⟨o76, h113, h79⟩ := bnd_some H
      refine WP.loopW (by kernel_rfl) (fun n s => ∃ (x75 : Int), iter (fun y : Int => f24_l1 kk y x1 x5) n x75 = some o76 ∧ s = { n := 26, e := [(0, Value.slice a2 (List.length x1) c3), (1, Value.slice a6 (List.length x5) c7), (5, Value.int .i64 x75)], d := [], g := g, h := (fr) }) (k := kk) ⟨0, h113, rfl⟩ (St.ok.to [0, 1, 5] 0 [] (by kernel_rfl) rfl (by kernel_rfl) rfl rfl (by kernel_rfl)) ?_
      intro n108 s
      rintro ⟨x75, h109, rfl⟩
      obtain ⟨n80, q77, h111, h112, h78⟩ := iter_some h109
      subst h111
      have H : f24_l1 kk x75 x1 x5 = some q77 := h112
      unfold f24_l1 at H
      refine WP.seq (by kernel_rfl) ?_
      refine WP.seq (by kernel_rfl) ?_
      refine WP.reg (by kernel_rfl) ?_
      refine U.seg 4 [0, 1, 5, 14] [] (fun K => K [(0, Value.slice a2 (List.length x1) c3), (1, Value.slice a6 (List.length x5) c7), (5, Value.int .i64 x75), (14, Value.bool (decide (x75 < ((List.length x1) : Int))))] (fr)) (fun K => by kernel_rfl) 4 (by kernel_rfl) ?_
      refine WO.done (by kernel_rfl) ?_
      refine PO.nx ?_
      rcases cond_some H with ⟨h81, H⟩ | ⟨h81, H⟩
      · refine U.asW (t := 14) (congrArg Value.bool h81) (by kernel_rfl) ?_
        refine WP.condT (by kernel_rfl) ?_
        refine WP.skip (by kernel_rfl) ?_
        refine PO.nx ?_
        refine WP.seq (by kernel_rfl) ?_
        refine WP.block (id := 1) (by kernel_rfl) ?_
        refine WP.seq (by kernel_rfl) ?_
        refine U.draw [] g [] (by kernel_rfl) (by kernel_rfl) 9 (by kernel_rfl) (fun w hw => Ok.pickTo [] (by kernel_rfl) (by kernel_rfl) (GH.le_refl _) hw) ?_
        obtain ⟨x94, h95, H⟩ := bnd_some H
        obtain ⟨h96, s97, h98, h99⟩ := Sl.at' (d := (Kd.int .i64)) h9 h95
        obtain rfl := h98
        obtain ⟨x100, h101, H⟩ := bnd_some H
        obtain ⟨h102, s103, h104, h105⟩ := Sl.at' (d := (Kd.int .i64)) h10 h101
        obtain rfl := h104
        refine U.take 0 [0, 1, 2, 3, 4, 5, 6, 7, 8] [0, 1, 5, 25] [8, 7, 6, 5, 4, 3, 2, 1, 0] [(2, .s), (3, .lg (Value.int .i64 x94)), (6, .s), (7, .lg (Value.int .i64 x100))] (fun K => ((0 : Int) ≤ x75 ∧ x75 < ((List.length x1) : Nat) ∧ FlatA a2 (List.length x1)) ∧ ((GLoad g ⟨ab a2, ao a2 + (Int.toNat (x75)) * 1, none⟩ false 1 (Value.int .i64 x94)) ∧ (((0 : Int) ≤ x75 ∧ x75 < ((List.length x5) : Nat) ∧ FlatA a6 (List.length x5)) ∧ ((GLoad g ⟨ab a6, ao a6 + (Int.toNat (x75)) * 1, none⟩ false 1 (Value.int .i64 x100)) ∧ (K [(0, Value.slice a2 (List.length x1) c3), (1, Value.slice a6 (List.length x5) c7), (5, Value.int .i64 x75), (25, Value.bool (x94 != x100))]))))) (fun K => by kernel_rfl) (by kernel_rfl) (by kernel_rfl) (by kernel_rfl) ?_
        refine ⟨h96, ?_⟩
        refine ⟨(h99 _ 0 _ _ _ rfl rfl rfl (OwnRead.one rfl)), ?_⟩
        refine ⟨h102, ?_⟩
        refine ⟨(h105 _ 0 _ _ _ rfl rfl rfl (OwnRead.one rfl)), ?_⟩
        refine WD.done (by kernel_rfl) ?_
        refine PO.nx ?_
        rcases cond_some H with ⟨h106, H⟩ | ⟨h106, H⟩
        · refine U.asW (t := 25) (congrArg Value.bool h106) (by kernel_rfl) ?_
          refine WP.condT (by kernel_rfl) ?_
          refine WP.seq (by kernel_rfl) ?_
          refine WP.reg (by kernel_rfl) ?_
          refine U.seg 1 [4] [] (fun K => K [(4, Value.bool false)] (fr)) (fun K => by kernel_rfl) 1 (by kernel_rfl) ?_
          refine WO.done (by kernel_rfl) ?_
          refine PO.nx ?_
          refine WP.ret (by kernel_rfl) ?_
          refine PO.blk_ret ?_
          refine PO.nx_ret ?_
          refine PO.lp_ret ?_
          refine PO.blk_ret ?_
          refine PO.jn_ret ?_
          refine PO.nx_ret ?_
          have hq := Option.some.inj H
          subst hq
          have H := h79
          rw [← (show _ = o76 from h78)] at H
          have H : some false = some r := H
          have hr := Option.some.inj H
          subst hr
          refine PO.body [Value.bool false] (fr) rfl (Res.tmp (by kernel_rfl) Res.nil) ?_
          exact fun w hw => Ret.mk () trivial rfl (okNT 0 [] (by kernel_rfl) rfl hw)
        · refine U.asW (t := 25) (congrArg Value.bool h106) (by kernel_rfl) ?_
          refine WP.condF (by kernel_rfl) ?_
          refine WP.skip (by kernel_rfl) ?_
          refine PO.blk_normal ?_
          refine PO.nx ?_
          refine WP.reg (by kernel_rfl) ?_
          refine U.seg 3 [0, 1, 5] [] (fun K => K [(0, Value.slice a2 (List.length x1) c3), (1, Value.slice a6 (List.length x5) c7), (5, Value.int .i64 (w64 (x75 + 1)))] (fr)) (fun K => by kernel_rfl) 3 (by kernel_rfl) ?_
          refine WO.done (by kernel_rfl) ?_
          have hq := Option.some.inj H
          subst hq
          refine PO.againW ⟨(w64 (x75 + 1)), h78, rfl⟩ ?_ (Nat.lt_succ_self _)
          exact (St.ok.to [0, 1, 5] 0 [] (by kernel_rfl) rfl (by kernel_rfl) rfl rfl (by kernel_rfl))
      · refine U.asW (t := 14) (congrArg Value.bool h81) (by kernel_rfl) ?_
        refine WP.condF (by kernel_rfl) ?_
        refine WP.exit (id := 0) (by kernel_rfl) ?_
        refine PO.nx_exit ?_
        refine PO.lp_exit ?_
        refine PO.blk_exit ?_
        have hq := Option.some.inj H
        subst hq
        have H := h79
        rw [← (show _ = o76 from h78)] at H
        have H : f24_j2 kk = some r := H
        refine PO.jn ⟨H, rfl⟩ ?_
        exact (St.ok.to [] 0 [] (by kernel_rfl) rfl (by kernel_rfl) rfl rfl (by kernel_rfl))
    · rintro _ ⟨H, rfl⟩
      unfold f24_j2 at H
      refine PO.nx ?_
      refine WP.seq (by kernel_rfl) ?_
      refine WP.reg (by kernel_rfl) ?_
      refine U.seg 1 [4] [] (fun K => K [(4, Value.bool true)] (fr)) (fun K => by kernel_rfl) 1 (by kernel_rfl) ?_
      refine WO.done (by kernel_rfl) ?_
      refine PO.nx ?_
      refine WP.ret (by kernel_rfl) ?_
      have hr := Option.some.inj H
      subst hr
      refine PO.body [Value.bool true] (fr) rfl (Res.tmp (by kernel_rfl) Res.nil) ?_
      exact fun w hw => Ret.mk () trivial rfl (okNT 0 [] (by kernel_rfl) rfl hw)

set_option maxRecDepth 100000 in
theorem c_f7 (kk : Nat) {g : GH} {r : Bool} (H : m_f7 kk = some r) {fr : Hs} {w : World} (hw : Ok g (fr) w) :
    Calls Try.prog 7 (List.toArray []) w (Ret (fun _ : Unit => True) (fun _ => Value.bool r) (fun _ => g) (fun _ => (fr))) := by
  refine fn_wp (args := []) (c := C_7) Try.func7 (by kernel_rfl) Try.ntmps7 (by kernel_rfl) ?_ hw
  unfold m_f7 at H
  refine WP.seq (by kernel_rfl) ?_
  refine WP.reg (by kernel_rfl) ?_
  refine U.seg 1 [] [] (fun K => K [] (fr)) (fun K => by kernel_rfl) 1 (by kernel_rfl) ?_
  refine WO.done (by kernel_rfl) ?_
  refine PO.nx ?_
  refine WP.seq (by kernel_rfl) ?_
  refine WP.reg (by kernel_rfl) ?_
  obtain ⟨x1, h2, H⟩ := bnd_some H
  refine U.step 1 (by kernel_rfl) (U.call (dst := some 7) (fun w hw => c_f26 kk h2 hw) (by kernel_rfl) (enters_of Try.func26 (by kernel_rfl) rfl)) ?_
  rintro ⟨g3, a5, c6⟩ ⟨h4, h8⟩
  obtain ⟨x9, h10, H⟩ := bnd_some H
  refine U.step 2 (by kernel_rfl) (U.call (dst := some 8) (fun w hw => c_f25 kk x1.1 x1.2.1 x1.2.2.1 x1.2.2.2 a5 c6 h8 h10 hw) (by kernel_rfl) (enters_of Try.func25 (by kernel_rfl) rfl)) ?_
  rintro _ _
  refine U.seg 5 [1, 2] [] (fun K => K [(1, Value.int .i64 x9.1), (2, Value.int .i64 x9.2)] (fr)) (fun K => by kernel_rfl) 7 (by kernel_rfl) ?_
  refine WO.done (by kernel_rfl) ?_
  refine PO.nx ?_
  refine WP.seq (by kernel_rfl) ?_
  refine WP.reg (by kernel_rfl) ?_
  obtain ⟨x11, h12, H⟩ := bnd_some H
  refine U.step 1 (by kernel_rfl) (U.call (dst := some 12) (fun w hw => c_f28 kk h12 hw) (by kernel_rfl) (enters_of Try.func28 (by kernel_rfl) rfl)) ?_
  rintro ⟨g13, a15, c16⟩ ⟨h14, h18⟩
  obtain ⟨x19, h20, H⟩ := bnd_some H
  refine U.step 2 (by kernel_rfl) (U.call (dst := some 13) (fun w hw => c_f27 kk x11.1 x11.2.1 x11.2.2 a15 c16 h18 h20 hw) (by kernel_rfl) (enters_of Try.func27 (by kernel_rfl) rfl)) ?_
  rintro ⟨g21, a23, c24⟩ ⟨h22, h26⟩
  refine U.seg 7 [1, 2, 3, 4, 5] [] (fun K => K [(1, Value.int .i64 x9.1), (2, Value.int .i64 x9.2), (3, Value.int .i64 x19.1), (4, Value.slice a23 (List.length x19.2.1) c24), (5, Value.int .i64 x19.2.2)] (fr)) (fun K => by kernel_rfl) 9 (by kernel_rfl) ?_
  refine WO.done (by kernel_rfl) ?_
  refine PO.nx ?_
  refine WP.seq (by kernel_rfl) ?_
  refine WP.join (fun s => ∃ (x41 : Bool) (g39 : GH), GH.le g21 g39 ∧ f7_j1 kk x41 = some r ∧ s = { n := 36, e := [(0, Value.bool x41)], d := [], g := g39, h := (fr) }) ?_ ?_
  · refine WP.reg (by kernel_rfl) ?_
    refine U.seg 3 [1, 3, 4, 5, 19] [] (fun K => K [(1, Value.int .i64 x9.1), (3, Value.int .i64 x19.1), (4, Value.slice a23 (List.length x19.2.1) c24), (5, Value.int .i64 x19.2.2), (19, Value.bool (x9.2 == 0))] (fr)) (fun K => by kernel_rfl) 3 (by kernel_rfl) ?_
    rcases cond_some H with ⟨h27, H⟩ | ⟨h27, H⟩
    · refine U.as (t := 19) (congrArg Value.bool h27) (by kernel_rfl) ?_
      refine U.seg 4 [3, 4, 5, 23] [] (fun K => K [(3, Value.int .i64 x19.1), (4, Value.slice a23 (List.length x19.2.1) c24), (5, Value.int .i64 x19.2.2), (23, Value.bool (x9.1 == 21))] (fr)) (fun K => by kernel_rfl) 7 (by kernel_rfl) ?_
      rcases cond_some H with ⟨h28, H⟩ | ⟨h28, H⟩
      · refine U.as (t := 23) (congrArg Value.bool h28) (by kernel_rfl) ?_
        refine U.seg 4 [3, 4, 27] [] (fun K => K [(3, Value.int .i64 x19.1), (4, Value.slice a23 (List.length x19.2.1) c24), (27, Value.bool (x19.2.2 == 0))] (fr)) (fun K => by kernel_rfl) 11 (by kernel_rfl) ?_
        rcases cond_some H with ⟨h29, H⟩ | ⟨h29, H⟩
        · refine U.as (t := 27) (congrArg Value.bool h29) (by kernel_rfl) ?_
          refine U.seg 4 [4, 31] [] (fun K => K [(4, Value.slice a23 (List.length x19.2.1) c24), (31, Value.bool (x19.1 == 3))] (fr)) (fun K => by kernel_rfl) 15 (by kernel_rfl) ?_
          rcases cond_some H with ⟨h30, H⟩ | ⟨h30, H⟩
          · refine U.as (t := 31) (congrArg Value.bool h30) (by kernel_rfl) ?_
            have h32 : Rw (Kd.int .i64) g21 [Value.int .i64 2, Value.int .i64 1, Value.int .i64 1] [2, 1, 1] := ⟨[Value.int .i64 2], [Value.int .i64 1, Value.int .i64 1], rfl, rfl, ⟨[Value.int .i64 1], [Value.int .i64 1], rfl, rfl, ⟨[Value.int .i64 1], [], rfl, rfl, rfl⟩⟩⟩
            refine U.seg 2 [31, 32, 33] [(16, .al 1)] (fun K => ∀ b31 : Nat, K [(31, Value.bool true), (32, Value.slice a23 (List.length x19.2.1) c24), (33, Value.slice (some ⟨b31, 0, none⟩ : Option Addr) 3 3)] ((1, Ent.sl (some ⟨b31, 0, none⟩ : Option Addr) 3 3 3 1 [Value.int .i64 2, Value.int .i64 1, Value.int .i64 1]) :: fr)) (fun K => by kernel_rfl) 17 (by kernel_rfl) ?_
            intro b31
            refine U.freeze (dd := (Kd.int .i64)) (t := 1) (a := (some ⟨b31, 0, none⟩ : Option Addr)) (n1 := 3) (cc := 3) (T := 3) (cs := [Value.int .i64 2, Value.int .i64 1, Value.int .i64 1]) (by kernel_rfl) h32 rfl (fun g34 h35 h36 => ?_)
            obtain ⟨x37, h38, H⟩ := bnd_some H
            refine U.step 18 (by kernel_rfl) (U.call (dst := some 34) (fun w hw => c_f24 kk x19.2.1 [2, 1, 1] a23 c24 (some ⟨b31, 0, none⟩ : Option Addr) 3 (h26.mono h35) h36 h38 hw) (by kernel_rfl) (enters_of Try.func24 (by kernel_rfl) rfl)) ?_
            rintro _ _
            refine U.seg 2 [0] [] (fun K => K [(0, Value.bool x37)] (fr)) (fun K => by kernel_rfl) 20 (by kernel_rfl) ?_
            refine WO.done (by kernel_rfl) ?_
            refine PO.jn ⟨x37, g34, h35, H, rfl⟩ ?_
            exact (St.ok.to [0] 0 [] (by kernel_rfl) rfl (by kernel_rfl) rfl rfl (by kernel_rfl))
          · refine U.as (t := 31) (congrArg Value.bool h30) (by kernel_rfl) ?_
            refine U.seg 5 [0] [] (fun K => K [(0, Value.bool false)] (fr)) (fun K => by kernel_rfl) 20 (by kernel_rfl) ?_
            refine WO.done (by kernel_rfl) ?_
            refine PO.jn ⟨false, g21, (GH.le_refl _), H, rfl⟩ ?_
            exact (St.ok.to [0] 0 [] (by kernel_rfl) rfl (by kernel_rfl) rfl rfl (by kernel_rfl))
        · refine U.as (t := 27) (congrArg Value.bool h29) (by kernel_rfl) ?_
          refine U.seg 9 [0] [] (fun K => K [(0, Value.bool false)] (fr)) (fun K => by kernel_rfl) 20 (by kernel_rfl) ?_
          refine WO.done (by kernel_rfl) ?_
          refine PO.jn ⟨false, g21, (GH.le_refl _), H, rfl⟩ ?_
          exact (St.ok.to [0] 0 [] (by kernel_rfl) rfl (by kernel_rfl) rfl rfl (by kernel_rfl))
      · refine U.as (t := 23) (congrArg Value.bool h28) (by kernel_rfl) ?_
        refine U.seg 13 [0] [] (fun K => K [(0, Value.bool false)] (fr)) (fun K => by kernel_rfl) 20 (by kernel_rfl) ?_
        refine WO.done (by kernel_rfl) ?_
        refine PO.jn ⟨false, g21, (GH.le_refl _), H, rfl⟩ ?_
        exact (St.ok.to [0] 0 [] (by kernel_rfl) rfl (by kernel_rfl) rfl rfl (by kernel_rfl))
    · refine U.as (t := 19) (congrArg Value.bool h27) (by kernel_rfl) ?_
      refine U.seg 17 [0] [] (fun K => K [(0, Value.bool false)] (fr)) (fun K => by kernel_rfl) 20 (by kernel_rfl) ?_
      refine WO.done (by kernel_rfl) ?_
      refine PO.jn ⟨false, g21, (GH.le_refl _), H, rfl⟩ ?_
      exact (St.ok.to [0] 0 [] (by kernel_rfl) rfl (by kernel_rfl) rfl rfl (by kernel_rfl))
  · rintro _ ⟨x41, g39, h40, H, rfl⟩
    unfold f7_j1 at H
    refine PO.nx ?_
    refine WP.ret (by kernel_rfl) ?_
    have hr := Option.some.inj H
    subst hr
    refine PO.body [Value.bool x41] (fr) rfl (Res.tmp (by kernel_rfl) Res.nil) ?_
    exact fun w hw => Ret.mk () trivial rfl (Ok.gweak (GH.le_trans (GH.le_trans (GH.le_trans h4 h14) h22) h40) (okNT 0 [] (by kernel_rfl) rfl hw))

set_option maxRecDepth 100000 in
theorem c_f67 (kk : Nat) (x1 : Int) (x2 : Int) (x3 : Int) {g : GH} {r : Bool} (H : m_f67 kk x1 x2 x3 = some r) {fr : Hs} {w : World} (hw : Ok g (fr) w) :
    Calls Try.prog 67 (List.toArray [Value.int .i64 x1, Value.int .i64 x2, Value.int .i64 x3]) w (Ret (fun _ : Unit => True) (fun _ => Value.bool r) (fun _ => g) (fun _ => (fr))) := by
  refine fn_wp (args := [Value.int .i64 x1, Value.int .i64 x2, Value.int .i64 x3]) (c := C_67) Try.func67 (by kernel_rfl) Try.ntmps67 (by kernel_rfl) ?_ hw
  unfold m_f67 at H
  refine WP.seq (by kernel_rfl) ?_
  refine WP.reg (by kernel_rfl) ?_
  refine U.seg 1 [0, 1, 2] [] (fun K => K [(0, Value.int .i64 x1), (1, Value.int .i64 x2), (2, Value.int .i64 x3)] (fr)) (fun K => by kernel_rfl) 1 (by kernel_rfl) ?_
  refine WO.done (by kernel_rfl) ?_
  refine PO.nx ?_
  refine WP.seq (by kernel_rfl) ?_
  refine WP.join (fun s => ∃ (x5 : Bool), f67_j1 kk x5 = some r ∧ s = { n := 15, e := [(6, Value.bool x5)], d := [], g := g, h := (fr) }) ?_ ?_
  · refine WP.reg (by kernel_rfl) ?_
    refine U.seg 4 [0, 2, 10] [] (fun K => K [(0, Value.int .i64 x1), (2, Value.int .i64 x3), (10, Value.bool (decide (x2 ≤ x1)))] (fr)) (fun K => by kernel_rfl) 4 (by kernel_rfl) ?_
    rcases cond_some H with ⟨h4, H⟩ | ⟨h4, H⟩
    · refine U.as (t := 10) (congrArg Value.bool h4) (by kernel_rfl) ?_
      refine U.seg 5 [6] [] (fun K => K [(6, Value.bool (decide (x1 ≤ x3)))] (fr)) (fun K => by kernel_rfl) 9 (by kernel_rfl) ?_
      refine WO.done (by kernel_rfl) ?_
      refine PO.jn ⟨(decide (x1 ≤ x3)), H, rfl⟩ ?_
      exact (St.ok.to [6] 0 [] (by kernel_rfl) rfl (by kernel_rfl) rfl rfl (by kernel_rfl))
    · refine U.as (t := 10) (congrArg Value.bool h4) (by kernel_rfl) ?_
      refine U.seg 5 [6] [] (fun K => K [(6, Value.bool false)] (fr)) (fun K => by kernel_rfl) 9 (by kernel_rfl) ?_
      refine WO.done (by kernel_rfl) ?_
      refine PO.jn ⟨false, H, rfl⟩ ?_
      exact (St.ok.to [6] 0 [] (by kernel_rfl) rfl (by kernel_rfl) rfl rfl (by kernel_rfl))
  · rintro _ ⟨x5, H, rfl⟩
    unfold f67_j1 at H
    refine PO.nx ?_
    refine WP.ret (by kernel_rfl) ?_
    have hr := Option.some.inj H
    subst hr
    refine PO.body [Value.bool x5] (fr) rfl (Res.tmp (by kernel_rfl) Res.nil) ?_
    exact fun w hw => Ret.mk () trivial rfl (okNT 0 [] (by kernel_rfl) rfl hw)

set_option maxRecDepth 100000 in
theorem c_f113 (kk : Nat) (x1 : (List (Int × Int))) (x5 : Int) (x6 : Int) (a2 : Option Addr) (c3 : Nat) {g : GH} (h7 : Sl (Kd.pair (Kd.int .i64) (Kd.int .i64)) g a2 (List.length x1) c3 x1) {r : Int} (H : m_f113 kk x1 x5 x6 = some r) {fr : Hs} {w : World} (hw : Ok g (fr) w) :
    Calls Try.prog 113 (List.toArray [Value.slice a2 (List.length x1) c3, Value.agg #[Value.int .i64 x5, Value.int .i64 x6]]) w (Ret (fun _ : Unit => True) (fun _ => Value.int .i64 r) (fun _ => g) (fun _ => (fr))) := by
  refine fn_wp (args := [Value.slice a2 (List.length x1) c3, Value.agg #[Value.int .i64 x5, Value.int .i64 x6]]) (c := C_113) Try.func113 (by kernel_rfl) Try.ntmps113 (by kernel_rfl) ?_ hw
  unfold m_f113 at H
  refine WP.seq (by kernel_rfl) ?_
  refine WP.reg (by kernel_rfl) ?_
  refine U.seg 2 [0, 3] [(0, .al 1)] (fun K => ∀ b8 : Nat, K [(0, Value.slice a2 (List.length x1) c3), (3, Value.pointer (some ⟨b8, 0, none⟩))] ((1, Ent.blk b8 42 [Value.int .i64 x5, Value.int .i64 x6]) :: fr)) (fun K => by kernel_rfl) 2 (by kernel_rfl) ?_
  intro b8
  refine WO.done (by kernel_rfl) ?_
  refine PO.nx ?_
  refine WP.seq (by kernel_rfl) ?_
  refine WP.seq (by kernel_rfl) ?_
  refine WP.reg (by kernel_rfl) ?_
  refine U.seg 3 [0, 3, 7, 8] [] (fun K => K [(0, Value.slice a2 (List.length x1) c3), (3, Value.pointer (some ⟨b8, 0, none⟩)), (7, Value.int .i64 ((List.length x1) : Int)), (8, Value.int .i64 0)] ((1, Ent.blk b8 42 [Value.int .i64 x5, Value.int .i64 x6]) :: fr)) (fun K => by kernel_rfl) 3 (by kernel_rfl) ?_
  refine WO.done (by kernel_rfl) ?_
  refine PO.nx ?_
  refine WP.join (fun s => f113_j2 kk = some r ∧ s = { n := 19, e := [], d := [], g := g, h := (fr) }) ?_ ?_
  · refine WP.block (id := 0) (by kernel_rfl) ?_
    obtain ⟨o49, h74, h52⟩ := bnd_some H
    refine WP.loopW (by kernel_rfl) (fun n s => ∃ (x48 : Int), iter (fun y : Int => f113_l1 kk y x1 x5 x6) n x48 = some o49 ∧ s = { n := 19, e := [(0, Value.slice a2 (List.length x1) c3), (3, Value.pointer (some ⟨b8, 0, none⟩)), (7, Value.int .i64 ((List.length x1) : Int)), (8, Value.int .i64 x48)], d := [], g := g, h := ((1, Ent.blk b8 42 [Value.int .i64 x5, Value.int .i64 x6]) :: fr) }) (k := kk) ⟨0, h74, rfl⟩ (St.ok.to [0, 3, 7, 8] 1 [(1, 0)] (by kernel_rfl) rfl (by kernel_rfl) rfl rfl (by kernel_rfl)) ?_
    intro n69 s
    rintro ⟨x48, h70, rfl⟩
    obtain ⟨n53, q50, h72, h73, h51⟩ := iter_some h70
    subst h72
    have H : f113_l1 kk x48 x1 x5 x6 = some q50 := h73
    unfold f113_l1 at H
    refine WP.seq (by kernel_rfl) ?_
    refine WP.reg (by kernel_rfl) ?_
    refine U.seg 1 [0, 3, 7, 8, 9] [] (fun K => K [(0, Value.slice a2 (List.length x1) c3), (3, Value.pointer (some ⟨b8, 0, none⟩)), (7, Value.int .i64 ((List.length x1) : Int)), (8, Value.int .i64 x48), (9, Value.bool (decide (x48 < ((List.length x1) : Int))))] ((1, Ent.blk b8 42 [Value.int .i64 x5, Value.int .i64 x6]) :: fr)) (fun K => by kernel_rfl) 1 (by kernel_rfl) ?_
    refine WO.done (by kernel_rfl) ?_
    refine PO.nx ?_
    refine WP.seq (by kernel_rfl) ?_
    rcases cond_some H with ⟨h54, H⟩ | ⟨h54, H⟩
    · refine U.asW (t := 9) (congrArg Value.bool h54) (by kernel_rfl) ?_
      refine WP.condT (by kernel_rfl) ?_
      refine WP.skip (by kernel_rfl) ?_
      refine PO.nx ?_
      refine WP.seq (by kernel_rfl) ?_
      refine WP.block (id := 1) (by kernel_rfl) ?_
      refine WP.seq (by kernel_rfl) ?_
      refine WP.reg (by kernel_rfl) ?_
      refine U.seg 2 [0, 3, 5, 7, 8] [] (fun K => K [(0, Value.slice a2 (List.length x1) c3), (3, Value.pointer (some ⟨b8, 0, none⟩)), (5, Value.int .i64 x48), (7, Value.int .i64 ((List.length x1) : Int)), (8, Value.int .i64 x48)] ((1, Ent.blk b8 42 [Value.int .i64 x5, Value.int .i64 x6]) :: fr)) (fun K => by kernel_rfl) 2 (by kernel_rfl) ?_
      refine WO.done (by kernel_rfl) ?_
      refine PO.nx ?_
      refine WP.seq (by kernel_rfl) ?_
      refine U.draw [] g [(1, Ent.blk b8 42 [Value.int .i64 x5, Value.int .i64 x6])] (by kernel_rfl) (by kernel_rfl) 6 (by kernel_rfl) (fun w hw => Ok.pickTo [(1, 0)] (by kernel_rfl) (by kernel_rfl) (GH.le_refl _) hw) ?_
      obtain ⟨x61, h62, H⟩ := bnd_some H
      obtain ⟨h63, s64, h65, h66⟩ := Sl.at' (d := (Kd.pair (Kd.int .i64) (Kd.int .i64))) h7 h62
      obtain ⟨_, _, rfl, rfl, rfl⟩ := h65
      refine U.take 0 [0, 1, 2, 3, 4, 5] [0, 3, 5, 7, 8, 16] [5, 4, 3, 2, 1, 0] [(0, .ld 1), (3, .s), (4, .lg (Value.agg #[Value.int .i64 x61.1, Value.int .i64 x61.2])), (5, .s)] (fun K => (b8 = b8) ∧ (((0 : Int) ≤ x48 ∧ x48 < ((List.length x1) : Nat) ∧ FlatA a2 (List.length x1)) ∧ ((GLoad g ⟨ab a2, ao a2 + (Int.toNat (x48)) * 2, none⟩ true 2 (Value.agg #[Value.int .i64 x61.1, Value.int .i64 x61.2])) ∧ ((Try.prog.eqGuardType Try.prog.depth 42 = false) ∧ (K [(0, Value.slice a2 (List.length x1) c3), (3, Value.pointer (some ⟨b8, 0, none⟩)), (5, Value.int .i64 x48), (7, Value.int .i64 ((List.length x1) : Int)), (8, Value.int .i64 x48), (16, Value.bool ((x5 == x61.1) && ((x6 == x61.2) && true)))]))))) (fun K => by kernel_rfl) (by kernel_rfl) (by kernel_rfl) (by kernel_rfl) ?_
      refine ⟨rfl, ?_⟩
      refine ⟨h63, ?_⟩
      refine ⟨(h66 _ 0 _ _ _ rfl rfl rfl (OwnRead.agg rfl rfl)), ?_⟩
      refine ⟨(by kernel_rfl), ?_⟩
      refine WD.done (by kernel_rfl) ?_
      refine PO.nx ?_
      rcases cond_some H with ⟨h67, H⟩ | ⟨h67, H⟩
      · refine U.asW (t := 16) (congrArg Value.bool h67) (by kernel_rfl) ?_
        refine WP.condT (by kernel_rfl) ?_
        refine WP.seq (by kernel_rfl) ?_
        refine WP.reg (by kernel_rfl) ?_
        refine U.seg 2 [4] [] (fun K => K [(4, Value.int .i64 x48)] ((1, Ent.blk b8 42 [Value.int .i64 x5, Value.int .i64 x6]) :: fr)) (fun K => by kernel_rfl) 2 (by kernel_rfl) ?_
        refine WO.done (by kernel_rfl) ?_
        refine PO.nx ?_
        refine WP.ret (by kernel_rfl) ?_
        refine PO.blk_ret ?_
        refine PO.nx_ret ?_
        refine PO.lp_ret ?_
        refine PO.blk_ret ?_
        refine PO.jn_ret ?_
        refine PO.nx_ret ?_
        have hq := Option.some.inj H
        subst hq
        have H := h52
        rw [← (show _ = o49 from h51)] at H
        have H : some x48 = some r := H
        have hr := Option.some.inj H
        subst hr
        refine PO.body [Value.int .i64 x48] ((1, Ent.blk b8 42 [Value.int .i64 x5, Value.int .i64 x6]) :: fr) rfl (Res.tmp (by kernel_rfl) Res.nil) ?_
        exact fun w hw => Ret.mk () trivial rfl (okNT 1 [] (by kernel_rfl) rfl hw)
      · refine U.asW (t := 16) (congrArg Value.bool h67) (by kernel_rfl) ?_
        refine WP.condF (by kernel_rfl) ?_
        refine WP.skip (by kernel_rfl) ?_
        refine PO.blk_normal ?_
        refine PO.nx ?_
        refine WP.reg (by kernel_rfl) ?_
        refine U.seg 2 [0, 3, 7, 8] [] (fun K => K [(0, Value.slice a2 (List.length x1) c3), (3, Value.pointer (some ⟨b8, 0, none⟩)), (7, Value.int .i64 ((List.length x1) : Int)), (8, Value.int .i64 (w64 (x48 + 1)))] ((1, Ent.blk b8 42 [Value.int .i64 x5, Value.int .i64 x6]) :: fr)) (fun K => by kernel_rfl) 2 (by kernel_rfl) ?_
        refine WO.done (by kernel_rfl) ?_
        have hq := Option.some.inj H
        subst hq
        refine PO.againW ⟨(w64 (x48 + 1)), h51, rfl⟩ ?_ (Nat.lt_succ_self _)
        exact (St.ok.to [0, 3, 7, 8] 1 [(1, 0)] (by kernel_rfl) rfl (by kernel_rfl) rfl rfl (by kernel_rfl))
    · refine U.asW (t := 9) (congrArg Value.bool h54) (by kernel_rfl) ?_
      refine WP.condF (by kernel_rfl) ?_
      refine WP.exit (id := 0) (by kernel_rfl) ?_
      refine PO.nx_exit ?_
      refine PO.lp_exit ?_
      refine PO.blk_exit ?_
      have hq := Option.some.inj H
      subst hq
      have H := h52
      rw [← (show _ = o49 from h51)] at H
      have H : f113_j2 kk = some r := H
      refine PO.jn ⟨H, rfl⟩ ?_
      exact (St.ok.to [] 1 [] (by kernel_rfl) rfl (by kernel_rfl) rfl rfl (by kernel_rfl))
  · rintro _ ⟨H, rfl⟩
    unfold f113_j2 at H
    refine PO.nx ?_
    refine WP.seq (by kernel_rfl) ?_
    refine WP.reg (by kernel_rfl) ?_
    refine U.seg 1 [4] [] (fun K => K [(4, Value.int .i64 (-1))] (fr)) (fun K => by kernel_rfl) 1 (by kernel_rfl) ?_
    refine WO.done (by kernel_rfl) ?_
    refine PO.nx ?_
    refine WP.ret (by kernel_rfl) ?_
    have hr := Option.some.inj H
    subst hr
    refine PO.body [Value.int .i64 (-1)] (fr) rfl (Res.tmp (by kernel_rfl) Res.nil) ?_
    exact fun w hw => Ret.mk () trivial rfl (okNT 0 [] (by kernel_rfl) rfl hw)

set_option maxRecDepth 100000 in
theorem c_f68 (kk : Nat) (x1 : (List (Int × Int))) (x5 : Int) (x6 : Int) (a2 : Option Addr) (c3 : Nat) {g : GH} (h7 : Sl (Kd.pair (Kd.int .i64) (Kd.int .i64)) g a2 (List.length x1) c3 x1) {r : Bool} (H : m_f68 kk x1 x5 x6 = some r) {fr : Hs} {w : World} (hw : Ok g (fr) w) :
    Calls Try.prog 68 (List.toArray [Value.slice a2 (List.length x1) c3, Value.agg #[Value.int .i64 x5, Value.int .i64 x6]]) w (Ret (fun _ : Unit => True) (fun _ => Value.bool r) (fun _ => g) (fun _ => (fr))) := by
  refine fn_wp (args := [Value.slice a2 (List.length x1) c3, Value.agg #[Value.int .i64 x5, Value.int .i64 x6]]) (c := C_68) Try.func68 (by kernel_rfl) Try.ntmps68 (by kernel_rfl) ?_ hw
  unfold m_f68 at H
  refine WP.seq (by kernel_rfl) ?_
  refine WP.reg (by kernel_rfl) ?_
  refine U.seg 2 [0, 3] [(0, .al 1)] (fun K => ∀ b8 : Nat, K [(0, Value.slice a2 (List.length x1) c3), (3, Value.pointer (some ⟨b8, 0, none⟩))] ((1, Ent.blk b8 42 [Value.int .i64 x5, Value.int .i64 x6]) :: fr)) (fun K => by kernel_rfl) 2 (by kernel_rfl) ?_
  intro b8
  refine WO.done (by kernel_rfl) ?_
  refine PO.nx ?_
  refine WP.seq (by kernel_rfl) ?_
  refine WP.reg (by kernel_rfl) ?_
  refine U.seg 2 [5, 6] [(1, .ld 1)] (fun K => (b8 = b8) ∧ (K [(5, Value.slice a2 (List.length x1) c3), (6, Value.agg #[Value.int .i64 x5, Value.int .i64 x6])] ((1, Ent.blk b8 42 [Value.int .i64 x5, Value.int .i64 x6]) :: fr))) (fun K => by kernel_rfl) 2 (by kernel_rfl) ?_
  refine ⟨rfl, ?_⟩
  obtain ⟨x9, h10, H⟩ := bnd_some H
  refine U.step 3 (by kernel_rfl) (U.call (dst := some 7) (fun w hw => c_f113 kk x1 x5 x6 a2 c3 h7 h10 hw) (by kernel_rfl) (enters_of Try.func113 (by kernel_rfl) rfl)) ?_
  rintro _ _
  refine U.seg 2 [4] [] (fun K => K [(4, Value.bool (decide (x9 ≥ 0)))] ((1, Ent.blk b8 42 [Value.int .i64 x5, Value.int .i64 x6]) :: fr)) (fun K => by kernel_rfl) 5 (by kernel_rfl) ?_
  refine WO.done (by kernel_rfl) ?_
  refine PO.nx ?_
  refine WP.ret (by kernel_rfl) ?_
  have hr := Option.some.inj H
  subst hr
  refine PO.body [Value.bool (decide (x9 ≥ 0))] ((1, Ent.blk b8 42 [Value.int .i64 x5, Value.int .i64 x6]) :: fr) rfl (Res.tmp (by kernel_rfl) Res.nil) ?_
  exact fun w hw => Ret.mk () trivial rfl (okNT 1 [] (by kernel_rfl) rfl hw)

set_option maxRecDepth 100000 in
theorem c_f114 (kk : Nat) (x1 : (List (Int × Int))) (a2 : Option Addr) (c3 : Nat) {g : GH} (h5 : Sl (Kd.pair (Kd.int .i64) (Kd.int .i64)) g a2 (List.length x1) c3 x1) {r : (List (Int × Int))} (H : m_f114 kk x1 = some r) {fr : Hs} {w : World} (hw : Ok g (fr) w) :
    Calls Try.prog 114 (List.toArray [Value.slice a2 (List.length x1) c3]) w (Ret (fun y : (GH) × (Nat) × (Option Addr) × (Nat) => GH.le g y.1 ∧ Sl (Kd.pair (Kd.int .i64) (Kd.int .i64)) y.1 y.2.2.1 (List.length r) y.2.2.2 r) (fun y => Value.func (.func 156) #[] #[Value.pointer (some ⟨y.2.1, 0, none⟩)]) (fun y => y.1) (fun y => ((1, Ent.blk y.2.1 22 [Value.slice y.2.2.1 (List.length r) y.2.2.2]) :: fr))) := by
  refine fn_wp (args := [Value.slice a2 (List.length x1) c3]) (c := C_114) Try.func114 (by kernel_rfl) Try.ntmps114 (by kernel_rfl) ?_ hw
  unfold m_f114 at H
  refine WP.seq (by kernel_rfl) ?_
  refine WP.reg (by kernel_rfl) ?_
  refine U.seg 2 [1] [(0, .al 1)] (fun K => ∀ b6 : Nat, K [(1, Value.pointer (some ⟨b6, 0, none⟩))] ((1, Ent.blk b6 22 [Value.slice a2 (List.length x1) c3]) :: fr)) (fun K => by kernel_rfl) 2 (by kernel_rfl) ?_
  intro b6
  refine WO.done (by kernel_rfl) ?_
  refine PO.nx ?_
  refine WP.seq (by kernel_rfl) ?_
  refine WP.reg (by kernel_rfl) ?_
  refine U.seg 2 [2] [] (fun K => K [(2, Value.func (.func 156) #[] #[Value.pointer (some ⟨b6, 0, none⟩)])] ((1, Ent.blk b6 22 [Value.slice a2 (List.length x1) c3]) :: fr)) (fun K => by kernel_rfl) 2 (by kernel_rfl) ?_
  refine WO.done (by kernel_rfl) ?_
  refine PO.nx ?_
  refine WP.ret (by kernel_rfl) ?_
  have hr := Option.some.inj H
  subst hr
  refine PO.body [Value.func (.func 156) #[] #[Value.pointer (some ⟨b6, 0, none⟩)]] ((1, Ent.blk b6 22 [Value.slice a2 (List.length x1) c3]) :: fr) rfl (Res.tmp (by kernel_rfl) Res.nil) ?_
  exact fun w hw => Ret.mk (g, b6, a2, c3) ⟨(GH.le_refl _), h5⟩ rfl (okNT 1 [(1, 0)] (by kernel_rfl) rfl hw)

set_option maxRecDepth 100000 in
theorem c_f70 (kk : Nat) (x1 : Int) (x2 : Int) (x3 : Int) (x4 : Int) (x5 : Int) (x6 : Int) {g : GH} {r : Int} (H : m_f70 kk x1 x2 x3 x4 x5 x6 = some r) {fr : Hs} {w : World} (hw : Ok g (fr) w) :
    Calls Try.prog 70 (List.toArray [Value.agg #[Value.int .i64 x1, Value.int .i64 x2], Value.agg #[Value.int .i64 x3, Value.int .i64 x4], Value.agg #[Value.int .i64 x5, Value.int .i64 x6]]) w (Ret (fun _ : Unit => True) (fun _ => Value.int .i64 r) (fun _ => g) (fun _ => (fr))) := by
  refine fn_wp (args := [Value.agg #[Value.int .i64 x1, Value.int .i64 x2], Value.agg #[Value.int .i64 x3, Value.int .i64 x4], Value.agg #[Value.int .i64 x5, Value.int .i64 x6]]) (c := C_70) Try.func70 (by kernel_rfl) Try.ntmps70 (by kernel_rfl) ?_ hw
  unfold m_f70 at H
  refine WP.seq (by kernel_rfl) ?_
  refine WP.reg (by kernel_rfl) ?_
  refine U.seg 4 [3, 4, 5] [(0, .al 1), (1, .al 2), (2, .al 3)] (fun K => ∀ b7 : Nat, ∀ b8 : Nat, ∀ b9 : Nat, K [(3, Value.pointer (some ⟨b7, 0, none⟩)), (4, Value.pointer (some ⟨b8, 0, none⟩)), (5, Value.pointer (some ⟨b9, 0, none⟩))] ((3, Ent.blk b9 42 [Value.int .i64 x5, Value.int .i64 x6]) :: (2, Ent.blk b8 42 [Value.int .i64 x3, Value.int .i64 x4]) :: (1, Ent.blk b7 42 [Value.int .i64 x1, Value.int .i64 x2]) :: fr)) (fun K => by kernel_rfl) 4 (by kernel_rfl) ?_
  intro b7
  intro b8
  intro b9
  refine WO.done (by kernel_rfl) ?_
  refine PO.nx ?_
  refine WP.seq (by kernel_rfl) ?_
  refine WP.reg (by kernel_rfl) ?_
  refine U.seg 24 [6] [(1, .ld 2), (3, .ld 1), (6, .ld 3), (8, .ld 1), (12, .ld 2), (14, .ld 1), (17, .ld 3), (19, .ld 1)] (fun K => (b8 = b8) ∧ ((b7 = b7) ∧ ((b9 = b9) ∧ ((b7 = b7) ∧ ((b8 = b8) ∧ ((b7 = b7) ∧ ((b9 = b9) ∧ ((b7 = b7) ∧ (K [(6, Value.int .i64 (w64 ((w64 ((w64 (x3 - x1)) * (w64 (x6 - x2)))) - (w64 ((w64 (x4 - x2)) * (w64 (x5 - x1)))))))] ((3, Ent.blk b9 42 [Value.int .i64 x5, Value.int .i64 x6]) :: (2, Ent.blk b8 42 [Value.int .i64 x3, Value.int .i64 x4]) :: (1, Ent.blk b7 42 [Value.int .i64 x1, Value.int .i64 x2]) :: fr)))))))))) (fun K => by kernel_rfl) 24 (by kernel_rfl) ?_
  refine ⟨rfl, ?_⟩
  refine ⟨rfl, ?_⟩
  refine ⟨rfl, ?_⟩
  refine ⟨rfl, ?_⟩
  refine ⟨rfl, ?_⟩
  refine ⟨rfl, ?_⟩
  refine ⟨rfl, ?_⟩
  refine ⟨rfl, ?_⟩
  refine WO.done (by kernel_rfl) ?_
  refine PO.nx ?_
  refine WP.ret (by kernel_rfl) ?_
  have hr := Option.some.inj H
  subst hr
  refine PO.body [Value.int .i64 (w64 ((w64 ((w64 (x3 - x1)) * (w64 (x6 - x2)))) - (w64 ((w64 (x4 - x2)) * (w64 (x5 - x1))))))] ((3, Ent.blk b9 42 [Value.int .i64 x5, Value.int .i64 x6]) :: (2, Ent.blk b8 42 [Value.int .i64 x3, Value.int .i64 x4]) :: (1, Ent.blk b7 42 [Value.int .i64 x1, Value.int .i64 x2]) :: fr) rfl (Res.tmp (by kernel_rfl) Res.nil) ?_
  exact fun w hw => Ret.mk () trivial rfl (okNT 3 [] (by kernel_rfl) rfl hw)

set_option maxRecDepth 100000 in
theorem c_f69r0 (kk : Nat) (x5 : Int) (x6 : Int) (x7 : Int) (x8 : Int) (x12 : Int) (x13 : Int) (x14 : Int) (x15 : Bool) (b1 : Nat) (b2 : Nat) (b3 : Nat) (b4 : Nat) (b9 : Nat) (T10 : Array Value) (b11 : Nat) {g : GH} (h16 : EnvA 19 [(4, Value.pointer (some ⟨b2, 0, none⟩)), (5, Value.pointer (some ⟨b3, 0, none⟩)), (6, Value.pointer (some ⟨b4, 0, none⟩))] T10) {r : (Bool × Int × Bool)} (H : m_f69r0 kk x5 x6 x7 x8 x12 x13 x14 x15 = some r) {fr : Hs} {w : World} (hw : Ok g ((1, Ent.ob b1 (.loop (lrec b9 T10 #[11, 12] (C_69.r.l.r.l.l) (C_69.r.l.r.l.r) b11 [Code.ret] 0))) :: (2, Ent.blk b2 42 [Value.int .i64 x12, Value.int .i64 x13]) :: (3, Ent.blk b3 3 [Value.int .i64 x14]) :: (4, Ent.blk b4 4 [Value.bool x15]) :: fr) w) :
    RoundC Try.prog b1 b9 (((#[11, 12] : Array Tmp).zip (List.toArray [Value.agg #[Value.int .i64 x5, Value.int .i64 x6], Value.agg #[Value.int .i64 x7, Value.int .i64 x8]])).foldl (fun T (t, v) => T.setIfInBounds t v) T10) (C_69.r.l.r.l.l) (C_69.r.l.r.l.r) w (Ret (fun _ : Unit => True) (fun _ => Value.bool r.1) (fun _ => g) (fun _ => ((1, Ent.ob b1 (.loop (lrec b9 T10 #[11, 12] (C_69.r.l.r.l.l) (C_69.r.l.r.l.r) b11 [Code.ret] r.2.1))) :: (2, Ent.blk b2 42 [Value.int .i64 x12, Value.int .i64 x13]) :: (3, Ent.blk b3 3 [Value.int .i64 x14]) :: (4, Ent.blk b4 4 [Value.bool r.2.2]) :: fr))) := by
  unfold m_f69r0 at H
  refine round_wp (args := [Value.agg #[Value.int .i64 x5, Value.int .i64 x6], Value.agg #[Value.int .i64 x7, Value.int .i64 x8]]) (e2 := [(12, Value.agg #[Value.int .i64 x7, Value.int .i64 x8]), (11, Value.agg #[Value.int .i64 x5, Value.int .i64 x6]), (4, Value.pointer (some ⟨b2, 0, none⟩)), (5, Value.pointer (some ⟨b3, 0, none⟩)), (6, Value.pointer (some ⟨b4, 0, none⟩))]) h16 (by kernel_rfl) rfl ?_ hw
  refine WP.seq (by kernel_rfl) ?_
  refine WP.reg (by kernel_rfl) ?_
  refine U.seg 2 [4, 5, 6, 7, 12] [(0, .al 5), (1, .st 5)] (fun K => ∀ b17 : Nat, (b17 = b17) ∧ (K [(4, Value.pointer (some ⟨b2, 0, none⟩)), (5, Value.pointer (some ⟨b3, 0, none⟩)), (6, Value.pointer (some ⟨b4, 0, none⟩)), (7, Value.pointer (some ⟨b17, 0, none⟩)), (12, Value.agg #[Value.int .i64 x7, Value.int .i64 x8])] ((5, Ent.blk b17 42 [Value.int .i64 x5, Value.int .i64 x6]) :: (1, Ent.ob b1 (.loop (lrec b9 T10 #[11, 12] (C_69.r.l.r.l.l) (C_69.r.l.r.l.r) b11 [Code.ret] 0))) :: (2, Ent.blk b2 42 [Value.int .i64 x12, Value.int .i64 x13]) :: (3, Ent.blk b3 3 [Value.int .i64 x14]) :: (4, Ent.blk b4 4 [Value.bool x15]) :: fr))) (fun K => by kernel_rfl) 2 (by kernel_rfl) ?_
  intro b17
  refine ⟨rfl, ?_⟩
  refine WO.done (by kernel_rfl) ?_
  refine PO.nx ?_
  refine WP.reg (by kernel_rfl) ?_
  refine U.seg 2 [4, 5, 6, 7, 8] [(0, .al 6), (1, .st 6)] (fun K => ∀ b18 : Nat, (b18 = b18) ∧ (K [(4, Value.pointer (some ⟨b2, 0, none⟩)), (5, Value.pointer (some ⟨b3, 0, none⟩)), (6, Value.pointer (some ⟨b4, 0, none⟩)), (7, Value.pointer (some ⟨b17, 0, none⟩)), (8, Value.pointer (some ⟨b18, 0, none⟩))] ((6, Ent.blk b18 42 [Value.int .i64 x7, Value.int .i64 x8]) :: (5, Ent.blk b17 42 [Value.int .i64 x5, Value.int .i64 x6]) :: (1, Ent.ob b1 (.loop (lrec b9 T10 #[11, 12] (C_69.r.l.r.l.l) (C_69.r.l.r.l.r) b11 [Code.ret] 0))) :: (2, Ent.blk b2 42 [Value.int .i64 x12, Value.int .i64 x13]) :: (3, Ent.blk b3 3 [Value.int .i64 x14]) :: (4, Ent.blk b4 4 [Value.bool x15]) :: fr))) (fun K => by kernel_rfl) 2 (by kernel_rfl) ?_
  intro b18
  refine ⟨rfl, ?_⟩
  refine WO.done (by kernel_rfl) ?_
  refine PO.rd_begin' (t := 1) (js := [Code.ret]) ((6, Ent.blk b18 42 [Value.int .i64 x7, Value.int .i64 x8]) :: (5, Ent.blk b17 42 [Value.int .i64 x5, Value.int .i64 x6]) :: (1, Ent.ob b1 (.loop (lbusy b9 T10 #[11, 12] (C_69.r.l.r.l.l) (C_69.r.l.r.l.r) b11))) :: (2, Ent.blk b2 42 [Value.int .i64 x12, Value.int .i64 x13]) :: (3, Ent.blk b3 3 [Value.int .i64 x14]) :: (4, Ent.blk b4 4 [Value.bool x15]) :: fr) (by kernel_rfl) rfl ?_
  refine WP.block (id := 1) (by kernel_rfl) ?_
  refine WP.seq (by kernel_rfl) ?_
  refine U.draw [] g [(6, Ent.blk b18 42 [Value.int .i64 x7, Value.int .i64 x8]), (5, Ent.blk b17 42 [Value.int .i64 x5, Value.int .i64 x6]), (1, Ent.ob b1 (.loop (lbusy b9 T10 #[11, 12] (C_69.r.l.r.l.l) (C_69.r.l.r.l.r) b11))), (2, Ent.blk b2 42 [Value.int .i64 x12, Value.int .i64 x13]), (3, Ent.blk b3 3 [Value.int .i64 x14]), (4, Ent.blk b4 4 [Value.bool x15])] (by kernel_rfl) (by kernel_rfl) 6 (by kernel_rfl) (fun w hw => Ok.pickTo [(6, 0), (5, 1), (1, 2), (2, 3), (3, 4), (4, 5)] (by kernel_rfl) (by kernel_rfl) (GH.le_refl _) hw) ?_
  refine U.take 2 [0, 1, 2, 4] [4, 5, 6, 13, 14, 15, 17] [4, 2, 1, 0] [(0, .ld 5), (1, .ld 6), (2, .ld 2), (4, .ld 3)] (fun K => (b17 = b17) ∧ ((b18 = b18) ∧ ((b2 = b2) ∧ ((b3 = b3) ∧ (K [(4, Value.pointer (some ⟨b2, 0, none⟩)), (5, Value.pointer (some ⟨b3, 0, none⟩)), (6, Value.pointer (some ⟨b4, 0, none⟩)), (13, Value.agg #[Value.int .i64 x5, Value.int .i64 x6]), (14, Value.agg #[Value.int .i64 x7, Value.int .i64 x8]), (15, Value.agg #[Value.int .i64 x12, Value.int .i64 x13]), (17, Value.int .i64 x14)]))))) (fun K => by kernel_rfl) (by kernel_rfl) (by kernel_rfl) (by kernel_rfl) ?_
  refine ⟨rfl, ?_⟩
  refine ⟨rfl, ?_⟩
  refine ⟨rfl, ?_⟩
  refine ⟨rfl, ?_⟩
  obtain ⟨x21, h22, H⟩ := bnd_some H
  refine U.force 1 3 (by kernel_rfl) (by kernel_rfl) (U.call (dst := some 16) (fun w hw => c_f70 kk x5 x6 x7 x8 x12 x13 h22 hw) (by kernel_rfl) (enters_of Try.func70 (by kernel_rfl) rfl)) ?_
  rintro _ _
  refine ⟨(fun w hw => .inr (Ok.pickTo [(6, 0), (5, 1), (1, 2), (2, 3), (3, 4), (4, 5)] (by kernel_rfl) (by kernel_rfl) (GH.le_refl _) hw)), ?_⟩
  refine U.take 0 [5] [4, 5, 6, 18] [5, 3, 4, 2, 1, 0] [] (fun K => K [(4, Value.pointer (some ⟨b2, 0, none⟩)), (5, Value.pointer (some ⟨b3, 0, none⟩)), (6, Value.pointer (some ⟨b4, 0, none⟩)), (18, Value.bool (decide (x21 < x14)))]) (fun K => by kernel_rfl) (by kernel_rfl) (by kernel_rfl) (by kernel_rfl) ?_
  refine WD.done (by kernel_rfl) ?_
  refine PO.nx ?_
  rcases cond_some H with ⟨h23, H⟩ | ⟨h23, H⟩
  · refine U.asW (t := 18) (congrArg Value.bool h23) (by kernel_rfl) ?_
    refine WP.condT (by kernel_rfl) ?_
    refine WP.seq (by kernel_rfl) ?_
    refine WP.reg (by kernel_rfl) ?_
    refine U.seg 1 [] [(0, .st 4)] (fun K => (b4 = b4) ∧ (K [] ((6, Ent.blk b18 42 [Value.int .i64 x7, Value.int .i64 x8]) :: (5, Ent.blk b17 42 [Value.int .i64 x5, Value.int .i64 x6]) :: (1, Ent.ob b1 (.loop (lbusy b9 T10 #[11, 12] (C_69.r.l.r.l.l) (C_69.r.l.r.l.r) b11))) :: (2, Ent.blk b2 42 [Value.int .i64 x12, Value.int .i64 x13]) :: (3, Ent.blk b3 3 [Value.int .i64 x14]) :: (4, Ent.blk b4 4 [Value.bool false]) :: fr))) (fun K => by kernel_rfl) 1 (by kernel_rfl) ?_
    refine ⟨rfl, ?_⟩
    refine WO.done (by kernel_rfl) ?_
    refine PO.nx ?_
    refine WP.ret (by kernel_rfl) ?_
    refine PO.blk_ret ?_
    have hr := Option.some.inj H
    subst hr
    refine U.rd_ret (t := 1) [Code.ret] 1 ((6, Ent.blk b18 42 [Value.int .i64 x7, Value.int .i64 x8]) :: (5, Ent.blk b17 42 [Value.int .i64 x5, Value.int .i64 x6]) :: (1, Ent.ob b1 (.loop (lrec b9 T10 #[11, 12] (C_69.r.l.r.l.l) (C_69.r.l.r.l.r) b11 [Code.ret] 1))) :: (2, Ent.blk b2 42 [Value.int .i64 x12, Value.int .i64 x13]) :: (3, Ent.blk b3 3 [Value.int .i64 x14]) :: (4, Ent.blk b4 4 [Value.bool false]) :: fr) (by kernel_rfl) rfl rfl (by decide) ?_
    exact fun w hw => Ret.mk () trivial rfl (okNT 6 [(1, 2), (2, 3), (3, 4), (4, 5)] (by kernel_rfl) rfl hw)
  · refine U.asW (t := 18) (congrArg Value.bool h23) (by kernel_rfl) ?_
    refine WP.condF (by kernel_rfl) ?_
    refine WP.skip (by kernel_rfl) ?_
    refine PO.blk_normal ?_
    have hr := Option.some.inj H
    subst hr
    refine U.rd_end (t := 1) [Code.ret] ((6, Ent.blk b18 42 [Value.int .i64 x7, Value.int .i64 x8]) :: (5, Ent.blk b17 42 [Value.int .i64 x5, Value.int .i64 x6]) :: (1, Ent.ob b1 (.loop (lrec b9 T10 #[11, 12] (C_69.r.l.r.l.l) (C_69.r.l.r.l.r) b11 [Code.ret] 0))) :: (2, Ent.blk b2 42 [Value.int .i64 x12, Value.int .i64 x13]) :: (3, Ent.blk b3 3 [Value.int .i64 x14]) :: (4, Ent.blk b4 4 [Value.bool x15]) :: fr) (by kernel_rfl) rfl ?_
    exact fun w hw => Ret.mk () trivial rfl (okNT 6 [(1, 2), (2, 3), (3, 4), (4, 5)] (by kernel_rfl) rfl hw)

set_option maxRecDepth 100000 in
theorem c_f156 (kk : Nat) (x6 : Int) (x10 : (List (Int × Int))) (x14 : Int) (x15 : Int) (x16 : Int) (x17 : Bool) (b1 : Nat) (b2 : Nat) (b3 : Nat) (b4 : Nat) (b5 : Nat) (b7 : Nat) (T8 : Array Value) (b9 : Nat) (a11 : Option Addr) (c12 : Nat) {g : GH} (h18 : EnvA 19 [(4, Value.pointer (some ⟨b3, 0, none⟩)), (5, Value.pointer (some ⟨b4, 0, none⟩)), (6, Value.pointer (some ⟨b5, 0, none⟩))] T8) (h19 : Sl (Kd.pair (Kd.int .i64) (Kd.int .i64)) g a11 (List.length x10) c12 x10) {r : (Int × Bool)} (H : m_f156 kk x6 x10 x14 x15 x16 x17 = some r) {fr : Hs} {w : World} (hw : Ok g ((1, Ent.ob b1 (.loop (lrec b7 T8 #[11, 12] (C_69.r.l.r.l.l) (C_69.r.l.r.l.r) b9 [Code.ret] x6))) :: (2, Ent.blk b2 22 [Value.slice a11 (List.length x10) c12]) :: (3, Ent.blk b3 42 [Value.int .i64 x14, Value.int .i64 x15]) :: (4, Ent.blk b4 3 [Value.int .i64 x16]) :: (5, Ent.blk b5 4 [Value.bool x17]) :: fr) w) :
    Calls Try.prog 156 (List.toArray [yv b1, Value.pointer (some ⟨b2, 0, none⟩)]) w (Ret (fun _ : Unit => True) (fun _ => Value.tuple #[]) (fun _ => g) (fun _ => ((1, Ent.ob b1 (.loop (lrec b7 T8 #[11, 12] (C_69.r.l.r.l.l) (C_69.r.l.r.l.r) b9 [Code.ret] r.1))) :: (2, Ent.blk b2 22 [Value.slice a11 (List.length x10) c12]) :: (3, Ent.blk b3 42 [Value.int .i64 x14, Value.int .i64 x15]) :: (4, Ent.blk b4 3 [Value.int .i64 x16]) :: (5, Ent.blk b5 4 [Value.bool r.2]) :: fr))) := by
  refine fn_wp (args := [yv b1, Value.pointer (some ⟨b2, 0, none⟩)]) (c := C_156) Try.func156 (by kernel_rfl) Try.ntmps156 (by kernel_rfl) ?_ hw
  unfold m_f156 at H
  refine WP.seq (by kernel_rfl) ?_
  refine WP.reg (by kernel_rfl) ?_
  refine U.seg 3 [0, 1, 5, 6, 7] [(0, .ld 2)] (fun K => (b2 = b2) ∧ (K [(0, yv b1), (1, Value.pointer (some ⟨b2, 0, none⟩)), (5, Value.slice a11 (List.length x10) c12), (6, Value.int .i64 ((List.length x10) : Int)), (7, Value.int .i64 0)] ((1, Ent.ob b1 (.loop (lrec b7 T8 #[11, 12] (C_69.r.l.r.l.l) (C_69.r.l.r.l.r) b9 [Code.ret] x6))) :: (2, Ent.blk b2 22 [Value.slice a11 (List.length x10) c12]) :: (3, Ent.blk b3 42 [Value.int .i64 x14, Value.int .i64 x15]) :: (4, Ent.blk b4 3 [Value.int .i64 x16]) :: (5, Ent.blk b5 4 [Value.bool x17]) :: fr))) (fun K => by kernel_rfl) 3 (by kernel_rfl) ?_
  refine ⟨rfl, ?_⟩
  refine WO.done (by kernel_rfl) ?_
  refine PO.nx ?_
  refine WP.join (fun s => ∃ (x137 : Int) (x138 : Bool), f156_j2 kk x137 x138 = some r ∧ s = { n := 25, e := [], d := [], g := g, h := ((1, Ent.ob b1 (.loop (lrec b7 T8 #[11, 12] (C_69.r.l.r.l.l) (C_69.r.l.r.l.r) b9 [Code.ret] x137))) :: (2, Ent.blk b2 22 [Value.slice a11 (List.length x10) c12]) :: (3, Ent.blk b3 42 [Value.int .i64 x14, Value.int .i64 x15]) :: (4, Ent.blk b4 3 [Value.int .i64 x16]) :: (5, Ent.blk b5 4 [Value.bool x138]) :: fr) }) ?_ ?_
  · refine WP.block (id := 0) (by kernel_rfl) ?_
    obtain ⟨o94, h136, h97⟩ := bnd_some H
    refine WP.loopW (by kernel_rfl) (fun n s => ∃ (x91 : Int) (x92 : Int) (x93 : Bool), iter (fun y : (Int × Int × Bool) => f156_l1 kk y.1 y.2.1 y.2.2 x10 x14 x15 x16) n (x91, x92, x93) = some o94 ∧ s = { n := 25, e := [(0, yv b1), (1, Value.pointer (some ⟨b2, 0, none⟩)), (5, Value.slice a11 (List.length x10) c12), (6, Value.int .i64 ((List.length x10) : Int)), (7, Value.int .i64 x91)], d := [], g := g, h := ((1, Ent.ob b1 (.loop (lrec b7 T8 #[11, 12] (C_69.r.l.r.l.l) (C_69.r.l.r.l.r) b9 [Code.ret] x92))) :: (2, Ent.blk b2 22 [Value.slice a11 (List.length x10) c12]) :: (3, Ent.blk b3 42 [Value.int .i64 x14, Value.int .i64 x15]) :: (4, Ent.blk b4 3 [Value.int .i64 x16]) :: (5, Ent.blk b5 4 [Value.bool x93]) :: fr) }) (k := kk) ⟨0, x6, x17, h136, rfl⟩ (St.ok.to [0, 1, 5, 6, 7] 5 [(1, 0), (2, 1), (3, 2), (4, 3), (5, 4)] (by kernel_rfl) rfl (by kernel_rfl) rfl rfl (by kernel_rfl)) ?_
    intro n131 s
    rintro ⟨x91, x92, x93, h132, rfl⟩
    obtain ⟨n98, q95, h134, h135, h96⟩ := iter_some h132
    subst h134
    have H : f156_l1 kk x91 x92 x93 x10 x14 x15 x16 = some q95 := h135
    unfold f156_l1 at H
    refine WP.seq (by kernel_rfl) ?_
    refine WP.reg (by kernel_rfl) ?_
    refine U.seg 1 [0, 1, 5, 6, 7, 8] [] (fun K => K [(0, yv b1), (1, Value.pointer (some ⟨b2, 0, none⟩)), (5, Value.slice a11 (List.length x10) c12), (6, Value.int .i64 ((List.length x10) : Int)), (7, Value.int .i64 x91), (8, Value.bool (decide (x91 < ((List.length x10) : Int))))] ((1, Ent.ob b1 (.loop (lrec b7 T8 #[11, 12] (C_69.r.l.r.l.l) (C_69.r.l.r.l.r) b9 [Code.ret] x92))) :: (2, Ent.blk b2 22 [Value.slice a11 (List.length x10) c12]) :: (3, Ent.blk b3 42 [Value.int .i64 x14, Value.int .i64 x15]) :: (4, Ent.blk b4 3 [Value.int .i64 x16]) :: (5, Ent.blk b5 4 [Value.bool x93]) :: fr)) (fun K => by kernel_rfl) 1 (by kernel_rfl) ?_
    refine WO.done (by kernel_rfl) ?_
    refine PO.nx ?_
    refine WP.seq (by kernel_rfl) ?_
    rcases cond_some H with ⟨h99, H⟩ | ⟨h99, H⟩
    · refine U.asW (t := 8) (congrArg Value.bool h99) (by kernel_rfl) ?_
      refine WP.condT (by kernel_rfl) ?_
      refine WP.skip (by kernel_rfl) ?_
      refine PO.nx ?_
      refine WP.seq (by kernel_rfl) ?_
      refine WP.block (id := 1) (by kernel_rfl) ?_
      refine WP.seq (by kernel_rfl) ?_
      refine WP.reg (by kernel_rfl) ?_
      obtain ⟨x100, h101, H⟩ := bnd_some H
      obtain ⟨h102, s103, h104, h105⟩ := Sl.at' (d := (Kd.pair (Kd.int .i64) (Kd.int .i64))) h19 h101
      obtain ⟨_, _, rfl, rfl, rfl⟩ := h104
      refine U.seg 6 [0, 1, 3, 4, 5, 6, 7] [(1, .s), (2, .lg (Value.agg #[Value.int .i64 x100.1, Value.int .i64 x100.2])), (3, .al 8), (5, .st 8)] (fun K => ((0 : Int) ≤ x91 ∧ x91 < ((List.length x10) : Nat) ∧ FlatA a11 (List.length x10)) ∧ ((GLoad g ⟨ab a11, ao a11 + (Int.toNat (x91)) * 2, none⟩ true 2 (Value.agg #[Value.int .i64 x100.1, Value.int .i64 x100.2])) ∧ (∀ b106 : Nat, (b106 = b106) ∧ (K [(0, yv b1), (1, Value.pointer (some ⟨b2, 0, none⟩)), (3, Value.int .i64 x91), (4, Value.pointer (some ⟨b106, 0, none⟩)), (5, Value.slice a11 (List.length x10) c12), (6, Value.int .i64 ((List.length x10) : Int)), (7, Value.int .i64 x91)] ((8, Ent.blk b106 42 [Value.int .i64 x100.1, Value.int .i64 x100.2]) :: (1, Ent.ob b1 (.loop (lrec b7 T8 #[11, 12] (C_69.r.l.r.l.l) (C_69.r.l.r.l.r) b9 [Code.ret] x92))) :: (2, Ent.blk b2 22 [Value.slice a11 (List.length x10) c12]) :: (3, Ent.blk b3 42 [Value.int .i64 x14, Value.int .i64 x15]) :: (4, Ent.blk b4 3 [Value.int .i64 x16]) :: (5, Ent.blk b5 4 [Value.bool x93]) :: fr))))) (fun K => by kernel_rfl) 6 (by kernel_rfl) ?_
      refine ⟨h102, ?_⟩
      refine ⟨(h105 _ 0 _ _ _ rfl rfl rfl (OwnRead.agg rfl rfl)), ?_⟩
      intro b106
      refine ⟨rfl, ?_⟩
      refine WO.done (by kernel_rfl) ?_
      refine PO.nx ?_
      refine WP.seq (by kernel_rfl) ?_
      refine U.draw [] g [(8, Ent.blk b106 42 [Value.int .i64 x100.1, Value.int .i64 x100.2]), (2, Ent.blk b2 22 [Value.slice a11 (List.length x10) c12]), (3, Ent.blk b3 42 [Value.int .i64 x14, Value.int .i64 x15]), (4, Ent.blk b4 3 [Value.int .i64 x16])] (by kernel_rfl) (by kernel_rfl) 12 (by kernel_rfl) (fun w hw => Ok.pickTo [(8, 0), (2, 2), (3, 3), (4, 4)] (by kernel_rfl) (by kernel_rfl) (GH.le_refl _) hw) ?_
      obtain ⟨h117, H⟩ := grd_some H
      obtain ⟨x118, h119, H⟩ := bnd_some H
      obtain ⟨h120, s121, h122, h123⟩ := Sl.at' (d := (Kd.pair (Kd.int .i64) (Kd.int .i64))) h19 h119
      obtain ⟨_, _, rfl, rfl, rfl⟩ := h122
      refine U.take 2 [0, 1, 2, 3, 4, 5, 6, 7, 8, 9] [0, 1, 5, 6, 7, 12, 13, 21] [9, 8, 7, 6, 5, 4, 3, 2, 1, 0] [(1, .ld 8), (2, .ld 2), (5, .ld 2), (7, .s), (8, .s), (9, .lg (Value.agg #[Value.int .i64 x118.1, Value.int .i64 x118.2]))] (fun K => (b106 = b106) ∧ ((b2 = b2) ∧ ((b2 = b2) ∧ ((((List.length x10) : Int) ≠ (0 : Int)) ∧ (((0 : Int) ≤ (Int.tmod (w64 (x91 + 1)) ((List.length x10) : Int)) ∧ (Int.tmod (w64 (x91 + 1)) ((List.length x10) : Int)) < ((List.length x10) : Nat) ∧ FlatA a11 (List.length x10)) ∧ ((GLoad g ⟨ab a11, ao a11 + (Int.toNat ((Int.tmod (w64 (x91 + 1)) ((List.length x10) : Int)))) * 2, none⟩ true 2 (Value.agg #[Value.int .i64 x118.1, Value.int .i64 x118.2])) ∧ (K [(0, yv b1), (1, Value.pointer (some ⟨b2, 0, none⟩)), (5, Value.slice a11 (List.length x10) c12), (6, Value.int .i64 ((List.length x10) : Int)), (7, Value.int .i64 x91), (12, yv b1), (13, Value.agg #[Value.int .i64 x100.1, Value.int .i64 x100.2]), (21, Value.agg #[Value.int .i64 x118.1, Value.int .i64 x118.2])]))))))) (fun K => by kernel_rfl) (by kernel_rfl) (by kernel_rfl) (by kernel_rfl) ?_
      refine ⟨rfl, ?_⟩
      refine ⟨rfl, ?_⟩
      refine ⟨rfl, ?_⟩
      refine ⟨h117, ?_⟩
      refine ⟨h120, ?_⟩
      refine ⟨(h123 _ 0 _ _ _ rfl rfl rfl (OwnRead.agg rfl rfl)), ?_⟩
      obtain ⟨h124, H⟩ := grd_some H
      refine U.eqSD [(0, yv b1), (1, Value.pointer (some ⟨b2, 0, none⟩)), (5, Value.slice a11 (List.length x10) c12), (6, Value.int .i64 ((List.length x10) : Int)), (7, Value.int .i64 x91), (12, yv b1), (13, Value.agg #[Value.int .i64 x100.1, Value.int .i64 x100.2]), (21, Value.agg #[Value.int .i64 x118.1, Value.int .i64 x118.2])] ((8, Ent.blk b106 42 [Value.int .i64 x100.1, Value.int .i64 x100.2]) :: (1, Ent.ob b1 (.loop (lrec b7 T8 #[11, 12] (C_69.r.l.r.l.l) (C_69.r.l.r.l.r) b9 [Code.ret] 0))) :: (2, Ent.blk b2 22 [Value.slice a11 (List.length x10) c12]) :: (3, Ent.blk b3 42 [Value.int .i64 x14, Value.int .i64 x15]) :: (4, Ent.blk b4 3 [Value.int .i64 x16]) :: (5, Ent.blk b5 4 [Value.bool x93]) :: fr) rfl (by rw [h124]) ?_
      obtain ⟨x125, h126, H⟩ := bnd_some H
      refine U.force 1 10 (by kernel_rfl) (by kernel_rfl) (U.yield (dst := some 22) (t := 1) (D := b9) (js := [Code.ret]) (fun w hw => c_f69r0 kk x100.1 x100.2 x118.1 x118.2 x14 x15 x16 x93 b1 b3 b4 b5 b7 T8 b9 h18 h126 (okNT 6 [(1, 1), (2, 3), (3, 4), (4, 5), (8, 0), (2, 2)] (by kernel_rfl) rfl hw)) (by kernel_rfl) (by kernel_rfl) rfl) ?_
      rintro _ _
      refine ⟨(fun w hw => .inr (Ok.pickTo [(8, 4), (2, 5), (3, 1), (4, 2)] (by kernel_rfl) (by kernel_rfl) (GH.le_refl _) hw)), ?_⟩
      refine U.pickD  6 [(1, 0), (3, 1), (4, 2), (5, 3), (8, 4), (2, 5)] ((1, Ent.ob b1 (.loop (lrec b7 T8 #[11, 12] (C_69.r.l.r.l.l) (C_69.r.l.r.l.r) b9 [Code.ret] x125.2.1))) :: (3, Ent.blk b3 42 [Value.int .i64 x14, Value.int .i64 x15]) :: (4, Ent.blk b4 3 [Value.int .i64 x16]) :: (5, Ent.blk b5 4 [Value.bool x125.2.2]) :: (8, Ent.blk b106 42 [Value.int .i64 x100.1, Value.int .i64 x100.2]) :: (2, Ent.blk b2 22 [Value.slice a11 (List.length x10) c12]) :: fr) (by kernel_rfl) rfl ?_
      refine U.take 0 [11] [0, 1, 5, 6, 7, 23] [11, 10, 9, 8, 7, 6, 5, 4, 3, 2, 1, 0] [] (fun K => K [(0, yv b1), (1, Value.pointer (some ⟨b2, 0, none⟩)), (5, Value.slice a11 (List.length x10) c12), (6, Value.int .i64 ((List.length x10) : Int)), (7, Value.int .i64 x91), (23, Value.bool (!x125.1))]) (fun K => by kernel_rfl) (by kernel_rfl) (by kernel_rfl) (by kernel_rfl) ?_
      refine WD.done (by kernel_rfl) ?_
      refine PO.nx ?_
      rcases cond_some H with ⟨h127, H⟩ | ⟨h127, H⟩
      · refine U.asW (t := 23) (congrArg Value.bool h127) (by kernel_rfl) ?_
        refine WP.condT (by kernel_rfl) ?_
        refine WP.ret (by kernel_rfl) ?_
        refine PO.blk_ret ?_
        refine PO.nx_ret ?_
        refine PO.lp_ret ?_
        refine PO.blk_ret ?_
        refine PO.jn_ret ?_
        have hq := Option.some.inj H
        subst hq
        have H := h97
        rw [← (show _ = o94 from h96)] at H
        have H : some (x125.2.1, x125.2.2) = some r := H
        have hr := Option.some.inj H
        subst hr
        refine PO.body [] ((1, Ent.ob b1 (.loop (lrec b7 T8 #[11, 12] (C_69.r.l.r.l.l) (C_69.r.l.r.l.r) b9 [Code.ret] x125.2.1))) :: (3, Ent.blk b3 42 [Value.int .i64 x14, Value.int .i64 x15]) :: (4, Ent.blk b4 3 [Value.int .i64 x16]) :: (5, Ent.blk b5 4 [Value.bool x125.2.2]) :: (8, Ent.blk b106 42 [Value.int .i64 x100.1, Value.int .i64 x100.2]) :: (2, Ent.blk b2 22 [Value.slice a11 (List.length x10) c12]) :: fr) rfl Res.nil ?_
        exact fun w hw => Ret.mk () trivial rfl (okNT 6 [(1, 0), (2, 5), (3, 1), (4, 2), (5, 3)] (by kernel_rfl) rfl hw)
      · refine U.asW (t := 23) (congrArg Value.bool h127) (by kernel_rfl) ?_
        refine WP.condF (by kernel_rfl) ?_
        refine WP.skip (by kernel_rfl) ?_
        refine PO.blk_normal ?_
        refine PO.nx ?_
        refine WP.reg (by kernel_rfl) ?_
        refine U.seg 2 [0, 1, 5, 6, 7] [] (fun K => K [(0, yv b1), (1, Value.pointer (some ⟨b2, 0, none⟩)), (5, Value.slice a11 (List.length x10) c12), (6, Value.int .i64 ((List.length x10) : Int)), (7, Value.int .i64 (w64 (x91 + 1)))] ((1, Ent.ob b1 (.loop (lrec b7 T8 #[11, 12] (C_69.r.l.r.l.l) (C_69.r.l.r.l.r) b9 [Code.ret] x125.2.1))) :: (3, Ent.blk b3 42 [Value.int .i64 x14, Value.int .i64 x15]) :: (4, Ent.blk b4 3 [Value.int .i64 x16]) :: (5, Ent.blk b5 4 [Value.bool x125.2.2]) :: (8, Ent.blk b106 42 [Value.int .i64 x100.1, Value.int .i64 x100.2]) :: (2, Ent.blk b2 22 [Value.slice a11 (List.length x10) c12]) :: fr)) (fun K => by kernel_rfl) 2 (by kernel_rfl) ?_
        refine WO.done (by kernel_rfl) ?_
        have hq := Option.some.inj H
        subst hq
        refine PO.againW ⟨(w64 (x91 + 1)), x125.2.1, x125.2.2, h96, rfl⟩ ?_ (Nat.lt_succ_self _)
        exact (St.ok.to [0, 1, 5, 6, 7] 6 [(1, 0), (2, 5), (3, 1), (4, 2), (5, 3)] (by kernel_rfl) rfl (by kernel_rfl) rfl rfl (by kernel_rfl))
    · refine U.asW (t := 8) (congrArg Value.bool h99) (by kernel_rfl) ?_
      refine WP.condF (by kernel_rfl) ?_
      refine WP.exit (id := 0) (by kernel_rfl) ?_
      refine PO.nx_exit ?_
      refine PO.lp_exit ?_
      refine PO.blk_exit ?_
      have hq := Option.some.inj H
      subst hq
      have H := h97
      rw [← (show _ = o94 from h96)] at H
      have H : f156_j2 kk x92 x93 = some r := H
      refine PO.jn ⟨x92, x93, H, rfl⟩ ?_
      exact (St.ok.to [] 5 [(1, 0), (2, 1), (3, 2), (4, 3), (5, 4)] (by kernel_rfl) rfl (by kernel_rfl) rfl rfl (by kernel_rfl))
  · rintro _ ⟨x137, x138, H, rfl⟩
    unfold f156_j2 at H
    have hr := Option.some.inj H
    subst hr
    refine PO.bodyN ?_
    refine PO.body [] ((1, Ent.ob b1 (.loop (lrec b7 T8 #[11, 12] (C_69.r.l.r.l.l) (C_69.r.l.r.l.r) b9 [Code.ret] x137))) :: (2, Ent.blk b2 22 [Value.slice a11 (List.length x10) c12]) :: (3, Ent.blk b3 42 [Value.int .i64 x14, Value.int .i64 x15]) :: (4, Ent.blk b4 3 [Value.int .i64 x16]) :: (5, Ent.blk b5 4 [Value.bool x138]) :: fr) rfl Res.nil ?_
    exact fun w hw => Ret.mk () trivial rfl (okNT 5 [(1, 0), (2, 1), (3, 2), (4, 3), (5, 4)] (by kernel_rfl) rfl hw)

set_option maxRecDepth 100000 in
theorem c_f69 (kk : Nat) (x1 : (List (Int × Int))) (x5 : Int) (x6 : Int) (x7 : Int) (a2 : Option Addr) (c3 : Nat) {g : GH} (h8 : Sl (Kd.pair (Kd.int .i64) (Kd.int .i64)) g a2 (List.length x1) c3 x1) {r : Bool} (H : m_f69 kk x1 x5 x6 x7 = some r) {fr : Hs} {w : World} (hw : Ok g (fr) w) :
    Calls Try.prog 69 (List.toArray [Value.slice a2 (List.length x1) c3, Value.agg #[Value.int .i64 x5, Value.int .i64 x6], Value.int .i64 x7]) w (Ret (fun _ : Unit => True) (fun _ => Value.bool r) (fun _ => g) (fun _ => (fr))) := by
  refine fn_wp (args := [Value.slice a2 (List.length x1) c3, Value.agg #[Value.int .i64 x5, Value.int .i64 x6], Value.int .i64 x7]) (c := C_69) Try.func69 (by kernel_rfl) Try.ntmps69 (by kernel_rfl) ?_ hw
  unfold m_f69 at H
  refine WP.seq (by kernel_rfl) ?_
  refine WP.reg (by kernel_rfl) ?_
  refine U.seg 3 [0, 4, 5, 6] [(0, .al 1), (1, .al 2), (2, .al 3)] (fun K => ∀ b9 : Nat, ∀ b10 : Nat, ∀ b11 : Nat, K [(0, Value.slice a2 (List.length x1) c3), (4, Value.pointer (some ⟨b9, 0, none⟩)), (5, Value.pointer (some ⟨b10, 0, none⟩)), (6, Value.pointer (some ⟨b11, 0, none⟩))] ((3, Ent.blk b11 4 [Value.bool false]) :: (2, Ent.blk b10 3 [Value.int .i64 x7]) :: (1, Ent.blk b9 42 [Value.int .i64 x5, Value.int .i64 x6]) :: fr)) (fun K => by kernel_rfl) 3 (by kernel_rfl) ?_
  intro b9
  intro b10
  intro b11
  refine WO.done (by kernel_rfl) ?_
  refine PO.nx ?_
  refine WP.seq (by kernel_rfl) ?_
  refine WP.seq (by kernel_rfl) ?_
  refine WP.reg (by kernel_rfl) ?_
  refine U.seg 1 [4, 5, 6, 9] [] (fun K => K [(4, Value.pointer (some ⟨b9, 0, none⟩)), (5, Value.pointer (some ⟨b10, 0, none⟩)), (6, Value.pointer (some ⟨b11, 0, none⟩)), (9, Value.slice a2 (List.length x1) c3)] ((3, Ent.blk b11 4 [Value.bool false]) :: (2, Ent.blk b10 3 [Value.int .i64 x7]) :: (1, Ent.blk b9 42 [Value.int .i64 x5, Value.int .i64 x6]) :: fr)) (fun K => by kernel_rfl) 1 (by kernel_rfl) ?_
  obtain ⟨x12, h13, H⟩ := bnd_some H
  refine U.step 2 (by kernel_rfl) (U.call (dst := some 10) (fun w hw => c_f114 kk x1 a2 c3 h8 h13 hw) (by kernel_rfl) (enters_of Try.func114 (by kernel_rfl) rfl)) ?_
  rintro ⟨g14, b16, a17, c18⟩ ⟨h15, h20⟩
  refine U.pick  4 [(4, 0), (3, 1), (2, 2), (1, 3)] ((4, Ent.blk b16 22 [Value.slice a17 (List.length x12) c18]) :: (3, Ent.blk b11 4 [Value.bool false]) :: (2, Ent.blk b10 3 [Value.int .i64 x7]) :: (1, Ent.blk b9 42 [Value.int .i64 x5, Value.int .i64 x6]) :: fr) (by kernel_rfl) rfl ?_
  refine WO.done (by kernel_rfl) ?_
  refine PO.nx ?_
  refine WP.block (id := 0) (by kernel_rfl) ?_
  refine U.selW [4, 5, 6, 10] [(4, Value.pointer (some ⟨b9, 0, none⟩)), (5, Value.pointer (some ⟨b10, 0, none⟩)), (6, Value.pointer (some ⟨b11, 0, none⟩)), (10, Value.func (.func 156) #[] #[Value.pointer (some ⟨b16, 0, none⟩)])] rfl ?_
  obtain ⟨x26, h27, H⟩ := bnd_some H
  refine U.range (K := 156) (first := []) (cap := [Value.pointer (some ⟨b16, 0, none⟩)]) (ps := #[11, 12]) [Code.ret] 5 6 1 (by kernel_rfl) (enters_of Try.func156 (by kernel_rfl) rfl) (fun b24 T23 b22 b21 h25 => ⟨_, _, _, _, _, fun w hw => c_f156 kk 0 x12 x5 x6 x7 false b21 b16 b9 b10 b11 b24 T23 b22 a17 c18 (h25.sel [4, 5, 6] rfl) h20 h27 (okNT 6 [(1, 0), (2, 2), (3, 5), (4, 4), (5, 3), (6, 1)] (by kernel_rfl) rfl hw), ?_⟩)
  rintro _ _
  refine ⟨x26.1, by kernel_rfl, ?_⟩
  refine U.pickJ 5 [(4, 0), (1, 1), (2, 2), (3, 3), (6, 4)] ((4, Ent.blk b16 22 [Value.slice a17 (List.length x12) c18]) :: (1, Ent.blk b9 42 [Value.int .i64 x5, Value.int .i64 x6]) :: (2, Ent.blk b10 3 [Value.int .i64 x7]) :: (3, Ent.blk b11 4 [Value.bool x26.2]) :: (6, Ent.ob b22 (.deferred (some []))) :: fr) (by kernel_rfl) rfl ?_
  rcases cond_some H with ⟨h29, H⟩ | ⟨h29, H⟩
  · refine PJ.zero (by simpa using h29) ?_
    refine PO.blk_normal ?_
    refine PO.nx ?_
    refine WP.seq (by kernel_rfl) ?_
    refine WP.reg (by kernel_rfl) ?_
    refine U.seg 1 [6] [(0, .st 3)] (fun K => (b11 = b11) ∧ (K [(6, Value.pointer (some ⟨b11, 0, none⟩))] ((4, Ent.blk b16 22 [Value.slice a17 (List.length x12) c18]) :: (1, Ent.blk b9 42 [Value.int .i64 x5, Value.int .i64 x6]) :: (2, Ent.blk b10 3 [Value.int .i64 x7]) :: (3, Ent.blk b11 4 [Value.bool true]) :: (6, Ent.ob b22 (.deferred (some []))) :: fr))) (fun K => by kernel_rfl) 1 (by kernel_rfl) ?_
    refine ⟨rfl, ?_⟩
    refine WO.done (by kernel_rfl) ?_
    refine PO.nx ?_
    refine WP.ret (by kernel_rfl) ?_
    have hr := Option.some.inj H
    subst hr
    refine PO.body [Value.bool true] ((4, Ent.blk b16 22 [Value.slice a17 (List.length x12) c18]) :: (1, Ent.blk b9 42 [Value.int .i64 x5, Value.int .i64 x6]) :: (2, Ent.blk b10 3 [Value.int .i64 x7]) :: (3, Ent.blk b11 4 [Value.bool true]) :: (6, Ent.ob b22 (.deferred none)) :: fr) ⟨b22, 6, rfl, by kernel_rfl, rfl⟩ (Res.cell b11 0 3 (Ent.blk b11 4 [Value.bool true]) [Value.bool true] false 1 (by kernel_rfl) (by kernel_rfl) (by kernel_rfl) (by kernel_rfl) (by kernel_rfl) (OwnRead.one rfl) Res.nil) ?_
    exact fun w hw => Ret.mk () trivial rfl (Ok.gweak h15 (okNT 5 [] (by kernel_rfl) rfl hw))
  · rcases cond_some H with ⟨h30, H⟩ | ⟨h30, H⟩
    · refine PJ.jump 1 (Code.ret) (by simpa using h30) rfl ?_
      refine WP.ret (by kernel_rfl) ?_
      refine PO.blk_ret ?_
      refine PO.nx_ret ?_
      have hr := Option.some.inj H
      subst hr
      refine PO.body [Value.bool x26.2] ((4, Ent.blk b16 22 [Value.slice a17 (List.length x12) c18]) :: (1, Ent.blk b9 42 [Value.int .i64 x5, Value.int .i64 x6]) :: (2, Ent.blk b10 3 [Value.int .i64 x7]) :: (3, Ent.blk b11 4 [Value.bool x26.2]) :: (6, Ent.ob b22 (.deferred none)) :: fr) ⟨b22, 6, rfl, by kernel_rfl, rfl⟩ (Res.cell b11 0 3 (Ent.blk b11 4 [Value.bool x26.2]) [Value.bool x26.2] false 1 (by kernel_rfl) (by kernel_rfl) (by kernel_rfl) (by kernel_rfl) (by kernel_rfl) (OwnRead.one rfl) Res.nil) ?_
      exact fun w hw => Ret.mk () trivial rfl (Ok.gweak h15 (okNT 5 [] (by kernel_rfl) rfl hw))
    · cases H

end Go.Proofs.Ytmkjcahdjphimaa
