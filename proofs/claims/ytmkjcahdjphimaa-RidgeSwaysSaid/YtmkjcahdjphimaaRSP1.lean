/- printed: the walks -/
import Derived.Test.YtmkjcahdjphimaaE15
import Derived.Test.YtmkjcahdjphimaaProg
import Derived.Test.YtmkjcahdjphimaaRSM
namespace Go.Proofs.Ytmkjcahdjphimaa
open Go Go.Eng
def ek_9 (k : ByteArray) : Value := Value.string k
theorem KT_9 : KeyT Try.prog 9 ek_9 qk_9 := KeyT.str (by kernel_rfl) (fun em k w => by kernel_rfl) (fun a b w => eqAt_sound 10000 9 _ _ _ w (by kernel_rfl))
def ek_112 (k : (List Int)) : Value := .agg ((arrC 8 .i64 k)).toArray
theorem KT_112 : KeyT Try.prog 112 ek_112 qk_112 := KeyT.agg (enc' := fun k => (arrC 8 .i64 k)) (by kernel_rfl) (fun em k w => by kernel_rfl) (fun a b w => eqAt_sound 10000 112 _ _ _ w (by kernel_rfl)) (fun a b h => arrC_same h) (fun a => arrC_bits)
def ev_4 (v : Bool) : Value := Value.bool v
def ev_114 (v : ((List Int) × Int)) : Value := Value.agg ((arrC 8 .i64 v.1 ++ [Value.int .i64 v.2])).toArray
noncomputable def C_3 : Code := Try.f3.body.getD .skip
noncomputable def C_6 : Code := Try.f6.body.getD .skip
noncomputable def C_7 : Code := Try.f7.body.getD .skip
noncomputable def C_8 : Code := Try.f8.body.getD .skip
noncomputable def C_9 : Code := Try.f9.body.getD .skip
noncomputable def C_10 : Code := Try.f10.body.getD .skip
noncomputable def C_24 : Code := Try.f24.body.getD .skip
noncomputable def C_25 : Code := Try.f25.body.getD .skip
noncomputable def C_26 : Code := Try.f26.body.getD .skip
noncomputable def C_27 : Code := Try.f27.body.getD .skip
noncomputable def C_28 : Code := Try.f28.body.getD .skip
noncomputable def C_29 : Code := Try.f29.body.getD .skip
noncomputable def C_30 : Code := Try.f30.body.getD .skip
noncomputable def C_31 : Code := Try.f31.body.getD .skip
noncomputable def C_32 : Code := Try.f32.body.getD .skip
noncomputable def C_33 : Code := Try.f33.body.getD .skip
noncomputable def C_34 : Code := Try.f34.body.getD .skip
noncomputable def C_35 : Code := Try.f35.body.getD .skip
noncomputable def C_36 : Code := Try.f36.body.getD .skip
noncomputable def C_37 : Code := Try.f37.body.getD .skip
noncomputable def C_38 : Code := Try.f38.body.getD .skip
noncomputable def C_39 : Code := Try.f39.body.getD .skip
noncomputable def C_40 : Code := Try.f40.body.getD .skip
noncomputable def C_41 : Code := Try.f41.body.getD .skip
noncomputable def C_42 : Code := Try.f42.body.getD .skip
noncomputable def C_43 : Code := Try.f43.body.getD .skip
noncomputable def C_61 : Code := Try.f61.body.getD .skip
noncomputable def C_63 : Code := Try.f63.body.getD .skip
noncomputable def C_64 : Code := Try.f64.body.getD .skip
noncomputable def C_65 : Code := Try.f65.body.getD .skip
noncomputable def C_66 : Code := Try.f66.body.getD .skip
noncomputable def C_67 : Code := Try.f67.body.getD .skip
noncomputable def C_68 : Code := Try.f68.body.getD .skip
noncomputable def C_69 : Code := Try.f69.body.getD .skip
noncomputable def C_70 : Code := Try.f70.body.getD .skip
noncomputable def C_71 : Code := Try.f71.body.getD .skip
noncomputable def C_72 : Code := Try.f72.body.getD .skip
noncomputable def C_73 : Code := Try.f73.body.getD .skip
noncomputable def C_74 : Code := Try.f74.body.getD .skip
noncomputable def C_75 : Code := Try.f75.body.getD .skip
noncomputable def C_76 : Code := Try.f76.body.getD .skip
noncomputable def C_77 : Code := Try.f77.body.getD .skip
noncomputable def C_109 : Code := Try.f109.body.getD .skip
noncomputable def C_110 : Code := Try.f110.body.getD .skip
noncomputable def C_111 : Code := Try.f111.body.getD .skip
noncomputable def C_112 : Code := Try.f112.body.getD .skip
noncomputable def C_113 : Code := Try.f113.body.getD .skip
noncomputable def C_114 : Code := Try.f114.body.getD .skip
noncomputable def C_115 : Code := Try.f115.body.getD .skip
noncomputable def C_117 : Code := Try.f117.body.getD .skip
noncomputable def C_118 : Code := Try.f118.body.getD .skip
noncomputable def C_155 : Code := Try.f155.body.getD .skip
noncomputable def C_156 : Code := Try.f156.body.getD .skip
noncomputable def C_157 : Code := Try.f157.body.getD .skip
noncomputable def C_167 : Code := Try.f167.body.getD .skip
def S_f75 (F_f75 : Int → Int → Int → Int → (List (Int × Int)) → (List Int) → (List Int) → Int → (List Int) → Option (Bool × (List Int) × Int)) : Prop := ∀ (x10 : Int) (x11 : Int) (x12 : Int) (x13 : Int) (x14 : (List (Int × Int))) (x18 : (List Int)) (x19 : (List Int)) (x23 : Int) (x24 : (List Int)) (b1 : Nat) (b2 : Nat) (b3 : Nat) (b4 : Nat) (b5 : Nat) (b6 : Nat) (b7 : Nat) (b8 : Nat) (b9 : Nat) (a15 : Option Addr) (c16 : Nat) (b20 : Nat) (T21 : Array Value) (b22 : Nat) (a25 : Option Addr) (c26 : Nat) {g : GH} (h28 : Sl (Kd.pair (Kd.int .i64) (Kd.int .i64)) g a15 (List.length x14) c16 x14) (h29 : x18.length = 8) (h30 : x19.length = 8) (h31 : EnvA 32 [(5, Value.pointer (some ⟨b7, 0, none⟩)), (7, Value.pointer (some ⟨b8, 0, none⟩))] T21) (h32 : Sl (Kd.int .i64) g a25 (List.length x24) c26 x24) {r : (Bool × (List Int) × Int)} (_ : F_f75 x10 x11 x12 x13 x14 x18 x19 x23 x24 = some r) {fr : Hs} {w : World} (_ : Ok g ((1, Ent.blk b1 47 [Value.int .i64 x12, Value.int .i64 x13, Value.slice a15 (List.length x14) c16]) :: (2, Ent.blk b2 172 [yv b6]) :: (3, Ent.blk b3 112 (arrC 8 .i64 x18)) :: (4, Ent.blk b4 112 (arrC 8 .i64 x19)) :: (5, Ent.blk b5 173 ([Value.func (.func 75) #[] #[Value.pointer (some ⟨b1, 0, none⟩), Value.pointer (some ⟨b2, 0, none⟩), Value.pointer (some ⟨b3, 0, none⟩), Value.pointer (some ⟨b4, 0, none⟩), Value.pointer (some ⟨b5, 0, none⟩)]])) :: (6, Ent.ob b6 (.loop (lrec b20 T21 #[20] (C_43.r.r.r.r.r.l.r.l.l) (C_43.r.r.r.r.r.l.r.l.r) b22 [] 0))) :: (7, Ent.blk b7 179 ([Value.func (.func 77) #[] #[Value.pointer (some ⟨b9, 0, none⟩)]])) :: (8, Ent.blk b8 3 [Value.int .i64 x23]) :: (9, Ent.blk b9 53 [Value.slice a25 (List.length x24) c26]) :: fr) w), Calls Try.prog 75 (List.toArray [Value.int .i64 x10, Value.int .i64 x11, Value.pointer (some ⟨b1, 0, none⟩), Value.pointer (some ⟨b2, 0, none⟩), Value.pointer (some ⟨b3, 0, none⟩), Value.pointer (some ⟨b4, 0, none⟩), Value.pointer (some ⟨b5, 0, none⟩)]) w (Ret (fun _ : Unit => List.length r.2.1 = 8) (fun _ => Value.bool r.1) (fun _ => g) (fun _ => ((1, Ent.blk b1 47 [Value.int .i64 x12, Value.int .i64 x13, Value.slice a15 (List.length x14) c16]) :: (2, Ent.blk b2 172 [yv b6]) :: (3, Ent.blk b3 112 (arrC 8 .i64 r.2.1)) :: (4, Ent.blk b4 112 (arrC 8 .i64 x19)) :: (5, Ent.blk b5 173 ([Value.func (.func 75) #[] #[Value.pointer (some ⟨b1, 0, none⟩), Value.pointer (some ⟨b2, 0, none⟩), Value.pointer (some ⟨b3, 0, none⟩), Value.pointer (some ⟨b4, 0, none⟩), Value.pointer (some ⟨b5, 0, none⟩)]])) :: (6, Ent.ob b6 (.loop (lrec b20 T21 #[20] (C_43.r.r.r.r.r.l.r.l.l) (C_43.r.r.r.r.r.l.r.l.r) b22 [] 0))) :: (7, Ent.blk b7 179 ([Value.func (.func 77) #[] #[Value.pointer (some ⟨b9, 0, none⟩)]])) :: (8, Ent.blk b8 3 [Value.int .i64 r.2.2]) :: (9, Ent.blk b9 53 [Value.slice a25 (List.length x24) c26]) :: fr)))

def S_f75_1 (F_f75_1 : Int → Int → Int → Int → (List (Int × Int)) → (List Int) → (List Int) → (List Int) → Int → (List Int) → Int → (List ((List Int) × ((List Int) × Int))) → Int → Int → (List (Int × Int)) → Option (Bool × (List Int) × (List Int) × Int × (List ((List Int) × ((List Int) × Int))))) : Prop := ∀ (x14 : Int) (x15 : Int) (x16 : Int) (x17 : Int) (x18 : (List (Int × Int))) (x22 : (List Int)) (x23 : (List Int)) (x27 : (List Int)) (x28 : Int) (x29 : (List Int)) (x30 : Int) (x31 : (List ((List Int) × ((List Int) × Int)))) (x32 : Int) (x33 : Int) (x34 : (List (Int × Int))) (b1 : Nat) (b2 : Nat) (b3 : Nat) (b4 : Nat) (b5 : Nat) (b6 : Nat) (b7 : Nat) (b8 : Nat) (b9 : Nat) (b10 : Nat) (b11 : Nat) (b12 : Nat) (b13 : Nat) (a19 : Option Addr) (c20 : Nat) (b24 : Nat) (T25 : Array Value) (b26 : Nat) (a35 : Option Addr) (c36 : Nat) {g : GH} (h38 : Sl (Kd.pair (Kd.int .i64) (Kd.int .i64)) g a19 (List.length x18) c20 x18) (h39 : x22.length = 8) (h40 : x23.length = 8) (h41 : EnvA 53 [(2, Value.pointer (some ⟨b7, 0, none⟩)), (3, Value.pointer (some ⟨b8, 0, none⟩)), (4, Value.pointer (some ⟨b9, 0, none⟩)), (6, Value.pointer (some ⟨b10, 0, none⟩)), (7, Value.pointer (some ⟨b11, 0, none⟩))] T25) (h42 : x27.length = 8) (h43 : x29.length = 8) (h44 : Sl (Kd.pair (Kd.int .i64) (Kd.int .i64)) g a35 (List.length x34) c36 x34) {r : (Bool × (List Int) × (List Int) × Int × (List ((List Int) × ((List Int) × Int))))} (_ : F_f75_1 x14 x15 x16 x17 x18 x22 x23 x27 x28 x29 x30 x31 x32 x33 x34 = some r) {fr : Hs} {w : World} (_ : Ok g ((1, Ent.blk b1 47 [Value.int .i64 x16, Value.int .i64 x17, Value.slice a19 (List.length x18) c20]) :: (2, Ent.blk b2 172 [yv b6]) :: (3, Ent.blk b3 112 (arrC 8 .i64 x22)) :: (4, Ent.blk b4 112 (arrC 8 .i64 x23)) :: (5, Ent.blk b5 173 ([Value.func (.func 75) #[] #[Value.pointer (some ⟨b1, 0, none⟩), Value.pointer (some ⟨b2, 0, none⟩), Value.pointer (some ⟨b3, 0, none⟩), Value.pointer (some ⟨b4, 0, none⟩), Value.pointer (some ⟨b5, 0, none⟩)]])) :: (6, Ent.ob b6 (.loop (lrec b24 T25 #[22] (C_33.r.r.r.r.l.r.l.l) (C_33.r.r.r.r.l.r.l.r) b26 [] 0))) :: (7, Ent.blk b7 109 [Value.map (some b12)]) :: (8, Ent.blk b8 110 ([Value.func (.func 33) #[] #[Value.pointer (some ⟨b13, 0, none⟩), Value.pointer (some ⟨b7, 0, none⟩), Value.pointer (some ⟨b8, 0, none⟩)]])) :: (9, Ent.blk b9 112 (arrC 8 .i64 x27)) :: (10, Ent.blk b10 3 [Value.int .i64 x28]) :: (11, Ent.blk b11 114 (arrC 8 .i64 x29 ++ [Value.int .i64 x30])) :: (12, Ent.mp b12 (mpE ek_112 ev_114 x31)) :: (13, Ent.blk b13 47 [Value.int .i64 x32, Value.int .i64 x33, Value.slice a35 (List.length x34) c36]) :: fr) w), Calls Try.prog 75 (List.toArray [Value.int .i64 x14, Value.int .i64 x15, Value.pointer (some ⟨b1, 0, none⟩), Value.pointer (some ⟨b2, 0, none⟩), Value.pointer (some ⟨b3, 0, none⟩), Value.pointer (some ⟨b4, 0, none⟩), Value.pointer (some ⟨b5, 0, none⟩)]) w (Ret (fun _ : Unit => List.length r.2.1 = 8 ∧ List.length r.2.2.1 = 8) (fun _ => Value.bool r.1) (fun _ => g) (fun _ => ((1, Ent.blk b1 47 [Value.int .i64 x16, Value.int .i64 x17, Value.slice a19 (List.length x18) c20]) :: (2, Ent.blk b2 172 [yv b6]) :: (3, Ent.blk b3 112 (arrC 8 .i64 r.2.1)) :: (4, Ent.blk b4 112 (arrC 8 .i64 x23)) :: (5, Ent.blk b5 173 ([Value.func (.func 75) #[] #[Value.pointer (some ⟨b1, 0, none⟩), Value.pointer (some ⟨b2, 0, none⟩), Value.pointer (some ⟨b3, 0, none⟩), Value.pointer (some ⟨b4, 0, none⟩), Value.pointer (some ⟨b5, 0, none⟩)]])) :: (6, Ent.ob b6 (.loop (lrec b24 T25 #[22] (C_33.r.r.r.r.l.r.l.l) (C_33.r.r.r.r.l.r.l.r) b26 [] 0))) :: (7, Ent.blk b7 109 [Value.map (some b12)]) :: (8, Ent.blk b8 110 ([Value.func (.func 33) #[] #[Value.pointer (some ⟨b13, 0, none⟩), Value.pointer (some ⟨b7, 0, none⟩), Value.pointer (some ⟨b8, 0, none⟩)]])) :: (9, Ent.blk b9 112 (arrC 8 .i64 x27)) :: (10, Ent.blk b10 3 [Value.int .i64 x28]) :: (11, Ent.blk b11 114 (arrC 8 .i64 r.2.2.1 ++ [Value.int .i64 r.2.2.2.1])) :: (12, Ent.mp b12 (mpE ek_112 ev_114 r.2.2.2.2)) :: (13, Ent.blk b13 47 [Value.int .i64 x32, Value.int .i64 x33, Value.slice a35 (List.length x34) c36]) :: fr)))

def S_f37 (F_f37 : (List Int) → Int → Int → (List (Int × Int)) → (List ((List Int) × ((List Int) × Int))) → Option ((List Int) × Int × (List ((List Int) × ((List Int) × Int))))) : Prop := ∀ (x5 : (List Int)) (x6 : Int) (x7 : Int) (x8 : (List (Int × Int))) (x12 : (List ((List Int) × ((List Int) × Int)))) (b1 : Nat) (b2 : Nat) (b3 : Nat) (b4 : Nat) (a9 : Option Addr) (c10 : Nat) {g : GH} (h13 : x5.length = 8) (h14 : Sl (Kd.pair (Kd.int .i64) (Kd.int .i64)) g a9 (List.length x8) c10 x8) {r : ((List Int) × Int × (List ((List Int) × ((List Int) × Int))))} (_ : F_f37 x5 x6 x7 x8 x12 = some r) {fr : Hs} {w : World} (_ : Ok g ((1, Ent.blk b1 109 [Value.map (some b4)]) :: (2, Ent.blk b2 47 [Value.int .i64 x6, Value.int .i64 x7, Value.slice a9 (List.length x8) c10]) :: (3, Ent.blk b3 110 ([Value.func (.func 33) #[] #[Value.pointer (some ⟨b2, 0, none⟩), Value.pointer (some ⟨b1, 0, none⟩), Value.pointer (some ⟨b3, 0, none⟩)]])) :: (4, Ent.mp b4 (mpE ek_112 ev_114 x12)) :: fr) w), Calls Try.prog 37 (List.toArray [Value.pointer (some ⟨b1, 0, none⟩), Value.agg ((arrC 8 .i64 x5)).toArray, Value.func (.func 33) #[] #[Value.pointer (some ⟨b2, 0, none⟩), Value.pointer (some ⟨b1, 0, none⟩), Value.pointer (some ⟨b3, 0, none⟩)]]) w (Ret (fun _ : Unit => List.length r.1 = 8) (fun _ => Value.agg ((arrC 8 .i64 r.1 ++ [Value.int .i64 r.2.1])).toArray) (fun _ => g) (fun _ => ((1, Ent.blk b1 109 [Value.map (some b4)]) :: (2, Ent.blk b2 47 [Value.int .i64 x6, Value.int .i64 x7, Value.slice a9 (List.length x8) c10]) :: (3, Ent.blk b3 110 ([Value.func (.func 33) #[] #[Value.pointer (some ⟨b2, 0, none⟩), Value.pointer (some ⟨b1, 0, none⟩), Value.pointer (some ⟨b3, 0, none⟩)]])) :: (4, Ent.mp b4 (mpE ek_112 ev_114 r.2.2)) :: fr)))


set_option maxRecDepth 100000 in
theorem c_f6 (kk : Nat) (x1 : (List (Int × Int))) (x5 : (List ((Int × Int) × (Int × Int)))) (a2 : Option Addr) (c3 : Nat) (a6 : Option Addr) (c7 : Nat) {g : GH} (h9 : Sl (Kd.pair (Kd.int .i64) (Kd.int .i64)) g a2 (List.length x1) c3 x1) (h10 : Sl (Kd.pair (Kd.pair (Kd.int .i64) (Kd.int .i64)) (Kd.pair (Kd.int .i64) (Kd.int .i64))) g a6 (List.length x5) c7 x5) {r : Bool} (H : m_f6 kk x1 x5 = some r) {fr : Hs} {w : World} (hw : Ok g (fr) w) :
    Calls Try.prog 6 (List.toArray [Value.agg #[Value.slice a2 (List.length x1) c3, Value.slice a6 (List.length x5) c7]]) w (Ret (fun _ : Unit => True) (fun _ => Value.bool r) (fun _ => g) (fun _ => (fr))) := by
  refine fn_wp (args := [Value.agg #[Value.slice a2 (List.length x1) c3, Value.slice a6 (List.length x5) c7]]) (c := C_6) Try.func6 (by kernel_rfl) Try.ntmps6 (by kernel_rfl) ?_ hw
  unfold m_f6 at H
  refine WP.seq (by kernel_rfl) ?_
  refine WP.reg (by kernel_rfl) ?_
  refine U.seg 2 [1] [(0, .al 1)] (fun K => ∀ b11 : Nat, K [(1, Value.pointer (some ⟨b11, 0, none⟩))] ((1, Ent.blk b11 25 [Value.slice a2 (List.length x1) c3, Value.slice a6 (List.length x5) c7]) :: fr)) (fun K => by kernel_rfl) 2 (by kernel_rfl) ?_
  intro b11
  refine WO.done (by kernel_rfl) ?_
  refine PO.nx ?_
  refine WP.seq (by kernel_rfl) ?_
  refine WP.join (fun s => ∃ (x13 : Bool), f6_j1 kk x13 = some r ∧ s = { n := 13, e := [(2, Value.bool x13)], d := [], g := g, h := (fr) }) ?_ ?_
  · refine WP.reg (by kernel_rfl) ?_
    refine U.seg 5 [1, 7] [(1, .ld 1)] (fun K => (b11 = b11) ∧ (K [(1, Value.pointer (some ⟨b11, 0, none⟩)), (7, Value.bool (decide (((List.length x1) : Int) > 30)))] ((1, Ent.blk b11 25 [Value.slice a2 (List.length x1) c3, Value.slice a6 (List.length x5) c7]) :: fr))) (fun K => by kernel_rfl) 5 (by kernel_rfl) ?_
    refine ⟨rfl, ?_⟩
    rcases cond_some H with ⟨h12, H⟩ | ⟨h12, H⟩
    · refine U.as (t := 7) (congrArg Value.bool h12) (by kernel_rfl) ?_
      refine U.seg 6 [2] [] (fun K => K [(2, Value.bool true)] ((1, Ent.blk b11 25 [Value.slice a2 (List.length x1) c3, Value.slice a6 (List.length x5) c7]) :: fr)) (fun K => by kernel_rfl) 11 (by kernel_rfl) ?_
      refine WO.done (by kernel_rfl) ?_
      refine PO.jn ⟨true, H, rfl⟩ ?_
      exact (St.ok.to [2] 1 [] (by kernel_rfl) rfl (by kernel_rfl) rfl rfl (by kernel_rfl))
    · refine U.as (t := 7) (congrArg Value.bool h12) (by kernel_rfl) ?_
      refine U.seg 6 [2] [(6, .ld 1)] (fun K => (b11 = b11) ∧ (K [(2, Value.bool (decide (((List.length x5) : Int) > 20)))] ((1, Ent.blk b11 25 [Value.slice a2 (List.length x1) c3, Value.slice a6 (List.length x5) c7]) :: fr))) (fun K => by kernel_rfl) 11 (by kernel_rfl) ?_
      refine ⟨rfl, ?_⟩
      refine WO.done (by kernel_rfl) ?_
      refine PO.jn ⟨(decide (((List.length x5) : Int) > 20)), H, rfl⟩ ?_
      exact (St.ok.to [2] 1 [] (by kernel_rfl) rfl (by kernel_rfl) rfl rfl (by kernel_rfl))
  · rintro _ ⟨x13, H, rfl⟩
    unfold f6_j1 at H
    refine PO.nx ?_
    refine WP.ret (by kernel_rfl) ?_
    have hr := Option.some.inj H
    subst hr
    refine PO.body [Value.bool x13] (fr) rfl (Res.tmp (by kernel_rfl) Res.nil) ?_
    exact fun w hw => Ret.mk () trivial rfl (okNT 0 [] (by kernel_rfl) rfl hw)

set_option maxRecDepth 100000 in
theorem c_f26 (kk : Nat) {g : GH} {r : (Int × Int × Int × (List (ByteArray × Int × Int × Int × Int)))} (H : m_f26 kk = some r) {fr : Hs} {w : World} (hw : Ok g (fr) w) :
    Calls Try.prog 26 (List.toArray []) w (Ret (fun y : (GH) × (Option Addr) × (Nat) => GH.le g y.1 ∧ Sl (Kd.pair Kd.str (Kd.pair (Kd.int .i64) (Kd.pair (Kd.int .i64) (Kd.pair (Kd.int .i64) (Kd.int .i64))))) y.1 y.2.1 (List.length r.2.2.2) y.2.2 r.2.2.2) (fun y => Value.agg #[Value.int .i64 r.1, Value.int .i64 r.2.1, Value.int .i64 r.2.2.1, Value.slice y.2.1 (List.length r.2.2.2) y.2.2]) (fun y => y.1) (fun y => (fr))) := by
  refine fn_wp (args := []) (c := C_26) Try.func26 (by kernel_rfl) Try.ntmps26 (by kernel_rfl) ?_ hw
  unfold m_f26 at H
  refine WP.seq (by kernel_rfl) ?_
  refine WP.reg (by kernel_rfl) ?_
  refine U.seg 1 [0] [(0, .al 1)] (fun K => ∀ b1 : Nat, K [(0, Value.pointer (some ⟨b1, 0, none⟩))] ((1, Ent.blk b1 81 [Value.int .i64 0, Value.int .i64 0, Value.int .i64 0, Value.slice none 0 0]) :: fr)) (fun K => by kernel_rfl) 1 (by kernel_rfl) ?_
  intro b1
  refine WO.done (by kernel_rfl) ?_
  refine PO.nx ?_
  refine WP.seq (by kernel_rfl) ?_
  refine WP.reg (by kernel_rfl) ?_
  have h4 : Rw (Kd.pair Kd.str (Kd.pair (Kd.int .i64) (Kd.pair (Kd.int .i64) (Kd.pair (Kd.int .i64) (Kd.int .i64))))) g [Value.string (⟨#[111, 110, 101]⟩ : ByteArray), Value.int .i64 1, Value.int .i64 0, Value.int .i64 0, Value.int .i64 0, Value.string (⟨#[116, 119, 111]⟩ : ByteArray), Value.int .i64 2, Value.int .i64 0, Value.int .i64 0, Value.int .i64 1, Value.string (⟨#[117, 112]⟩ : ByteArray), Value.int .i64 1, Value.int .i64 0, Value.int .i64 1, Value.int .i64 3, Value.string (⟨#[100, 111, 119, 110]⟩ : ByteArray), Value.int .i64 1, Value.int .i64 1, Value.int .i64 0, Value.int .i64 2] [((⟨#[111, 110, 101]⟩ : ByteArray), (1, (0, (0, 0)))), ((⟨#[116, 119, 111]⟩ : ByteArray), (2, (0, (0, 1)))), ((⟨#[117, 112]⟩ : ByteArray), (1, (0, (1, 3)))), ((⟨#[100, 111, 119, 110]⟩ : ByteArray), (1, (1, (0, 2))))] := ⟨[Value.string (⟨#[111, 110, 101]⟩ : ByteArray), Value.int .i64 1, Value.int .i64 0, Value.int .i64 0, Value.int .i64 0], [Value.string (⟨#[116, 119, 111]⟩ : ByteArray), Value.int .i64 2, Value.int .i64 0, Value.int .i64 0, Value.int .i64 1, Value.string (⟨#[117, 112]⟩ : ByteArray), Value.int .i64 1, Value.int .i64 0, Value.int .i64 1, Value.int .i64 3, Value.string (⟨#[100, 111, 119, 110]⟩ : ByteArray), Value.int .i64 1, Value.int .i64 1, Value.int .i64 0, Value.int .i64 2], rfl, ⟨[Value.string (⟨#[111, 110, 101]⟩ : ByteArray)], ([Value.int .i64 1] ++ ([Value.int .i64 0] ++ ([Value.int .i64 0] ++ [Value.int .i64 0]))), rfl, rfl, ⟨[Value.int .i64 1], ([Value.int .i64 0] ++ ([Value.int .i64 0] ++ [Value.int .i64 0])), rfl, rfl, ⟨[Value.int .i64 0], ([Value.int .i64 0] ++ [Value.int .i64 0]), rfl, rfl, ⟨[Value.int .i64 0], [Value.int .i64 0], rfl, rfl, rfl⟩⟩⟩⟩, ⟨[Value.string (⟨#[116, 119, 111]⟩ : ByteArray), Value.int .i64 2, Value.int .i64 0, Value.int .i64 0, Value.int .i64 1], [Value.string (⟨#[117, 112]⟩ : ByteArray), Value.int .i64 1, Value.int .i64 0, Value.int .i64 1, Value.int .i64 3, Value.string (⟨#[100, 111, 119, 110]⟩ : ByteArray), Value.int .i64 1, Value.int .i64 1, Value.int .i64 0, Value.int .i64 2], rfl, ⟨[Value.string (⟨#[116, 119, 111]⟩ : ByteArray)], ([Value.int .i64 2] ++ ([Value.int .i64 0] ++ ([Value.int .i64 0] ++ [Value.int .i64 1]))), rfl, rfl, ⟨[Value.int .i64 2], ([Value.int .i64 0] ++ ([Value.int .i64 0] ++ [Value.int .i64 1])), rfl, rfl, ⟨[Value.int .i64 0], ([Value.int .i64 0] ++ [Value.int .i64 1]), rfl, rfl, ⟨[Value.int .i64 0], [Value.int .i64 1], rfl, rfl, rfl⟩⟩⟩⟩, ⟨[Value.string (⟨#[117, 112]⟩ : ByteArray), Value.int .i64 1, Value.int .i64 0, Value.int .i64 1, Value.int .i64 3], [Value.string (⟨#[100, 111, 119, 110]⟩ : ByteArray), Value.int .i64 1, Value.int .i64 1, Value.int .i64 0, Value.int .i64 2], rfl, ⟨[Value.string (⟨#[117, 112]⟩ : ByteArray)], ([Value.int .i64 1] ++ ([Value.int .i64 0] ++ ([Value.int .i64 1] ++ [Value.int .i64 3]))), rfl, rfl, ⟨[Value.int .i64 1], ([Value.int .i64 0] ++ ([Value.int .i64 1] ++ [Value.int .i64 3])), rfl, rfl, ⟨[Value.int .i64 0], ([Value.int .i64 1] ++ [Value.int .i64 3]), rfl, rfl, ⟨[Value.int .i64 1], [Value.int .i64 3], rfl, rfl, rfl⟩⟩⟩⟩, ⟨[Value.string (⟨#[100, 111, 119, 110]⟩ : ByteArray), Value.int .i64 1, Value.int .i64 1, Value.int .i64 0, Value.int .i64 2], [], rfl, ⟨[Value.string (⟨#[100, 111, 119, 110]⟩ : ByteArray)], ([Value.int .i64 1] ++ ([Value.int .i64 1] ++ ([Value.int .i64 0] ++ [Value.int .i64 2]))), rfl, rfl, ⟨[Value.int .i64 1], ([Value.int .i64 1] ++ ([Value.int .i64 0] ++ [Value.int .i64 2])), rfl, rfl, ⟨[Value.int .i64 1], ([Value.int .i64 0] ++ [Value.int .i64 2]), rfl, rfl, ⟨[Value.int .i64 0], [Value.int .i64 2], rfl, rfl, rfl⟩⟩⟩⟩, rfl⟩⟩⟩⟩
  refine U.seg 7 [0] [(4, .al 2), (6, .st 1)] (fun K => ∀ b3 : Nat, (b1 = b1) ∧ (K [(0, Value.pointer (some ⟨b1, 0, none⟩))] ((2, Ent.sl (some ⟨b3, 0, none⟩ : Option Addr) 4 4 85 5 [Value.string (⟨#[111, 110, 101]⟩ : ByteArray), Value.int .i64 1, Value.int .i64 0, Value.int .i64 0, Value.int .i64 0, Value.string (⟨#[116, 119, 111]⟩ : ByteArray), Value.int .i64 2, Value.int .i64 0, Value.int .i64 0, Value.int .i64 1, Value.string (⟨#[117, 112]⟩ : ByteArray), Value.int .i64 1, Value.int .i64 0, Value.int .i64 1, Value.int .i64 3, Value.string (⟨#[100, 111, 119, 110]⟩ : ByteArray), Value.int .i64 1, Value.int .i64 1, Value.int .i64 0, Value.int .i64 2]) :: (1, Ent.blk b1 81 [Value.int .i64 5, Value.int .i64 0, Value.int .i64 0, Value.slice (some ⟨b3, 0, none⟩ : Option Addr) 4 4]) :: fr))) (fun K => by kernel_rfl) 7 (by kernel_rfl) ?_
  intro b3
  refine ⟨rfl, ?_⟩
  refine WO.done (by kernel_rfl) ?_
  refine PO.nx ?_
  refine WP.ret (by kernel_rfl) ?_
  refine U.freezeP (dd := (Kd.pair Kd.str (Kd.pair (Kd.int .i64) (Kd.pair (Kd.int .i64) (Kd.pair (Kd.int .i64) (Kd.int .i64)))))) (t := 2) (a := (some ⟨b3, 0, none⟩ : Option Addr)) (n1 := 4) (cc := 4) (T := 85) (cs := [Value.string (⟨#[111, 110, 101]⟩ : ByteArray), Value.int .i64 1, Value.int .i64 0, Value.int .i64 0, Value.int .i64 0, Value.string (⟨#[116, 119, 111]⟩ : ByteArray), Value.int .i64 2, Value.int .i64 0, Value.int .i64 0, Value.int .i64 1, Value.string (⟨#[117, 112]⟩ : ByteArray), Value.int .i64 1, Value.int .i64 0, Value.int .i64 1, Value.int .i64 3, Value.string (⟨#[100, 111, 119, 110]⟩ : ByteArray), Value.int .i64 1, Value.int .i64 1, Value.int .i64 0, Value.int .i64 2]) (by kernel_rfl) h4 rfl (fun g7 h8 h9 => ?_)
  have hr := Option.some.inj H
  subst hr
  refine PO.body [Value.agg #[Value.int .i64 5, Value.int .i64 0, Value.int .i64 0, Value.slice (some ⟨b3, 0, none⟩ : Option Addr) 4 4]] ((1, Ent.blk b1 81 [Value.int .i64 5, Value.int .i64 0, Value.int .i64 0, Value.slice (some ⟨b3, 0, none⟩ : Option Addr) 4 4]) :: fr) rfl (Res.cell b1 0 1 (Ent.blk b1 81 [Value.int .i64 5, Value.int .i64 0, Value.int .i64 0, Value.slice (some ⟨b3, 0, none⟩ : Option Addr) 4 4]) [Value.int .i64 5, Value.int .i64 0, Value.int .i64 0, Value.slice (some ⟨b3, 0, none⟩ : Option Addr) 4 4] true 4 (by kernel_rfl) (by kernel_rfl) (by kernel_rfl) (by kernel_rfl) (by kernel_rfl) (OwnRead.agg rfl rfl) Res.nil) ?_
  exact fun w hw => Ret.mk (g7, (some ⟨b3, 0, none⟩ : Option Addr), 4) ⟨h8, h9⟩ rfl (okNT 1 [] (by kernel_rfl) rfl hw)

set_option maxRecDepth 100000 in
theorem c_f42 (kk : Nat) (x1 : Int) (x2 : Int) (x3 : Int) {g : GH} {r : Bool} (H : m_f42 kk x1 x2 x3 = some r) {fr : Hs} {w : World} (hw : Ok g (fr) w) :
    Calls Try.prog 42 (List.toArray [Value.int .i64 x1, Value.int .i64 x2, Value.int .i64 x3]) w (Ret (fun _ : Unit => True) (fun _ => Value.bool r) (fun _ => g) (fun _ => (fr))) := by
  refine fn_wp (args := [Value.int .i64 x1, Value.int .i64 x2, Value.int .i64 x3]) (c := C_42) Try.func42 (by kernel_rfl) Try.ntmps42 (by kernel_rfl) ?_ hw
  unfold m_f42 at H
  refine WP.seq (by kernel_rfl) ?_
  refine WP.reg (by kernel_rfl) ?_
  refine U.seg 1 [0, 1, 2] [] (fun K => K [(0, Value.int .i64 x1), (1, Value.int .i64 x2), (2, Value.int .i64 x3)] (fr)) (fun K => by kernel_rfl) 1 (by kernel_rfl) ?_
  refine WO.done (by kernel_rfl) ?_
  refine PO.nx ?_
  refine WP.seq (by kernel_rfl) ?_
  refine WP.join (fun s => ∃ (x5 : Bool), f42_j1 kk x5 = some r ∧ s = { n := 15, e := [(6, Value.bool x5)], d := [], g := g, h := (fr) }) ?_ ?_
  · refine WP.reg (by kernel_rfl) ?_
    refine U.seg 4 [0, 2, 10] [] (fun K => K [(0, Value.int .i64 x1), (2, Value.int .i64 x3), (10, Value.bool (decide (x2 ≤ x1)))] (fr)) (fun K => by kernel_rfl) 4 (by kernel_rfl) ?_
    rcases cond_some H with ⟨h4, H⟩ | ⟨h4, H⟩
    · refine U.as (t := 10) (congrArg Value.bool h4) (by kernel_rfl) ?_
      refine U.seg 5 [6] [] (fun K => K [(6, Value.bool (decide (x1 ≤ x3)))] (fr)) (fun K => by kernel_rfl) 9 (by kernel_rfl) ?_
      refine WO.done (by kernel_rfl) ?_
      refine PO.jn ⟨(decide (x1 ≤ x3)), H, rfl⟩ ?_
      exact (St.ok.to [6] 0 [] (by kernel_rfl) rfl (by kernel_rfl) rfl rfl (by kernel_rfl))
    · refine U.as (t := 10) (congrArg Value.bool h4) (by kernel_rfl) ?_
      refine U.seg 5 [6] [] (fun K => K [(6, Value.bool false)] (fr)) (fun K => by kernel_rfl) 9 (by kernel_rfl) ?_
      refine WO.done (by kernel_rfl) ?_
      refine PO.jn ⟨false, H, rfl⟩ ?_
      exact (St.ok.to [6] 0 [] (by kernel_rfl) rfl (by kernel_rfl) rfl rfl (by kernel_rfl))
  · rintro _ ⟨x5, H, rfl⟩
    unfold f42_j1 at H
    refine PO.nx ?_
    refine WP.ret (by kernel_rfl) ?_
    have hr := Option.some.inj H
    subst hr
    refine PO.body [Value.bool x5] (fr) rfl (Res.tmp (by kernel_rfl) Res.nil) ?_
    exact fun w hw => Ret.mk () trivial rfl (okNT 0 [] (by kernel_rfl) rfl hw)

set_option maxRecDepth 100000 in
theorem c_f155 (kk : Nat) (x1 : Int) {g : GH} {r : Bool} (H : m_f155 kk x1 = some r) {fr : Hs} {w : World} (hw : Ok g (fr) w) :
    Calls Try.prog 155 (List.toArray [Value.int .i32 x1]) w (Ret (fun _ : Unit => True) (fun _ => Value.bool r) (fun _ => g) (fun _ => (fr))) := by
  refine fn_wp (args := [Value.int .i32 x1]) (c := C_155) Try.func155 (by kernel_rfl) Try.ntmps155 (by kernel_rfl) ?_ hw
  unfold m_f155 at H
  refine WP.seq (by kernel_rfl) ?_
  refine WP.reg (by kernel_rfl) ?_
  refine U.seg 1 [0] [] (fun K => K [(0, Value.int .i32 x1)] (fr)) (fun K => by kernel_rfl) 1 (by kernel_rfl) ?_
  refine WO.done (by kernel_rfl) ?_
  refine PO.nx ?_
  refine WP.seq (by kernel_rfl) ?_
  refine WP.join (fun s => ∃ (x8 : Bool), f155_j1 kk x8 = some r ∧ s = { n := 22, e := [(2, Value.bool x8)], d := [], g := g, h := (fr) }) ?_ ?_
  · refine WP.reg (by kernel_rfl) ?_
    refine U.seg 3 [0, 5] [] (fun K => K [(0, Value.int .i32 x1), (5, Value.bool (decide (x1 ≥ 97)))] (fr)) (fun K => by kernel_rfl) 3 (by kernel_rfl) ?_
    rcases cond_some H with ⟨h2, H⟩ | ⟨h2, H⟩
    · refine U.as (t := 5) (congrArg Value.bool h2) (by kernel_rfl) ?_
      refine U.seg 4 [0, 9] [] (fun K => K [(0, Value.int .i32 x1), (9, Value.bool (decide (x1 ≤ 122)))] (fr)) (fun K => by kernel_rfl) 7 (by kernel_rfl) ?_
      rcases cond_some H with ⟨h3, H⟩ | ⟨h3, H⟩
      · refine U.as (t := 9) (congrArg Value.bool h3) (by kernel_rfl) ?_
        refine U.seg 13 [2] [] (fun K => K [(2, Value.bool false)] (fr)) (fun K => by kernel_rfl) 20 (by kernel_rfl) ?_
        refine WO.done (by kernel_rfl) ?_
        refine PO.jn ⟨false, H, rfl⟩ ?_
        exact (St.ok.to [2] 0 [] (by kernel_rfl) rfl (by kernel_rfl) rfl rfl (by kernel_rfl))
      · refine U.as (t := 9) (congrArg Value.bool h3) (by kernel_rfl) ?_
        refine U.seg 3 [0, 9, 12] [] (fun K => K [(0, Value.int .i32 x1), (9, Value.bool false), (12, Value.bool (decide (x1 ≥ 48)))] (fr)) (fun K => by kernel_rfl) 10 (by kernel_rfl) ?_
        rcases cond_some H with ⟨h4, H⟩ | ⟨h4, H⟩
        · refine U.as (t := 12) (congrArg Value.bool h4) (by kernel_rfl) ?_
          refine U.seg 5 [0, 17] [] (fun K => K [(0, Value.int .i32 x1), (17, Value.bool (decide (x1 ≤ 57)))] (fr)) (fun K => by kernel_rfl) 15 (by kernel_rfl) ?_
          rcases cond_some H with ⟨h5, H⟩ | ⟨h5, H⟩
          · refine U.as (t := 17) (congrArg Value.bool h5) (by kernel_rfl) ?_
            refine U.seg 5 [2] [] (fun K => K [(2, Value.bool false)] (fr)) (fun K => by kernel_rfl) 20 (by kernel_rfl) ?_
            refine WO.done (by kernel_rfl) ?_
            refine PO.jn ⟨false, H, rfl⟩ ?_
            exact (St.ok.to [2] 0 [] (by kernel_rfl) rfl (by kernel_rfl) rfl rfl (by kernel_rfl))
          · refine U.as (t := 17) (congrArg Value.bool h5) (by kernel_rfl) ?_
            refine U.seg 5 [2] [] (fun K => K [(2, Value.bool (!(x1 == 45)))] (fr)) (fun K => by kernel_rfl) 20 (by kernel_rfl) ?_
            refine WO.done (by kernel_rfl) ?_
            refine PO.jn ⟨(!(x1 == 45)), H, rfl⟩ ?_
            exact (St.ok.to [2] 0 [] (by kernel_rfl) rfl (by kernel_rfl) rfl rfl (by kernel_rfl))
        · refine U.as (t := 12) (congrArg Value.bool h4) (by kernel_rfl) ?_
          refine U.seg 10 [2] [] (fun K => K [(2, Value.bool (!(x1 == 45)))] (fr)) (fun K => by kernel_rfl) 20 (by kernel_rfl) ?_
          refine WO.done (by kernel_rfl) ?_
          refine PO.jn ⟨(!(x1 == 45)), H, rfl⟩ ?_
          exact (St.ok.to [2] 0 [] (by kernel_rfl) rfl (by kernel_rfl) rfl rfl (by kernel_rfl))
    · refine U.as (t := 5) (congrArg Value.bool h2) (by kernel_rfl) ?_
      refine U.seg 7 [0, 9, 12] [] (fun K => K [(0, Value.int .i32 x1), (9, Value.bool false), (12, Value.bool (decide (x1 ≥ 48)))] (fr)) (fun K => by kernel_rfl) 10 (by kernel_rfl) ?_
      rcases cond_some H with ⟨h6, H⟩ | ⟨h6, H⟩
      · refine U.as (t := 12) (congrArg Value.bool h6) (by kernel_rfl) ?_
        refine U.seg 5 [0, 17] [] (fun K => K [(0, Value.int .i32 x1), (17, Value.bool (decide (x1 ≤ 57)))] (fr)) (fun K => by kernel_rfl) 15 (by kernel_rfl) ?_
        rcases cond_some H with ⟨h7, H⟩ | ⟨h7, H⟩
        · refine U.as (t := 17) (congrArg Value.bool h7) (by kernel_rfl) ?_
          refine U.seg 5 [2] [] (fun K => K [(2, Value.bool false)] (fr)) (fun K => by kernel_rfl) 20 (by kernel_rfl) ?_
          refine WO.done (by kernel_rfl) ?_
          refine PO.jn ⟨false, H, rfl⟩ ?_
          exact (St.ok.to [2] 0 [] (by kernel_rfl) rfl (by kernel_rfl) rfl rfl (by kernel_rfl))
        · refine U.as (t := 17) (congrArg Value.bool h7) (by kernel_rfl) ?_
          refine U.seg 5 [2] [] (fun K => K [(2, Value.bool (!(x1 == 45)))] (fr)) (fun K => by kernel_rfl) 20 (by kernel_rfl) ?_
          refine WO.done (by kernel_rfl) ?_
          refine PO.jn ⟨(!(x1 == 45)), H, rfl⟩ ?_
          exact (St.ok.to [2] 0 [] (by kernel_rfl) rfl (by kernel_rfl) rfl rfl (by kernel_rfl))
      · refine U.as (t := 12) (congrArg Value.bool h6) (by kernel_rfl) ?_
        refine U.seg 10 [2] [] (fun K => K [(2, Value.bool (!(x1 == 45)))] (fr)) (fun K => by kernel_rfl) 20 (by kernel_rfl) ?_
        refine WO.done (by kernel_rfl) ?_
        refine PO.jn ⟨(!(x1 == 45)), H, rfl⟩ ?_
        exact (St.ok.to [2] 0 [] (by kernel_rfl) rfl (by kernel_rfl) rfl rfl (by kernel_rfl))
  · rintro _ ⟨x8, H, rfl⟩
    unfold f155_j1 at H
    refine PO.nx ?_
    refine WP.ret (by kernel_rfl) ?_
    have hr := Option.some.inj H
    subst hr
    refine PO.body [Value.bool x8] (fr) rfl (Res.tmp (by kernel_rfl) Res.nil) ?_
    exact fun w hw => Ret.mk () trivial rfl (okNT 0 [] (by kernel_rfl) rfl hw)

set_option maxRecDepth 100000 in
theorem c_f167 (kk : Nat) (x1 : ByteArray) (x2 : Bool) {g : GH} {r : Int} (H : m_f167 kk x1 x2 = some r) {fr : Hs} {w : World} (hw : Ok g (fr) w) :
    Calls Try.prog 167 (List.toArray [Value.string x1, Value.func (.func 155) #[] #[], Value.bool x2]) w (Ret (fun _ : Unit => True) (fun _ => Value.int .i64 r) (fun _ => g) (fun _ => (fr))) := by
  refine fn_wp (args := [Value.string x1, Value.func (.func 155) #[] #[], Value.bool x2]) (c := C_167) Try.func167 (by kernel_rfl) Try.ntmps167 (by kernel_rfl) ?_ hw
  unfold m_f167 at H
  refine WP.seq (by kernel_rfl) ?_
  refine WP.reg (by kernel_rfl) ?_
  refine U.seg 1 [0, 1, 2] [] (fun K => K [(0, Value.string x1), (1, Value.func (.func 155) #[] #[]), (2, Value.bool x2)] (fr)) (fun K => by kernel_rfl) 1 (by kernel_rfl) ?_
  refine WO.done (by kernel_rfl) ?_
  refine PO.nx ?_
  refine WP.seq (by kernel_rfl) ?_
  refine WP.seq (by kernel_rfl) ?_
  refine WP.reg (by kernel_rfl) ?_
  refine U.seg 1 [1, 2, 9] [] (fun K => K [(1, Value.func (.func 155) #[] #[]), (2, Value.bool x2), (9, Value.string x1)] (fr)) (fun K => by kernel_rfl) 1 (by kernel_rfl) ?_
  refine U.step 2 (by kernel_rfl) (U.rangeS (dst := some 10) (T := 9) (s := x1) 1 (by kernel_rfl) (by kernel_rfl)) ?_
  rintro b3 _
  refine WO.done (by kernel_rfl) ?_
  refine PO.nx ?_
  refine WP.join (fun s => f167_j2 kk = some r ∧ s = { n := 21, e := [], d := [], g := g, h := (fr) }) ?_ ?_
  · refine WP.block (id := 0) (by kernel_rfl) ?_
    obtain ⟨o24, h39, h27⟩ := bnd_some H
    refine WP.loopW (by kernel_rfl) (fun n s => ∃ (x23 : Nat), iter (fun y : Nat => f167_l1 kk y x1 x2) n x23 = some o24 ∧ s = { n := 21, e := [(1, Value.func (.func 155) #[] #[]), (2, Value.bool x2), (10, Value.pointer (some ⟨b3, 0, none⟩))], d := [], g := g, h := ((1, Ent.ob b3 (.stringIter x1 x23)) :: fr) }) (k := kk) ⟨0, h39, rfl⟩ (St.ok.to [1, 2, 10] 1 [(1, 0)] (by kernel_rfl) rfl (by kernel_rfl) rfl rfl (by kernel_rfl)) ?_
    intro n34 s
    rintro ⟨x23, h35, rfl⟩
    obtain ⟨n28, q25, h37, h38, h26⟩ := iter_some h35
    subst h37
    have H : f167_l1 kk x23 x1 x2 = some q25 := h38
    unfold f167_l1 at H
    refine WP.seq (by kernel_rfl) ?_
    refine WP.reg (by kernel_rfl) ?_
    rcases cond_some H with ⟨h29, H⟩ | ⟨h29, H⟩
    · refine U.step 1 (by kernel_rfl) (U.nextY (dst := some 11) (t := 1) (b := b3) (of_decide_eq_true h29) (by kernel_rfl) (by kernel_rfl)) ?_
      rintro _ _
      refine U.seg 1 [1, 2, 10, 11, 12] [] (fun K => K [(1, Value.func (.func 155) #[] #[]), (2, Value.bool x2), (10, Value.pointer (some ⟨b3, 0, none⟩)), (11, Value.tuple #[Value.bool true, Value.int .i64 (x23 : Int), Value.int .i32 ((Utf8.decode x1 x23).1 : Int)]), (12, Value.bool true)] ((1, Ent.ob b3 (.stringIter x1 (x23 + (Utf8.decode x1 x23).2))) :: fr)) (fun K => by kernel_rfl) 2 (by kernel_rfl) ?_
      refine WO.done (by kernel_rfl) ?_
      refine PO.nx ?_
      refine WP.seq (by kernel_rfl) ?_
      refine WP.condT (by kernel_rfl) ?_
      refine WP.skip (by kernel_rfl) ?_
      refine PO.nx ?_
      refine WP.block (id := 1) (by kernel_rfl) ?_
      refine WP.seq (by kernel_rfl) ?_
      refine WP.reg (by kernel_rfl) ?_
      refine U.seg 4 [1, 2, 7, 8, 10] [] (fun K => K [(1, Value.func (.func 155) #[] #[]), (2, Value.bool x2), (7, Value.int .i64 (x23 : Int)), (8, Value.int .i32 ((Utf8.decode x1 x23).1 : Int)), (10, Value.pointer (some ⟨b3, 0, none⟩))] ((1, Ent.ob b3 (.stringIter x1 (x23 + (Utf8.decode x1 x23).2))) :: fr)) (fun K => by kernel_rfl) 4 (by kernel_rfl) ?_
      refine WO.done (by kernel_rfl) ?_
      refine PO.nx ?_
      refine WP.seq (by kernel_rfl) ?_
      refine WP.reg (by kernel_rfl) ?_
      refine U.seg 2 [1, 2, 7, 10, 15, 16] [] (fun K => K [(1, Value.func (.func 155) #[] #[]), (2, Value.bool x2), (7, Value.int .i64 (x23 : Int)), (10, Value.pointer (some ⟨b3, 0, none⟩)), (15, Value.func (.func 155) #[] #[]), (16, Value.int .i32 ((Utf8.decode x1 x23).1 : Int))] ((1, Ent.ob b3 (.stringIter x1 (x23 + (Utf8.decode x1 x23).2))) :: fr)) (fun K => by kernel_rfl) 2 (by kernel_rfl) ?_
      obtain ⟨x30, h31, H⟩ := bnd_some H
      refine U.step 3 (by kernel_rfl) (U.call (dst := some 17) (fun w hw => c_f155 kk ((Utf8.decode x1 x23).1 : Int) h31 hw) (by kernel_rfl) (enters_of Try.func155 (by kernel_rfl) rfl)) ?_
      rintro _ _
      refine U.seg 2 [1, 2, 7, 10, 19] [] (fun K => K [(1, Value.func (.func 155) #[] #[]), (2, Value.bool x2), (7, Value.int .i64 (x23 : Int)), (10, Value.pointer (some ⟨b3, 0, none⟩)), (19, Value.bool (x30 == x2))] ((1, Ent.ob b3 (.stringIter x1 (x23 + (Utf8.decode x1 x23).2))) :: fr)) (fun K => by kernel_rfl) 5 (by kernel_rfl) ?_
      refine WO.done (by kernel_rfl) ?_
      refine PO.nx ?_
      rcases cond_some H with ⟨h32, H⟩ | ⟨h32, H⟩
      · refine U.asW (t := 19) (congrArg Value.bool h32) (by kernel_rfl) ?_
        refine WP.condT (by kernel_rfl) ?_
        refine WP.seq (by kernel_rfl) ?_
        refine WP.reg (by kernel_rfl) ?_
        refine U.seg 2 [6] [] (fun K => K [(6, Value.int .i64 (x23 : Int))] ((1, Ent.ob b3 (.stringIter x1 (x23 + (Utf8.decode x1 x23).2))) :: fr)) (fun K => by kernel_rfl) 2 (by kernel_rfl) ?_
        refine WO.done (by kernel_rfl) ?_
        refine PO.nx ?_
        refine WP.ret (by kernel_rfl) ?_
        refine PO.blk_ret ?_
        refine PO.lp_ret ?_
        refine PO.blk_ret ?_
        refine PO.jn_ret ?_
        refine PO.nx_ret ?_
        have hq := Option.some.inj H
        subst hq
        have H := h27
        rw [← (show _ = o24 from h26)] at H
        have H : some (x23 : Int) = some r := H
        have hr := Option.some.inj H
        subst hr
        refine PO.body [Value.int .i64 (x23 : Int)] ((1, Ent.ob b3 (.stringIter x1 (x23 + (Utf8.decode x1 x23).2))) :: fr) rfl (Res.tmp (by kernel_rfl) Res.nil) ?_
        exact fun w hw => Ret.mk () trivial rfl (okNT 1 [] (by kernel_rfl) rfl hw)
      · refine U.asW (t := 19) (congrArg Value.bool h32) (by kernel_rfl) ?_
        refine WP.condF (by kernel_rfl) ?_
        refine WP.skip (by kernel_rfl) ?_
        refine PO.blk_normal ?_
        have hq := Option.some.inj H
        subst hq
        refine PO.againW ⟨(x23 + (Utf8.decode x1 x23).2), h26, rfl⟩ ?_ (Nat.lt_succ_self _)
        exact (St.ok.to [1, 2, 10] 1 [(1, 0)] (by kernel_rfl) rfl (by kernel_rfl) rfl rfl (by kernel_rfl))
    · refine U.step 1 (by kernel_rfl) (U.nextN (dst := some 11) (t := 1) (b := b3) (of_decide_eq_false h29) (by kernel_rfl) (by kernel_rfl)) ?_
      rintro _ _
      refine U.seg 1 [1, 2, 10, 11, 12] [] (fun K => K [(1, Value.func (.func 155) #[] #[]), (2, Value.bool x2), (10, Value.pointer (some ⟨b3, 0, none⟩)), (11, Value.tuple #[Value.bool false]), (12, Value.bool false)] ((1, Ent.ob b3 (.stringIter x1 x23)) :: fr)) (fun K => by kernel_rfl) 2 (by kernel_rfl) ?_
      refine WO.done (by kernel_rfl) ?_
      refine PO.nx ?_
      refine WP.seq (by kernel_rfl) ?_
      refine WP.condF (by kernel_rfl) ?_
      refine WP.exit (id := 0) (by kernel_rfl) ?_
      refine PO.nx_exit ?_
      refine PO.lp_exit ?_
      refine PO.blk_exit ?_
      have hq := Option.some.inj H
      subst hq
      have H := h27
      rw [← (show _ = o24 from h26)] at H
      have H : f167_j2 kk = some r := H
      refine PO.jn ⟨H, rfl⟩ ?_
      exact (St.ok.to [] 1 [] (by kernel_rfl) rfl (by kernel_rfl) rfl rfl (by kernel_rfl))
  · rintro _ ⟨H, rfl⟩
    unfold f167_j2 at H
    refine PO.nx ?_
    refine WP.seq (by kernel_rfl) ?_
    refine WP.reg (by kernel_rfl) ?_
    refine U.seg 1 [6] [] (fun K => K [(6, Value.int .i64 (-1))] (fr)) (fun K => by kernel_rfl) 1 (by kernel_rfl) ?_
    refine WO.done (by kernel_rfl) ?_
    refine PO.nx ?_
    refine WP.ret (by kernel_rfl) ?_
    have hr := Option.some.inj H
    subst hr
    refine PO.body [Value.int .i64 (-1)] (fr) rfl (Res.tmp (by kernel_rfl) Res.nil) ?_
    exact fun w hw => Ret.mk () trivial rfl (okNT 0 [] (by kernel_rfl) rfl hw)

set_option maxRecDepth 100000 in
theorem c_f157 (kk : Nat) (x1 : ByteArray) {g : GH} {r : Int} (H : m_f157 kk x1 = some r) {fr : Hs} {w : World} (hw : Ok g (fr) w) :
    Calls Try.prog 157 (List.toArray [Value.string x1, Value.func (.func 155) #[] #[]]) w (Ret (fun _ : Unit => True) (fun _ => Value.int .i64 r) (fun _ => g) (fun _ => (fr))) := by
  refine fn_wp (args := [Value.string x1, Value.func (.func 155) #[] #[]]) (c := C_157) Try.func157 (by kernel_rfl) Try.ntmps157 (by kernel_rfl) ?_ hw
  unfold m_f157 at H
  refine WP.seq (by kernel_rfl) ?_
  refine WP.reg (by kernel_rfl) ?_
  refine U.seg 1 [0, 1] [] (fun K => K [(0, Value.string x1), (1, Value.func (.func 155) #[] #[])] (fr)) (fun K => by kernel_rfl) 1 (by kernel_rfl) ?_
  refine WO.done (by kernel_rfl) ?_
  refine PO.nx ?_
  refine WP.seq (by kernel_rfl) ?_
  refine WP.reg (by kernel_rfl) ?_
  refine U.seg 2 [5, 6] [] (fun K => K [(5, Value.string x1), (6, Value.func (.func 155) #[] #[])] (fr)) (fun K => by kernel_rfl) 2 (by kernel_rfl) ?_
  obtain ⟨x2, h3, H⟩ := bnd_some H
  refine U.step 3 (by kernel_rfl) (U.call (dst := some 7) (fun w hw => c_f167 kk x1 true h3 hw) (by kernel_rfl) (enters_of Try.func167 (by kernel_rfl) rfl)) ?_
  rintro _ _
  refine U.seg 1 [4] [] (fun K => K [(4, Value.int .i64 x2)] (fr)) (fun K => by kernel_rfl) 4 (by kernel_rfl) ?_
  refine WO.done (by kernel_rfl) ?_
  refine PO.nx ?_
  refine WP.ret (by kernel_rfl) ?_
  have hr := Option.some.inj H
  subst hr
  refine PO.body [Value.int .i64 x2] (fr) rfl (Res.tmp (by kernel_rfl) Res.nil) ?_
  exact fun w hw => Ret.mk () trivial rfl (okNT 0 [] (by kernel_rfl) rfl hw)

set_option maxRecDepth 100000 in
theorem c_f118 (kk : Nat) (x1 : ByteArray) {g : GH} {r : Bool} (H : m_f118 kk x1 = some r) {fr : Hs} {w : World} (hw : Ok g (fr) w) :
    Calls Try.prog 118 (List.toArray [Value.string x1, Value.func (.func 155) #[] #[]]) w (Ret (fun _ : Unit => True) (fun _ => Value.bool r) (fun _ => g) (fun _ => (fr))) := by
  refine fn_wp (args := [Value.string x1, Value.func (.func 155) #[] #[]]) (c := C_118) Try.func118 (by kernel_rfl) Try.ntmps118 (by kernel_rfl) ?_ hw
  unfold m_f118 at H
  refine WP.seq (by kernel_rfl) ?_
  refine WP.reg (by kernel_rfl) ?_
  refine U.seg 1 [0, 1] [] (fun K => K [(0, Value.string x1), (1, Value.func (.func 155) #[] #[])] (fr)) (fun K => by kernel_rfl) 1 (by kernel_rfl) ?_
  refine WO.done (by kernel_rfl) ?_
  refine PO.nx ?_
  refine WP.seq (by kernel_rfl) ?_
  refine WP.reg (by kernel_rfl) ?_
  refine U.seg 2 [5, 6] [] (fun K => K [(5, Value.string x1), (6, Value.func (.func 155) #[] #[])] (fr)) (fun K => by kernel_rfl) 2 (by kernel_rfl) ?_
  obtain ⟨x2, h3, H⟩ := bnd_some H
  refine U.step 3 (by kernel_rfl) (U.call (dst := some 7) (fun w hw => c_f157 kk x1 h3 hw) (by kernel_rfl) (enters_of Try.func157 (by kernel_rfl) rfl)) ?_
  rintro _ _
  refine U.seg 2 [4] [] (fun K => K [(4, Value.bool (decide (x2 ≥ 0)))] (fr)) (fun K => by kernel_rfl) 5 (by kernel_rfl) ?_
  refine WO.done (by kernel_rfl) ?_
  refine PO.nx ?_
  refine WP.ret (by kernel_rfl) ?_
  have hr := Option.some.inj H
  subst hr
  refine PO.body [Value.bool (decide (x2 ≥ 0))] (fr) rfl (Res.tmp (by kernel_rfl) Res.nil) ?_
  exact fun w hw => Ret.mk () trivial rfl (okNT 0 [] (by kernel_rfl) rfl hw)

set_option maxRecDepth 100000 in
theorem c_f109 (kk : Nat) (x1 : ByteArray) {g : GH} {r : Bool} (H : m_f109 kk x1 = some r) {fr : Hs} {w : World} (hw : Ok g (fr) w) :
    Calls Try.prog 109 (List.toArray [Value.string x1]) w (Ret (fun _ : Unit => True) (fun _ => Value.bool r) (fun _ => g) (fun _ => (fr))) := by
  refine fn_wp (args := [Value.string x1]) (c := C_109) Try.func109 (by kernel_rfl) Try.ntmps109 (by kernel_rfl) ?_ hw
  unfold m_f109 at H
  refine WP.seq (by kernel_rfl) ?_
  refine WP.reg (by kernel_rfl) ?_
  refine U.seg 1 [0] [] (fun K => K [(0, Value.string x1)] (fr)) (fun K => by kernel_rfl) 1 (by kernel_rfl) ?_
  refine WO.done (by kernel_rfl) ?_
  refine PO.nx ?_
  refine WP.seq (by kernel_rfl) ?_
  refine WP.seq (by kernel_rfl) ?_
  refine WP.join (fun s => ∃ (x11 : Bool), f109_j1 kk x11 x1 = some r ∧ s = { n := 23, e := [(0, Value.string x1), (19, Value.bool x11)], d := [], g := g, h := (fr) }) ?_ ?_
  · refine WP.reg (by kernel_rfl) ?_
    refine U.seg 3 [0, 5] [] (fun K => K [(0, Value.string x1), (5, Value.bool (seq x1 (⟨#[]⟩ : ByteArray)))] (fr)) (fun K => by kernel_rfl) 3 (by kernel_rfl) ?_
    rcases cond_some H with ⟨h2, H⟩ | ⟨h2, H⟩
    · refine U.as (t := 5) (congrArg Value.bool h2) (by kernel_rfl) ?_
      refine U.seg 14 [0, 19] [] (fun K => K [(0, Value.string x1), (19, Value.bool true)] (fr)) (fun K => by kernel_rfl) 17 (by kernel_rfl) ?_
      refine WO.done (by kernel_rfl) ?_
      refine PO.jn ⟨true, H, rfl⟩ ?_
      exact (St.ok.to [0, 19] 0 [] (by kernel_rfl) rfl (by kernel_rfl) rfl rfl (by kernel_rfl))
    · refine U.as (t := 5) (congrArg Value.bool h2) (by kernel_rfl) ?_
      refine U.seg 5 [0, 10] [] (fun K => K [(0, Value.string x1), (10, Value.bool (decide (((x1).size : Int) > 16)))] (fr)) (fun K => by kernel_rfl) 8 (by kernel_rfl) ?_
      rcases cond_some H with ⟨h3, H⟩ | ⟨h3, H⟩
      · refine U.as (t := 10) (congrArg Value.bool h3) (by kernel_rfl) ?_
        refine U.seg 9 [0, 19] [] (fun K => K [(0, Value.string x1), (19, Value.bool true)] (fr)) (fun K => by kernel_rfl) 17 (by kernel_rfl) ?_
        refine WO.done (by kernel_rfl) ?_
        refine PO.jn ⟨true, H, rfl⟩ ?_
        exact (St.ok.to [0, 19] 0 [] (by kernel_rfl) rfl (by kernel_rfl) rfl rfl (by kernel_rfl))
      · refine U.as (t := 10) (congrArg Value.bool h3) (by kernel_rfl) ?_
        obtain ⟨x4, h5, H⟩ := bnd_some H
        have h6 := sidx_some h5
        refine U.seg 5 [0, 15] [(9, .w (Value.int .u8 (x4.toNat : Int)))] (fun K => ((0 : Int) ≤ 0 ∧ ∃ b : UInt8, (x1)[(Int.toNat (0))]? = some b ∧ Value.int .u8 (x4.toNat : Int) = Value.int .u8 b.toNat) ∧ (K [(0, Value.string x1), (15, Value.bool (decide ((x4.toNat : Int) < 97)))] (fr))) (fun K => by kernel_rfl) 13 (by kernel_rfl) ?_
        refine ⟨⟨h6.1, _, h6.2, rfl⟩, ?_⟩
        rcases cond_some H with ⟨h7, H⟩ | ⟨h7, H⟩
        · refine U.as (t := 15) (congrArg Value.bool h7) (by kernel_rfl) ?_
          refine U.seg 4 [0, 19] [] (fun K => K [(0, Value.string x1), (19, Value.bool true)] (fr)) (fun K => by kernel_rfl) 17 (by kernel_rfl) ?_
          refine WO.done (by kernel_rfl) ?_
          refine PO.jn ⟨true, H, rfl⟩ ?_
          exact (St.ok.to [0, 19] 0 [] (by kernel_rfl) rfl (by kernel_rfl) rfl rfl (by kernel_rfl))
        · refine U.as (t := 15) (congrArg Value.bool h7) (by kernel_rfl) ?_
          obtain ⟨x8, h9, H⟩ := bnd_some H
          have h10 := sidx_some h9
          refine U.seg 4 [0, 19] [(14, .w (Value.int .u8 (x8.toNat : Int)))] (fun K => ((0 : Int) ≤ 0 ∧ ∃ b : UInt8, (x1)[(Int.toNat (0))]? = some b ∧ Value.int .u8 (x8.toNat : Int) = Value.int .u8 b.toNat) ∧ (K [(0, Value.string x1), (19, Value.bool (decide ((x8.toNat : Int) > 122)))] (fr))) (fun K => by kernel_rfl) 17 (by kernel_rfl) ?_
          refine ⟨⟨h10.1, _, h10.2, rfl⟩, ?_⟩
          refine WO.done (by kernel_rfl) ?_
          refine PO.jn ⟨(decide ((x8.toNat : Int) > 122)), H, rfl⟩ ?_
          exact (St.ok.to [0, 19] 0 [] (by kernel_rfl) rfl (by kernel_rfl) rfl rfl (by kernel_rfl))
  · rintro _ ⟨x11, H, rfl⟩
    unfold f109_j1 at H
    refine PO.nx ?_
    rcases cond_some H with ⟨h12, H⟩ | ⟨h12, H⟩
    · refine U.asW (t := 19) (congrArg Value.bool h12) (by kernel_rfl) ?_
      refine WP.condT (by kernel_rfl) ?_
      refine WP.seq (by kernel_rfl) ?_
      refine WP.reg (by kernel_rfl) ?_
      refine U.seg 1 [2] [] (fun K => K [(2, Value.bool false)] (fr)) (fun K => by kernel_rfl) 1 (by kernel_rfl) ?_
      refine WO.done (by kernel_rfl) ?_
      refine PO.nx ?_
      refine WP.ret (by kernel_rfl) ?_
      refine PO.nx_ret ?_
      have hr := Option.some.inj H
      subst hr
      refine PO.body [Value.bool false] (fr) rfl (Res.tmp (by kernel_rfl) Res.nil) ?_
      exact fun w hw => Ret.mk () trivial rfl (okNT 0 [] (by kernel_rfl) rfl hw)
    · refine U.asW (t := 19) (congrArg Value.bool h12) (by kernel_rfl) ?_
      refine WP.condF (by kernel_rfl) ?_
      refine WP.skip (by kernel_rfl) ?_
      refine PO.nx ?_
      refine WP.seq (by kernel_rfl) ?_
      refine WP.reg (by kernel_rfl) ?_
      refine U.seg 1 [20] [] (fun K => K [(20, Value.string x1)] (fr)) (fun K => by kernel_rfl) 1 (by kernel_rfl) ?_
      obtain ⟨x13, h14, H⟩ := bnd_some H
      refine U.step 2 (by kernel_rfl) (U.call (dst := some 21) (fun w hw => c_f118 kk x1 h14 hw) (by kernel_rfl) (enters_of Try.func118 (by kernel_rfl) rfl)) ?_
      rintro _ _
      refine U.seg 2 [2] [] (fun K => K [(2, Value.bool (!x13))] (fr)) (fun K => by kernel_rfl) 4 (by kernel_rfl) ?_
      refine WO.done (by kernel_rfl) ?_
      refine PO.nx ?_
      refine WP.ret (by kernel_rfl) ?_
      have hr := Option.some.inj H
      subst hr
      refine PO.body [Value.bool (!x13)] (fr) rfl (Res.tmp (by kernel_rfl) Res.nil) ?_
      exact fun w hw => Ret.mk () trivial rfl (okNT 0 [] (by kernel_rfl) rfl hw)

set_option maxRecDepth 100000 in
theorem c_f110 (kk : Nat) (x1 : ByteArray) (x2 : Int) (x3 : Int) (x4 : Int) (x5 : Int) {g : GH} {r : (ByteArray × Int × Int × Int × Int)} (H : m_f110 kk x1 x2 x3 x4 x5 = some r) {fr : Hs} {w : World} (hw : Ok g (fr) w) :
    Calls Try.prog 110 (List.toArray [Value.agg #[Value.string x1, Value.int .i64 x2, Value.int .i64 x3, Value.int .i64 x4, Value.int .i64 x5]]) w (Ret (fun _ : Unit => True) (fun _ => Value.agg #[Value.string r.1, Value.int .i64 r.2.1, Value.int .i64 r.2.2.1, Value.int .i64 r.2.2.2.1, Value.int .i64 r.2.2.2.2]) (fun _ => g) (fun _ => (fr))) := by
  refine fn_wp (args := [Value.agg #[Value.string x1, Value.int .i64 x2, Value.int .i64 x3, Value.int .i64 x4, Value.int .i64 x5]]) (c := C_110) Try.func110 (by kernel_rfl) Try.ntmps110 (by kernel_rfl) ?_ hw
  unfold m_f110 at H
  refine WP.seq (by kernel_rfl) ?_
  refine WP.reg (by kernel_rfl) ?_
  refine U.seg 2 [1, 2] [(0, .al 1), (1, .al 2)] (fun K => ∀ b6 : Nat, ∀ b7 : Nat, K [(1, Value.pointer (some ⟨b6, 0, none⟩)), (2, Value.pointer (some ⟨b7, 0, none⟩))] ((2, Ent.blk b7 85 ([Value.string (⟨#[]⟩ : ByteArray), Value.int .i64 0, Value.int .i64 0, Value.int .i64 0, Value.int .i64 0])) :: (1, Ent.blk b6 85 [Value.string x1, Value.int .i64 x2, Value.int .i64 x3, Value.int .i64 x4, Value.int .i64 x5]) :: fr)) (fun K => by kernel_rfl) 2 (by kernel_rfl) ?_
  intro b6
  intro b7
  refine WO.done (by kernel_rfl) ?_
  refine PO.nx ?_
  refine WP.seq (by kernel_rfl) ?_
  refine WP.reg (by kernel_rfl) ?_
  refine U.seg 8 [2] [(1, .ld 1), (3, .ld 1), (5, .ld 1), (7, .st 2)] (fun K => (b6 = b6) ∧ ((b6 = b6) ∧ ((b6 = b6) ∧ ((b7 = b7) ∧ (K [(2, Value.pointer (some ⟨b7, 0, none⟩))] ((2, Ent.blk b7 85 ([Value.string (⟨#[]⟩ : ByteArray), Value.int .i64 x2, Value.int .i64 x4, Value.int .i64 x3, Value.int .i64 0])) :: (1, Ent.blk b6 85 [Value.string x1, Value.int .i64 x2, Value.int .i64 x3, Value.int .i64 x4, Value.int .i64 x5]) :: fr)))))) (fun K => by kernel_rfl) 8 (by kernel_rfl) ?_
  refine ⟨rfl, ?_⟩
  refine ⟨rfl, ?_⟩
  refine ⟨rfl, ?_⟩
  refine ⟨rfl, ?_⟩
  refine WO.done (by kernel_rfl) ?_
  refine PO.nx ?_
  refine WP.ret (by kernel_rfl) ?_
  have hr := Option.some.inj H
  subst hr
  refine PO.body [Value.agg #[Value.string (⟨#[]⟩ : ByteArray), Value.int .i64 x2, Value.int .i64 x4, Value.int .i64 x3, Value.int .i64 0]] ((2, Ent.blk b7 85 ([Value.string (⟨#[]⟩ : ByteArray), Value.int .i64 x2, Value.int .i64 x4, Value.int .i64 x3, Value.int .i64 0])) :: (1, Ent.blk b6 85 [Value.string x1, Value.int .i64 x2, Value.int .i64 x3, Value.int .i64 x4, Value.int .i64 x5]) :: fr) rfl (Res.cell b7 0 2 (Ent.blk b7 85 ([Value.string (⟨#[]⟩ : ByteArray), Value.int .i64 x2, Value.int .i64 x4, Value.int .i64 x3, Value.int .i64 0])) ([Value.string (⟨#[]⟩ : ByteArray), Value.int .i64 x2, Value.int .i64 x4, Value.int .i64 x3, Value.int .i64 0]) true 5 (by kernel_rfl) (by kernel_rfl) (by kernel_rfl) (by kernel_rfl) (by kernel_rfl) (OwnRead.agg rfl rfl) Res.nil) ?_
  exact fun w hw => Ret.mk () trivial rfl (okNT 2 [] (by kernel_rfl) rfl hw)

set_option maxRecDepth 100000 in
theorem c_f111 (kk : Nat) (x1 : ByteArray) (x2 : Int) (x3 : Int) (x4 : Int) (x5 : Int) {g : GH} {r : (ByteArray × Int × Int × Int × Int)} (H : m_f111 kk x1 x2 x3 x4 x5 = some r) {fr : Hs} {w : World} (hw : Ok g (fr) w) :
    Calls Try.prog 111 (List.toArray [Value.agg #[Value.string x1, Value.int .i64 x2, Value.int .i64 x3, Value.int .i64 x4, Value.int .i64 x5]]) w (Ret (fun _ : Unit => True) (fun _ => Value.agg #[Value.string r.1, Value.int .i64 r.2.1, Value.int .i64 r.2.2.1, Value.int .i64 r.2.2.2.1, Value.int .i64 r.2.2.2.2]) (fun _ => g) (fun _ => (fr))) := by
  refine fn_wp (args := [Value.agg #[Value.string x1, Value.int .i64 x2, Value.int .i64 x3, Value.int .i64 x4, Value.int .i64 x5]]) (c := C_111) Try.func111 (by kernel_rfl) Try.ntmps111 (by kernel_rfl) ?_ hw
  unfold m_f111 at H
  refine WP.seq (by kernel_rfl) ?_
  refine WP.reg (by kernel_rfl) ?_
  refine U.seg 2 [1, 2] [(0, .al 1), (1, .al 2)] (fun K => ∀ b6 : Nat, ∀ b7 : Nat, K [(1, Value.pointer (some ⟨b6, 0, none⟩)), (2, Value.pointer (some ⟨b7, 0, none⟩))] ((2, Ent.blk b7 85 ([Value.string (⟨#[]⟩ : ByteArray), Value.int .i64 0, Value.int .i64 0, Value.int .i64 0, Value.int .i64 0])) :: (1, Ent.blk b6 85 [Value.string x1, Value.int .i64 x2, Value.int .i64 x3, Value.int .i64 x4, Value.int .i64 x5]) :: fr)) (fun K => by kernel_rfl) 2 (by kernel_rfl) ?_
  intro b6
  intro b7
  refine WO.done (by kernel_rfl) ?_
  refine PO.nx ?_
  refine WP.seq (by kernel_rfl) ?_
  refine WP.reg (by kernel_rfl) ?_
  refine U.seg 8 [2] [(1, .ld 1), (3, .ld 1), (5, .ld 1), (7, .st 2)] (fun K => (b6 = b6) ∧ ((b6 = b6) ∧ ((b6 = b6) ∧ ((b7 = b7) ∧ (K [(2, Value.pointer (some ⟨b7, 0, none⟩))] ((2, Ent.blk b7 85 ([Value.string (⟨#[]⟩ : ByteArray), Value.int .i64 x2, Value.int .i64 x3, Value.int .i64 x4, Value.int .i64 0])) :: (1, Ent.blk b6 85 [Value.string x1, Value.int .i64 x2, Value.int .i64 x3, Value.int .i64 x4, Value.int .i64 x5]) :: fr)))))) (fun K => by kernel_rfl) 8 (by kernel_rfl) ?_
  refine ⟨rfl, ?_⟩
  refine ⟨rfl, ?_⟩
  refine ⟨rfl, ?_⟩
  refine ⟨rfl, ?_⟩
  refine WO.done (by kernel_rfl) ?_
  refine PO.nx ?_
  refine WP.ret (by kernel_rfl) ?_
  have hr := Option.some.inj H
  subst hr
  refine PO.body [Value.agg #[Value.string (⟨#[]⟩ : ByteArray), Value.int .i64 x2, Value.int .i64 x3, Value.int .i64 x4, Value.int .i64 0]] ((2, Ent.blk b7 85 ([Value.string (⟨#[]⟩ : ByteArray), Value.int .i64 x2, Value.int .i64 x3, Value.int .i64 x4, Value.int .i64 0])) :: (1, Ent.blk b6 85 [Value.string x1, Value.int .i64 x2, Value.int .i64 x3, Value.int .i64 x4, Value.int .i64 x5]) :: fr) rfl (Res.cell b7 0 2 (Ent.blk b7 85 ([Value.string (⟨#[]⟩ : ByteArray), Value.int .i64 x2, Value.int .i64 x3, Value.int .i64 x4, Value.int .i64 0])) ([Value.string (⟨#[]⟩ : ByteArray), Value.int .i64 x2, Value.int .i64 x3, Value.int .i64 x4, Value.int .i64 0]) true 5 (by kernel_rfl) (by kernel_rfl) (by kernel_rfl) (by kernel_rfl) (by kernel_rfl) (OwnRead.agg rfl rfl) Res.nil) ?_
  exact fun w hw => Ret.mk () trivial rfl (okNT 2 [] (by kernel_rfl) rfl hw)

set_option maxRecDepth 100000 in
theorem c_f61 (kk : Nat) (x1 : Int) (x2 : Int) (x3 : Int) (x4 : (List (ByteArray × Int × Int × Int × Int))) (a5 : Option Addr) (c6 : Nat) {g : GH} (h8 : Sl (Kd.pair Kd.str (Kd.pair (Kd.int .i64) (Kd.pair (Kd.int .i64) (Kd.pair (Kd.int .i64) (Kd.int .i64))))) g a5 (List.length x4) c6 x4) {r : Int} (H : m_f61 kk x1 x2 x3 x4 = some r) {fr : Hs} {w : World} (hw : Ok g (fr) w) :
    Calls Try.prog 61 (List.toArray [Value.agg #[Value.int .i64 x1, Value.int .i64 x2, Value.int .i64 x3, Value.slice a5 (List.length x4) c6]]) w (Ret (fun _ : Unit => True) (fun _ => Value.int .i64 r) (fun _ => g) (fun _ => (fr))) := by
  refine fn_wp (args := [Value.agg #[Value.int .i64 x1, Value.int .i64 x2, Value.int .i64 x3, Value.slice a5 (List.length x4) c6]]) (c := C_61) Try.func61 (by kernel_rfl) Try.ntmps61 (by kernel_rfl) ?_ hw
  unfold m_f61 at H
  refine WP.seq (by kernel_rfl) ?_
  refine WP.reg (by kernel_rfl) ?_
  refine U.seg 2 [1] [(0, .al 1)] (fun K => ∀ b9 : Nat, K [(1, Value.pointer (some ⟨b9, 0, none⟩))] ((1, Ent.blk b9 81 [Value.int .i64 x1, Value.int .i64 x2, Value.int .i64 x3, Value.slice a5 (List.length x4) c6]) :: fr)) (fun K => by kernel_rfl) 2 (by kernel_rfl) ?_
  intro b9
  refine WO.done (by kernel_rfl) ?_
  refine PO.nx ?_
  refine WP.seq (by kernel_rfl) ?_
  refine WP.block (id := 0) (by kernel_rfl) ?_
  refine WP.seq (by kernel_rfl) ?_
  refine WP.join (fun s => ∃ (x18 : Bool), f61_j1 kk x18 x4 = some r ∧ s = { n := 104, e := [(1, Value.pointer (some ⟨b9, 0, none⟩)), (9, Value.bool x18)], d := [], g := g, h := ((1, Ent.blk b9 81 [Value.int .i64 x1, Value.int .i64 x2, Value.int .i64 x3, Value.slice a5 (List.length x4) c6]) :: fr) }) ?_ ?_
  · refine WP.reg (by kernel_rfl) ?_
    refine U.seg 2 [1, 11] [(1, .ld 1)] (fun K => (b9 = b9) ∧ (K [(1, Value.pointer (some ⟨b9, 0, none⟩)), (11, Value.int .i64 x1)] ((1, Ent.blk b9 81 [Value.int .i64 x1, Value.int .i64 x2, Value.int .i64 x3, Value.slice a5 (List.length x4) c6]) :: fr))) (fun K => by kernel_rfl) 2 (by kernel_rfl) ?_
    refine ⟨rfl, ?_⟩
    obtain ⟨x10, h11, H⟩ := bnd_some H
    refine U.step 3 (by kernel_rfl) (U.call (dst := some 12) (fun w hw => c_f42 kk x1 0 2000 h11 hw) (by kernel_rfl) (enters_of Try.func42 (by kernel_rfl) rfl)) ?_
    rintro _ _
    refine U.seg 2 [1, 14] [] (fun K => K [(1, Value.pointer (some ⟨b9, 0, none⟩)), (14, Value.bool (!x10))] ((1, Ent.blk b9 81 [Value.int .i64 x1, Value.int .i64 x2, Value.int .i64 x3, Value.slice a5 (List.length x4) c6]) :: fr)) (fun K => by kernel_rfl) 5 (by kernel_rfl) ?_
    rcases cond_some H with ⟨h12, H⟩ | ⟨h12, H⟩
    · refine U.as (t := 14) (congrArg Value.bool h12) (by kernel_rfl) ?_
      refine U.seg 12 [1, 9] [] (fun K => K [(1, Value.pointer (some ⟨b9, 0, none⟩)), (9, Value.bool true)] ((1, Ent.blk b9 81 [Value.int .i64 x1, Value.int .i64 x2, Value.int .i64 x3, Value.slice a5 (List.length x4) c6]) :: fr)) (fun K => by kernel_rfl) 17 (by kernel_rfl) ?_
      refine WO.done (by kernel_rfl) ?_
      refine PO.jn ⟨true, H, rfl⟩ ?_
      exact (St.ok.to [1, 9] 1 [(1, 0)] (by kernel_rfl) rfl (by kernel_rfl) rfl rfl (by kernel_rfl))
    · refine U.as (t := 14) (congrArg Value.bool h12) (by kernel_rfl) ?_
      refine U.seg 2 [1, 14, 16] [(6, .ld 1)] (fun K => (b9 = b9) ∧ (K [(1, Value.pointer (some ⟨b9, 0, none⟩)), (14, Value.bool false), (16, Value.int .i64 x2)] ((1, Ent.blk b9 81 [Value.int .i64 x1, Value.int .i64 x2, Value.int .i64 x3, Value.slice a5 (List.length x4) c6]) :: fr))) (fun K => by kernel_rfl) 7 (by kernel_rfl) ?_
      refine ⟨rfl, ?_⟩
      obtain ⟨x13, h14, H⟩ := bnd_some H
      refine U.step 8 (by kernel_rfl) (U.call (dst := some 17) (fun w hw => c_f42 kk x2 0 9 h14 hw) (by kernel_rfl) (enters_of Try.func42 (by kernel_rfl) rfl)) ?_
      rintro _ _
      refine U.seg 3 [1, 20] [] (fun K => K [(1, Value.pointer (some ⟨b9, 0, none⟩)), (20, Value.bool (!x13))] ((1, Ent.blk b9 81 [Value.int .i64 x1, Value.int .i64 x2, Value.int .i64 x3, Value.slice a5 (List.length x4) c6]) :: fr)) (fun K => by kernel_rfl) 11 (by kernel_rfl) ?_
      rcases cond_some H with ⟨h15, H⟩ | ⟨h15, H⟩
      · refine U.as (t := 20) (congrArg Value.bool h15) (by kernel_rfl) ?_
        refine U.seg 6 [1, 9] [] (fun K => K [(1, Value.pointer (some ⟨b9, 0, none⟩)), (9, Value.bool true)] ((1, Ent.blk b9 81 [Value.int .i64 x1, Value.int .i64 x2, Value.int .i64 x3, Value.slice a5 (List.length x4) c6]) :: fr)) (fun K => by kernel_rfl) 17 (by kernel_rfl) ?_
        refine WO.done (by kernel_rfl) ?_
        refine PO.jn ⟨true, H, rfl⟩ ?_
        exact (St.ok.to [1, 9] 1 [(1, 0)] (by kernel_rfl) rfl (by kernel_rfl) rfl rfl (by kernel_rfl))
      · refine U.as (t := 20) (congrArg Value.bool h15) (by kernel_rfl) ?_
        refine U.seg 2 [1, 20, 22] [(12, .ld 1)] (fun K => (b9 = b9) ∧ (K [(1, Value.pointer (some ⟨b9, 0, none⟩)), (20, Value.bool false), (22, Value.int .i64 x3)] ((1, Ent.blk b9 81 [Value.int .i64 x1, Value.int .i64 x2, Value.int .i64 x3, Value.slice a5 (List.length x4) c6]) :: fr))) (fun K => by kernel_rfl) 13 (by kernel_rfl) ?_
        refine ⟨rfl, ?_⟩
        obtain ⟨x16, h17, H⟩ := bnd_some H
        refine U.step 14 (by kernel_rfl) (U.call (dst := some 23) (fun w hw => c_f42 kk x3 0 9 h17 hw) (by kernel_rfl) (enters_of Try.func42 (by kernel_rfl) rfl)) ?_
        rintro _ _
        refine U.seg 3 [1, 9] [] (fun K => K [(1, Value.pointer (some ⟨b9, 0, none⟩)), (9, Value.bool (!x16))] ((1, Ent.blk b9 81 [Value.int .i64 x1, Value.int .i64 x2, Value.int .i64 x3, Value.slice a5 (List.length x4) c6]) :: fr)) (fun K => by kernel_rfl) 17 (by kernel_rfl) ?_
        refine WO.done (by kernel_rfl) ?_
        refine PO.jn ⟨(!x16), H, rfl⟩ ?_
        exact (St.ok.to [1, 9] 1 [(1, 0)] (by kernel_rfl) rfl (by kernel_rfl) rfl rfl (by kernel_rfl))
  · rintro _ ⟨x18, H, rfl⟩
    unfold f61_j1 at H
    refine PO.nx ?_
    rcases cond_some H with ⟨h19, H⟩ | ⟨h19, H⟩
    · refine U.asW (t := 9) (congrArg Value.bool h19) (by kernel_rfl) ?_
      refine WP.condT (by kernel_rfl) ?_
      refine WP.seq (by kernel_rfl) ?_
      refine WP.reg (by kernel_rfl) ?_
      refine U.seg 1 [2] [] (fun K => K [(2, Value.int .i64 1)] ((1, Ent.blk b9 81 [Value.int .i64 x1, Value.int .i64 x2, Value.int .i64 x3, Value.slice a5 (List.length x4) c6]) :: fr)) (fun K => by kernel_rfl) 1 (by kernel_rfl) ?_
      refine WO.done (by kernel_rfl) ?_
      refine PO.nx ?_
      refine WP.ret (by kernel_rfl) ?_
      refine PO.blk_ret ?_
      refine PO.nx_ret ?_
      have hr := Option.some.inj H
      subst hr
      refine PO.body [Value.int .i64 1] ((1, Ent.blk b9 81 [Value.int .i64 x1, Value.int .i64 x2, Value.int .i64 x3, Value.slice a5 (List.length x4) c6]) :: fr) rfl (Res.tmp (by kernel_rfl) Res.nil) ?_
      exact fun w hw => Ret.mk () trivial rfl (okNT 1 [] (by kernel_rfl) rfl hw)
    · refine U.asW (t := 9) (congrArg Value.bool h19) (by kernel_rfl) ?_
      refine WP.condF (by kernel_rfl) ?_
      refine WP.seq (by kernel_rfl) ?_
      refine WP.reg (by kernel_rfl) ?_
      refine U.seg 5 [1, 26] [(1, .ld 1)] (fun K => (b9 = b9) ∧ (K [(1, Value.pointer (some ⟨b9, 0, none⟩)), (26, Value.bool (decide (((List.length x4) : Int) > 10)))] ((1, Ent.blk b9 81 [Value.int .i64 x1, Value.int .i64 x2, Value.int .i64 x3, Value.slice a5 (List.length x4) c6]) :: fr))) (fun K => by kernel_rfl) 5 (by kernel_rfl) ?_
      refine ⟨rfl, ?_⟩
      refine WO.done (by kernel_rfl) ?_
      refine PO.nx ?_
      rcases cond_some H with ⟨h20, H⟩ | ⟨h20, H⟩
      · refine U.asW (t := 26) (congrArg Value.bool h20) (by kernel_rfl) ?_
        refine WP.condT (by kernel_rfl) ?_
        refine WP.seq (by kernel_rfl) ?_
        refine WP.reg (by kernel_rfl) ?_
        refine U.seg 1 [2] [] (fun K => K [(2, Value.int .i64 3)] ((1, Ent.blk b9 81 [Value.int .i64 x1, Value.int .i64 x2, Value.int .i64 x3, Value.slice a5 (List.length x4) c6]) :: fr)) (fun K => by kernel_rfl) 1 (by kernel_rfl) ?_
        refine WO.done (by kernel_rfl) ?_
        refine PO.nx ?_
        refine WP.ret (by kernel_rfl) ?_
        refine PO.blk_ret ?_
        refine PO.nx_ret ?_
        have hr := Option.some.inj H
        subst hr
        refine PO.body [Value.int .i64 3] ((1, Ent.blk b9 81 [Value.int .i64 x1, Value.int .i64 x2, Value.int .i64 x3, Value.slice a5 (List.length x4) c6]) :: fr) rfl (Res.tmp (by kernel_rfl) Res.nil) ?_
        exact fun w hw => Ret.mk () trivial rfl (okNT 1 [] (by kernel_rfl) rfl hw)
      · refine U.asW (t := 26) (congrArg Value.bool h20) (by kernel_rfl) ?_
        refine WP.condF (by kernel_rfl) ?_
        refine WP.skip (by kernel_rfl) ?_
        refine PO.blk_normal ?_
        refine PO.nx ?_
        refine WP.seq (by kernel_rfl) ?_
        refine WP.reg (by kernel_rfl) ?_
        refine U.seg 2 [1, 3] [(0, .al 2)] (fun K => ∀ b21 : Nat, K [(1, Value.pointer (some ⟨b9, 0, none⟩)), (3, Value.map (some b21))] ((2, Ent.mp b21 (mpE ek_9 ev_4 [])) :: (1, Ent.blk b9 81 [Value.int .i64 x1, Value.int .i64 x2, Value.int .i64 x3, Value.slice a5 (List.length x4) c6]) :: fr)) (fun K => by kernel_rfl) 2 (by kernel_rfl) ?_
        intro b21
        refine WO.done (by kernel_rfl) ?_
        refine PO.nx ?_
        refine WP.seq (by kernel_rfl) ?_
        refine WP.seq (by kernel_rfl) ?_
        refine WP.reg (by kernel_rfl) ?_
        refine U.seg 4 [1, 3, 33, 34, 35] [(1, .ld 1)] (fun K => (b9 = b9) ∧ (K [(1, Value.pointer (some ⟨b9, 0, none⟩)), (3, Value.map (some b21)), (33, Value.slice a5 (List.length x4) c6), (34, Value.int .i64 ((List.length x4) : Int)), (35, Value.int .i64 0)] ((2, Ent.mp b21 (mpE ek_9 ev_4 [])) :: (1, Ent.blk b9 81 [Value.int .i64 x1, Value.int .i64 x2, Value.int .i64 x3, Value.slice a5 (List.length x4) c6]) :: fr))) (fun K => by kernel_rfl) 4 (by kernel_rfl) ?_
        refine ⟨rfl, ?_⟩
        refine WO.done (by kernel_rfl) ?_
        refine PO.nx ?_
        refine WP.join (fun s => f61_j6 kk x4 = some r ∧ s = { n := 104, e := [(1, Value.pointer (some ⟨b9, 0, none⟩))], d := [], g := g, h := ((1, Ent.blk b9 81 [Value.int .i64 x1, Value.int .i64 x2, Value.int .i64 x3, Value.slice a5 (List.length x4) c6]) :: fr) }) ?_ ?_
        · refine WP.block (id := 1) (by kernel_rfl) ?_
          obtain ⟨o84, h120, h87⟩ := bnd_some H
          refine WP.loopW (by kernel_rfl) (fun n s => ∃ (x82 : Int) (x83 : (List (ByteArray × Bool))), iter (fun y : (Int × (List (ByteArray × Bool))) => f61_l4 kk y.1 y.2 x4) n (x82, x83) = some o84 ∧ s = { n := 104, e := [(1, Value.pointer (some ⟨b9, 0, none⟩)), (3, Value.map (some b21)), (33, Value.slice a5 (List.length x4) c6), (34, Value.int .i64 ((List.length x4) : Int)), (35, Value.int .i64 x82)], d := [], g := g, h := ((1, Ent.blk b9 81 [Value.int .i64 x1, Value.int .i64 x2, Value.int .i64 x3, Value.slice a5 (List.length x4) c6]) :: (2, Ent.mp b21 (mpE ek_9 ev_4 x83)) :: fr) }) (k := kk) ⟨0, [], h120, rfl⟩ (St.ok.to [1, 3, 33, 34, 35] 2 [(1, 1), (2, 0)] (by kernel_rfl) rfl (by kernel_rfl) rfl rfl (by kernel_rfl)) ?_
          intro n115 s
          rintro ⟨x82, x83, h116, rfl⟩
          obtain ⟨n88, q85, h118, h119, h86⟩ := iter_some h116
          subst h118
          have H : f61_l4 kk x82 x83 x4 = some q85 := h119
          unfold f61_l4 at H
          refine WP.seq (by kernel_rfl) ?_
          refine WP.reg (by kernel_rfl) ?_
          refine U.seg 1 [1, 3, 33, 34, 35, 36] [] (fun K => K [(1, Value.pointer (some ⟨b9, 0, none⟩)), (3, Value.map (some b21)), (33, Value.slice a5 (List.length x4) c6), (34, Value.int .i64 ((List.length x4) : Int)), (35, Value.int .i64 x82), (36, Value.bool (decide (x82 < ((List.length x4) : Int))))] ((1, Ent.blk b9 81 [Value.int .i64 x1, Value.int .i64 x2, Value.int .i64 x3, Value.slice a5 (List.length x4) c6]) :: (2, Ent.mp b21 (mpE ek_9 ev_4 x83)) :: fr)) (fun K => by kernel_rfl) 1 (by kernel_rfl) ?_
          refine WO.done (by kernel_rfl) ?_
          refine PO.nx ?_
          refine WP.seq (by kernel_rfl) ?_
          rcases cond_some H with ⟨h89, H⟩ | ⟨h89, H⟩
          · refine U.asW (t := 36) (congrArg Value.bool h89) (by kernel_rfl) ?_
            refine WP.condT (by kernel_rfl) ?_
            refine WP.skip (by kernel_rfl) ?_
            refine PO.nx ?_
            refine WP.seq (by kernel_rfl) ?_
            refine WP.block (id := 2) (by kernel_rfl) ?_
            refine WP.seq (by kernel_rfl) ?_
            refine WP.reg (by kernel_rfl) ?_
            obtain ⟨x90, h91, H⟩ := bnd_some H
            obtain ⟨h92, s93, h94, h95⟩ := Sl.at' (d := (Kd.pair Kd.str (Kd.pair (Kd.int .i64) (Kd.pair (Kd.int .i64) (Kd.pair (Kd.int .i64) (Kd.int .i64)))))) h8 h91
            obtain ⟨_, _, rfl, rfl, ⟨_, _, rfl, rfl, ⟨_, _, rfl, rfl, ⟨_, _, rfl, rfl, rfl⟩⟩⟩⟩ := h94
            refine U.seg 4 [1, 3, 5, 33, 34, 35] [(0, .s), (1, .lg (Value.agg #[Value.string x90.1, Value.int .i64 x90.2.1, Value.int .i64 x90.2.2.1, Value.int .i64 x90.2.2.2.1, Value.int .i64 x90.2.2.2.2])), (2, .al 5), (3, .st 5)] (fun K => ((0 : Int) ≤ x82 ∧ x82 < ((List.length x4) : Nat) ∧ FlatA a5 (List.length x4)) ∧ ((GLoad g ⟨ab a5, ao a5 + (Int.toNat (x82)) * 5, none⟩ true 5 (Value.agg #[Value.string x90.1, Value.int .i64 x90.2.1, Value.int .i64 x90.2.2.1, Value.int .i64 x90.2.2.2.1, Value.int .i64 x90.2.2.2.2])) ∧ (∀ b96 : Nat, (b96 = b96) ∧ (K [(1, Value.pointer (some ⟨b9, 0, none⟩)), (3, Value.map (some b21)), (5, Value.pointer (some ⟨b96, 0, none⟩)), (33, Value.slice a5 (List.length x4) c6), (34, Value.int .i64 ((List.length x4) : Int)), (35, Value.int .i64 x82)] ((5, Ent.blk b96 85 [Value.string x90.1, Value.int .i64 x90.2.1, Value.int .i64 x90.2.2.1, Value.int .i64 x90.2.2.2.1, Value.int .i64 x90.2.2.2.2]) :: (1, Ent.blk b9 81 [Value.int .i64 x1, Value.int .i64 x2, Value.int .i64 x3, Value.slice a5 (List.length x4) c6]) :: (2, Ent.mp b21 (mpE ek_9 ev_4 x83)) :: fr))))) (fun K => by kernel_rfl) 4 (by kernel_rfl) ?_
            refine ⟨h92, ?_⟩
            refine ⟨(h95 _ 0 _ _ _ rfl rfl rfl (OwnRead.agg rfl rfl)), ?_⟩
            intro b96
            refine ⟨rfl, ?_⟩
            refine WO.done (by kernel_rfl) ?_
            refine PO.nx ?_
            refine WP.seq (by kernel_rfl) ?_
            refine WP.block (id := 3) (by kernel_rfl) ?_
            refine WP.seq (by kernel_rfl) ?_
            refine WP.reg (by kernel_rfl) ?_
            refine U.seg 2 [1, 3, 5, 33, 34, 35, 41] [(1, .ld 5)] (fun K => (b96 = b96) ∧ (K [(1, Value.pointer (some ⟨b9, 0, none⟩)), (3, Value.map (some b21)), (5, Value.pointer (some ⟨b96, 0, none⟩)), (33, Value.slice a5 (List.length x4) c6), (34, Value.int .i64 ((List.length x4) : Int)), (35, Value.int .i64 x82), (41, Value.string x90.1)] ((5, Ent.blk b96 85 [Value.string x90.1, Value.int .i64 x90.2.1, Value.int .i64 x90.2.2.1, Value.int .i64 x90.2.2.2.1, Value.int .i64 x90.2.2.2.2]) :: (1, Ent.blk b9 81 [Value.int .i64 x1, Value.int .i64 x2, Value.int .i64 x3, Value.slice a5 (List.length x4) c6]) :: (2, Ent.mp b21 (mpE ek_9 ev_4 x83)) :: fr))) (fun K => by kernel_rfl) 2 (by kernel_rfl) ?_
            refine ⟨rfl, ?_⟩
            obtain ⟨x97, h98, H⟩ := bnd_some H
            refine U.step 3 (by kernel_rfl) (U.call (dst := some 42) (fun w hw => c_f109 kk x90.1 h98 hw) (by kernel_rfl) (enters_of Try.func109 (by kernel_rfl) rfl)) ?_
            rintro _ _
            refine U.seg 2 [1, 3, 5, 33, 34, 35, 39] [] (fun K => K [(1, Value.pointer (some ⟨b9, 0, none⟩)), (3, Value.map (some b21)), (5, Value.pointer (some ⟨b96, 0, none⟩)), (33, Value.slice a5 (List.length x4) c6), (34, Value.int .i64 ((List.length x4) : Int)), (35, Value.int .i64 x82), (39, Value.bool (!x97))] ((5, Ent.blk b96 85 [Value.string x90.1, Value.int .i64 x90.2.1, Value.int .i64 x90.2.2.1, Value.int .i64 x90.2.2.2.1, Value.int .i64 x90.2.2.2.2]) :: (1, Ent.blk b9 81 [Value.int .i64 x1, Value.int .i64 x2, Value.int .i64 x3, Value.slice a5 (List.length x4) c6]) :: (2, Ent.mp b21 (mpE ek_9 ev_4 x83)) :: fr)) (fun K => by kernel_rfl) 5 (by kernel_rfl) ?_
            refine WO.done (by kernel_rfl) ?_
            refine PO.nx ?_
            rcases cond_some H with ⟨h99, H⟩ | ⟨h99, H⟩
            · refine U.asW (t := 39) (congrArg Value.bool h99) (by kernel_rfl) ?_
              refine WP.condT (by kernel_rfl) ?_
              refine WP.seq (by kernel_rfl) ?_
              refine WP.reg (by kernel_rfl) ?_
              refine U.seg 1 [2] [] (fun K => K [(2, Value.int .i64 5)] ((5, Ent.blk b96 85 [Value.string x90.1, Value.int .i64 x90.2.1, Value.int .i64 x90.2.2.1, Value.int .i64 x90.2.2.2.1, Value.int .i64 x90.2.2.2.2]) :: (1, Ent.blk b9 81 [Value.int .i64 x1, Value.int .i64 x2, Value.int .i64 x3, Value.slice a5 (List.length x4) c6]) :: (2, Ent.mp b21 (mpE ek_9 ev_4 x83)) :: fr)) (fun K => by kernel_rfl) 1 (by kernel_rfl) ?_
              refine WO.done (by kernel_rfl) ?_
              refine PO.nx ?_
              refine WP.ret (by kernel_rfl) ?_
              refine PO.blk_ret ?_
              refine PO.nx_ret ?_
              refine PO.blk_ret ?_
              refine PO.nx_ret ?_
              refine PO.lp_ret ?_
              refine PO.blk_ret ?_
              refine PO.jn_ret ?_
              refine PO.nx_ret ?_
              have hq := Option.some.inj H
              subst hq
              have H := h87
              rw [← (show _ = o84 from h86)] at H
              have H : some 5 = some r := H
              have hr := Option.some.inj H
              subst hr
              refine PO.body [Value.int .i64 5] ((5, Ent.blk b96 85 [Value.string x90.1, Value.int .i64 x90.2.1, Value.int .i64 x90.2.2.1, Value.int .i64 x90.2.2.2.1, Value.int .i64 x90.2.2.2.2]) :: (1, Ent.blk b9 81 [Value.int .i64 x1, Value.int .i64 x2, Value.int .i64 x3, Value.slice a5 (List.length x4) c6]) :: (2, Ent.mp b21 (mpE ek_9 ev_4 x83)) :: fr) rfl (Res.tmp (by kernel_rfl) Res.nil) ?_
              exact fun w hw => Ret.mk () trivial rfl (okNT 3 [] (by kernel_rfl) rfl hw)
            · refine U.asW (t := 39) (congrArg Value.bool h99) (by kernel_rfl) ?_
              refine WP.condF (by kernel_rfl) ?_
              refine WP.seq (by kernel_rfl) ?_
              refine WP.reg (by kernel_rfl) ?_
              obtain ⟨x100, h101, H⟩ := bnd_some H
              refine U.seg 5 [1, 3, 5, 33, 34, 35, 44] [(2, .ld 5), (3, .mg 2 (Value.bool (Option.getD x100 false)))] (fun K => (b96 = b96) ∧ ((b21 = b21 ∧ LookOk Try.prog 212 (mpE ek_9 ev_4 x83) (Value.string x90.1) false (Value.bool (Option.getD x100 false))) ∧ (K [(1, Value.pointer (some ⟨b9, 0, none⟩)), (3, Value.map (some b21)), (5, Value.pointer (some ⟨b96, 0, none⟩)), (33, Value.slice a5 (List.length x4) c6), (34, Value.int .i64 ((List.length x4) : Int)), (35, Value.int .i64 x82), (44, Value.bool (Option.getD x100 false))] ((5, Ent.blk b96 85 [Value.string x90.1, Value.int .i64 x90.2.1, Value.int .i64 x90.2.2.1, Value.int .i64 x90.2.2.2.1, Value.int .i64 x90.2.2.2.2]) :: (1, Ent.blk b9 81 [Value.int .i64 x1, Value.int .i64 x2, Value.int .i64 x3, Value.slice a5 (List.length x4) c6]) :: (2, Ent.mp b21 (mpE ek_9 ev_4 x83)) :: fr)))) (fun K => by kernel_rfl) 5 (by kernel_rfl) ?_
              refine ⟨rfl, ?_⟩
              refine ⟨⟨rfl, look_ok (cok := false) (ev := ev_4) (k := x90.1) (z := false) (el := 4) KT_9 (by kernel_rfl) (by kernel_rfl) (Option.some.inj h101)⟩, ?_⟩
              refine WO.done (by kernel_rfl) ?_
              refine PO.nx ?_
              rcases cond_some H with ⟨h102, H⟩ | ⟨h102, H⟩
              · refine U.asW (t := 44) (congrArg Value.bool h102) (by kernel_rfl) ?_
                refine WP.condT (by kernel_rfl) ?_
                refine WP.seq (by kernel_rfl) ?_
                refine WP.reg (by kernel_rfl) ?_
                refine U.seg 1 [2] [] (fun K => K [(2, Value.int .i64 6)] ((5, Ent.blk b96 85 [Value.string x90.1, Value.int .i64 x90.2.1, Value.int .i64 x90.2.2.1, Value.int .i64 x90.2.2.2.1, Value.int .i64 x90.2.2.2.2]) :: (1, Ent.blk b9 81 [Value.int .i64 x1, Value.int .i64 x2, Value.int .i64 x3, Value.slice a5 (List.length x4) c6]) :: (2, Ent.mp b21 (mpE ek_9 ev_4 x83)) :: fr)) (fun K => by kernel_rfl) 1 (by kernel_rfl) ?_
                refine WO.done (by kernel_rfl) ?_
                refine PO.nx ?_
                refine WP.ret (by kernel_rfl) ?_
                refine PO.blk_ret ?_
                refine PO.nx_ret ?_
                refine PO.blk_ret ?_
                refine PO.nx_ret ?_
                refine PO.lp_ret ?_
                refine PO.blk_ret ?_
                refine PO.jn_ret ?_
                refine PO.nx_ret ?_
                have hq := Option.some.inj H
                subst hq
                have H := h87
                rw [← (show _ = o84 from h86)] at H
                have H : some 6 = some r := H
                have hr := Option.some.inj H
                subst hr
                refine PO.body [Value.int .i64 6] ((5, Ent.blk b96 85 [Value.string x90.1, Value.int .i64 x90.2.1, Value.int .i64 x90.2.2.1, Value.int .i64 x90.2.2.2.1, Value.int .i64 x90.2.2.2.2]) :: (1, Ent.blk b9 81 [Value.int .i64 x1, Value.int .i64 x2, Value.int .i64 x3, Value.slice a5 (List.length x4) c6]) :: (2, Ent.mp b21 (mpE ek_9 ev_4 x83)) :: fr) rfl (Res.tmp (by kernel_rfl) Res.nil) ?_
                exact fun w hw => Ret.mk () trivial rfl (okNT 3 [] (by kernel_rfl) rfl hw)
              · refine U.asW (t := 44) (congrArg Value.bool h102) (by kernel_rfl) ?_
                refine WP.condF (by kernel_rfl) ?_
                refine WP.seq (by kernel_rfl) ?_
                refine WP.join (fun s => ∃ (x111 : Bool), f61_j5 kk x111 x82 x83 x90 = some q85 ∧ s = { n := 104, e := [(1, Value.pointer (some ⟨b9, 0, none⟩)), (3, Value.map (some b21)), (5, Value.pointer (some ⟨b96, 0, none⟩)), (33, Value.slice a5 (List.length x4) c6), (34, Value.int .i64 ((List.length x4) : Int)), (35, Value.int .i64 x82), (49, Value.bool x111)], d := [], g := g, h := ((1, Ent.blk b9 81 [Value.int .i64 x1, Value.int .i64 x2, Value.int .i64 x3, Value.slice a5 (List.length x4) c6]) :: (2, Ent.mp b21 (mpE ek_9 ev_4 x83)) :: (5, Ent.blk b96 85 [Value.string x90.1, Value.int .i64 x90.2.1, Value.int .i64 x90.2.2.1, Value.int .i64 x90.2.2.2.1, Value.int .i64 x90.2.2.2.2]) :: fr) }) ?_ ?_
                · refine WP.reg (by kernel_rfl) ?_
                  refine U.seg 2 [1, 3, 5, 33, 34, 35, 51] [(1, .ld 5)] (fun K => (b96 = b96) ∧ (K [(1, Value.pointer (some ⟨b9, 0, none⟩)), (3, Value.map (some b21)), (5, Value.pointer (some ⟨b96, 0, none⟩)), (33, Value.slice a5 (List.length x4) c6), (34, Value.int .i64 ((List.length x4) : Int)), (35, Value.int .i64 x82), (51, Value.int .i64 x90.2.1)] ((5, Ent.blk b96 85 [Value.string x90.1, Value.int .i64 x90.2.1, Value.int .i64 x90.2.2.1, Value.int .i64 x90.2.2.2.1, Value.int .i64 x90.2.2.2.2]) :: (1, Ent.blk b9 81 [Value.int .i64 x1, Value.int .i64 x2, Value.int .i64 x3, Value.slice a5 (List.length x4) c6]) :: (2, Ent.mp b21 (mpE ek_9 ev_4 x83)) :: fr))) (fun K => by kernel_rfl) 2 (by kernel_rfl) ?_
                  refine ⟨rfl, ?_⟩
                  obtain ⟨x103, h104, H⟩ := bnd_some H
                  refine U.step 3 (by kernel_rfl) (U.call (dst := some 52) (fun w hw => c_f42 kk x90.2.1 1 2000 h104 hw) (by kernel_rfl) (enters_of Try.func42 (by kernel_rfl) rfl)) ?_
                  rintro _ _
                  refine U.seg 2 [1, 3, 5, 33, 34, 35, 54] [] (fun K => K [(1, Value.pointer (some ⟨b9, 0, none⟩)), (3, Value.map (some b21)), (5, Value.pointer (some ⟨b96, 0, none⟩)), (33, Value.slice a5 (List.length x4) c6), (34, Value.int .i64 ((List.length x4) : Int)), (35, Value.int .i64 x82), (54, Value.bool (!x103))] ((5, Ent.blk b96 85 [Value.string x90.1, Value.int .i64 x90.2.1, Value.int .i64 x90.2.2.1, Value.int .i64 x90.2.2.2.1, Value.int .i64 x90.2.2.2.2]) :: (1, Ent.blk b9 81 [Value.int .i64 x1, Value.int .i64 x2, Value.int .i64 x3, Value.slice a5 (List.length x4) c6]) :: (2, Ent.mp b21 (mpE ek_9 ev_4 x83)) :: fr)) (fun K => by kernel_rfl) 5 (by kernel_rfl) ?_
                  rcases cond_some H with ⟨h105, H⟩ | ⟨h105, H⟩
                  · refine U.as (t := 54) (congrArg Value.bool h105) (by kernel_rfl) ?_
                    refine U.seg 12 [1, 3, 5, 33, 34, 35, 49, 55, 56, 57, 58, 61, 62, 63, 64] [] (fun K => K [(1, Value.pointer (some ⟨b9, 0, none⟩)), (3, Value.map (some b21)), (5, Value.pointer (some ⟨b96, 0, none⟩)), (33, Value.slice a5 (List.length x4) c6), (34, Value.int .i64 ((List.length x4) : Int)), (35, Value.int .i64 x82), (49, Value.bool true), (55, undef), (56, undef), (57, undef), (58, undef), (61, undef), (62, undef), (63, undef), (64, undef)] ((5, Ent.blk b96 85 [Value.string x90.1, Value.int .i64 x90.2.1, Value.int .i64 x90.2.2.1, Value.int .i64 x90.2.2.2.1, Value.int .i64 x90.2.2.2.2]) :: (1, Ent.blk b9 81 [Value.int .i64 x1, Value.int .i64 x2, Value.int .i64 x3, Value.slice a5 (List.length x4) c6]) :: (2, Ent.mp b21 (mpE ek_9 ev_4 x83)) :: fr)) (fun K => by kernel_rfl) 17 (by kernel_rfl) ?_
                    refine WO.done (by kernel_rfl) ?_
                    refine PO.jn ⟨true, H, rfl⟩ ?_
                    exact (St.ok.to [1, 3, 5, 33, 34, 35, 49] 3 [(1, 1), (2, 2), (5, 0)] (by kernel_rfl) rfl (by kernel_rfl) rfl rfl (by kernel_rfl))
                  · refine U.as (t := 54) (congrArg Value.bool h105) (by kernel_rfl) ?_
                    refine U.seg 2 [1, 3, 5, 33, 34, 35, 54, 55, 56] [(6, .ld 5)] (fun K => (b96 = b96) ∧ (K [(1, Value.pointer (some ⟨b9, 0, none⟩)), (3, Value.map (some b21)), (5, Value.pointer (some ⟨b96, 0, none⟩)), (33, Value.slice a5 (List.length x4) c6), (34, Value.int .i64 ((List.length x4) : Int)), (35, Value.int .i64 x82), (54, Value.bool false), (55, Value.pointer (some ⟨b96, 2, none⟩)), (56, Value.int .i64 x90.2.2.1)] ((5, Ent.blk b96 85 [Value.string x90.1, Value.int .i64 x90.2.1, Value.int .i64 x90.2.2.1, Value.int .i64 x90.2.2.2.1, Value.int .i64 x90.2.2.2.2]) :: (1, Ent.blk b9 81 [Value.int .i64 x1, Value.int .i64 x2, Value.int .i64 x3, Value.slice a5 (List.length x4) c6]) :: (2, Ent.mp b21 (mpE ek_9 ev_4 x83)) :: fr))) (fun K => by kernel_rfl) 7 (by kernel_rfl) ?_
                    refine ⟨rfl, ?_⟩
                    obtain ⟨x106, h107, H⟩ := bnd_some H
                    refine U.step 8 (by kernel_rfl) (U.call (dst := some 57) (fun w hw => c_f42 kk x90.2.2.1 0 9 h107 hw) (by kernel_rfl) (enters_of Try.func42 (by kernel_rfl) rfl)) ?_
                    rintro _ _
                    refine U.seg 3 [1, 3, 5, 33, 34, 35, 55, 56, 57, 58, 60] [] (fun K => K [(1, Value.pointer (some ⟨b9, 0, none⟩)), (3, Value.map (some b21)), (5, Value.pointer (some ⟨b96, 0, none⟩)), (33, Value.slice a5 (List.length x4) c6), (34, Value.int .i64 ((List.length x4) : Int)), (35, Value.int .i64 x82), (55, Value.pointer (some ⟨b96, 2, none⟩)), (56, Value.int .i64 x90.2.2.1), (57, Value.bool x106), (58, Value.bool (!x106)), (60, Value.bool (!x106))] ((5, Ent.blk b96 85 [Value.string x90.1, Value.int .i64 x90.2.1, Value.int .i64 x90.2.2.1, Value.int .i64 x90.2.2.2.1, Value.int .i64 x90.2.2.2.2]) :: (1, Ent.blk b9 81 [Value.int .i64 x1, Value.int .i64 x2, Value.int .i64 x3, Value.slice a5 (List.length x4) c6]) :: (2, Ent.mp b21 (mpE ek_9 ev_4 x83)) :: fr)) (fun K => by kernel_rfl) 11 (by kernel_rfl) ?_
                    rcases cond_some H with ⟨h108, H⟩ | ⟨h108, H⟩
                    · refine U.as (t := 60) (congrArg Value.bool h108) (by kernel_rfl) ?_
                      refine U.seg 6 [1, 3, 5, 33, 34, 35, 49, 55, 56, 57, 58, 61, 62, 63, 64] [] (fun K => K [(1, Value.pointer (some ⟨b9, 0, none⟩)), (3, Value.map (some b21)), (5, Value.pointer (some ⟨b96, 0, none⟩)), (33, Value.slice a5 (List.length x4) c6), (34, Value.int .i64 ((List.length x4) : Int)), (35, Value.int .i64 x82), (49, Value.bool true), (55, Value.pointer (some ⟨b96, 2, none⟩)), (56, Value.int .i64 x90.2.2.1), (57, Value.bool x106), (58, Value.bool (!x106)), (61, undef), (62, undef), (63, undef), (64, undef)] ((5, Ent.blk b96 85 [Value.string x90.1, Value.int .i64 x90.2.1, Value.int .i64 x90.2.2.1, Value.int .i64 x90.2.2.2.1, Value.int .i64 x90.2.2.2.2]) :: (1, Ent.blk b9 81 [Value.int .i64 x1, Value.int .i64 x2, Value.int .i64 x3, Value.slice a5 (List.length x4) c6]) :: (2, Ent.mp b21 (mpE ek_9 ev_4 x83)) :: fr)) (fun K => by kernel_rfl) 17 (by kernel_rfl) ?_
                      refine WO.done (by kernel_rfl) ?_
                      refine PO.jn ⟨true, H, rfl⟩ ?_
                      exact (St.ok.to [1, 3, 5, 33, 34, 35, 49] 3 [(1, 1), (2, 2), (5, 0)] (by kernel_rfl) rfl (by kernel_rfl) rfl rfl (by kernel_rfl))
                    · refine U.as (t := 60) (congrArg Value.bool h108) (by kernel_rfl) ?_
                      refine U.seg 2 [1, 3, 5, 33, 34, 35, 55, 56, 57, 58, 60, 61, 62] [(12, .ld 5)] (fun K => (b96 = b96) ∧ (K [(1, Value.pointer (some ⟨b9, 0, none⟩)), (3, Value.map (some b21)), (5, Value.pointer (some ⟨b96, 0, none⟩)), (33, Value.slice a5 (List.length x4) c6), (34, Value.int .i64 ((List.length x4) : Int)), (35, Value.int .i64 x82), (55, Value.pointer (some ⟨b96, 2, none⟩)), (56, Value.int .i64 x90.2.2.1), (57, Value.bool x106), (58, Value.bool (!x106)), (60, Value.bool false), (61, Value.pointer (some ⟨b96, 3, none⟩)), (62, Value.int .i64 x90.2.2.2.1)] ((5, Ent.blk b96 85 [Value.string x90.1, Value.int .i64 x90.2.1, Value.int .i64 x90.2.2.1, Value.int .i64 x90.2.2.2.1, Value.int .i64 x90.2.2.2.2]) :: (1, Ent.blk b9 81 [Value.int .i64 x1, Value.int .i64 x2, Value.int .i64 x3, Value.slice a5 (List.length x4) c6]) :: (2, Ent.mp b21 (mpE ek_9 ev_4 x83)) :: fr))) (fun K => by kernel_rfl) 13 (by kernel_rfl) ?_
                      refine ⟨rfl, ?_⟩
                      obtain ⟨x109, h110, H⟩ := bnd_some H
                      refine U.step 14 (by kernel_rfl) (U.call (dst := some 63) (fun w hw => c_f42 kk x90.2.2.2.1 0 9 h110 hw) (by kernel_rfl) (enters_of Try.func42 (by kernel_rfl) rfl)) ?_
                      rintro _ _
                      refine U.seg 3 [1, 3, 5, 33, 34, 35, 49, 55, 56, 57, 58, 61, 62, 63, 64] [] (fun K => K [(1, Value.pointer (some ⟨b9, 0, none⟩)), (3, Value.map (some b21)), (5, Value.pointer (some ⟨b96, 0, none⟩)), (33, Value.slice a5 (List.length x4) c6), (34, Value.int .i64 ((List.length x4) : Int)), (35, Value.int .i64 x82), (49, Value.bool (!x109)), (55, Value.pointer (some ⟨b96, 2, none⟩)), (56, Value.int .i64 x90.2.2.1), (57, Value.bool x106), (58, Value.bool (!x106)), (61, Value.pointer (some ⟨b96, 3, none⟩)), (62, Value.int .i64 x90.2.2.2.1), (63, Value.bool x109), (64, Value.bool (!x109))] ((5, Ent.blk b96 85 [Value.string x90.1, Value.int .i64 x90.2.1, Value.int .i64 x90.2.2.1, Value.int .i64 x90.2.2.2.1, Value.int .i64 x90.2.2.2.2]) :: (1, Ent.blk b9 81 [Value.int .i64 x1, Value.int .i64 x2, Value.int .i64 x3, Value.slice a5 (List.length x4) c6]) :: (2, Ent.mp b21 (mpE ek_9 ev_4 x83)) :: fr)) (fun K => by kernel_rfl) 17 (by kernel_rfl) ?_
                      refine WO.done (by kernel_rfl) ?_
                      refine PO.jn ⟨(!x109), H, rfl⟩ ?_
                      exact (St.ok.to [1, 3, 5, 33, 34, 35, 49] 3 [(1, 1), (2, 2), (5, 0)] (by kernel_rfl) rfl (by kernel_rfl) rfl rfl (by kernel_rfl))
                · rintro _ ⟨x111, H, rfl⟩
                  unfold f61_j5 at H
                  refine PO.nx ?_
                  rcases cond_some H with ⟨h112, H⟩ | ⟨h112, H⟩
                  · refine U.asW (t := 49) (congrArg Value.bool h112) (by kernel_rfl) ?_
                    refine WP.condT (by kernel_rfl) ?_
                    refine WP.seq (by kernel_rfl) ?_
                    refine WP.reg (by kernel_rfl) ?_
                    refine U.seg 1 [2] [] (fun K => K [(2, Value.int .i64 1)] ((1, Ent.blk b9 81 [Value.int .i64 x1, Value.int .i64 x2, Value.int .i64 x3, Value.slice a5 (List.length x4) c6]) :: (2, Ent.mp b21 (mpE ek_9 ev_4 x83)) :: (5, Ent.blk b96 85 [Value.string x90.1, Value.int .i64 x90.2.1, Value.int .i64 x90.2.2.1, Value.int .i64 x90.2.2.2.1, Value.int .i64 x90.2.2.2.2]) :: fr)) (fun K => by kernel_rfl) 1 (by kernel_rfl) ?_
                    refine WO.done (by kernel_rfl) ?_
                    refine PO.nx ?_
                    refine WP.ret (by kernel_rfl) ?_
                    refine PO.blk_ret ?_
                    refine PO.nx_ret ?_
                    refine PO.blk_ret ?_
                    refine PO.nx_ret ?_
                    refine PO.lp_ret ?_
                    refine PO.blk_ret ?_
                    refine PO.jn_ret ?_
                    refine PO.nx_ret ?_
                    have hq := Option.some.inj H
                    subst hq
                    have H := h87
                    rw [← (show _ = o84 from h86)] at H
                    have H : some 1 = some r := H
                    have hr := Option.some.inj H
                    subst hr
                    refine PO.body [Value.int .i64 1] ((1, Ent.blk b9 81 [Value.int .i64 x1, Value.int .i64 x2, Value.int .i64 x3, Value.slice a5 (List.length x4) c6]) :: (2, Ent.mp b21 (mpE ek_9 ev_4 x83)) :: (5, Ent.blk b96 85 [Value.string x90.1, Value.int .i64 x90.2.1, Value.int .i64 x90.2.2.1, Value.int .i64 x90.2.2.2.1, Value.int .i64 x90.2.2.2.2]) :: fr) rfl (Res.tmp (by kernel_rfl) Res.nil) ?_
                    exact fun w hw => Ret.mk () trivial rfl (okNT 3 [] (by kernel_rfl) rfl hw)
                  · refine U.asW (t := 49) (congrArg Value.bool h112) (by kernel_rfl) ?_
                    refine WP.condF (by kernel_rfl) ?_
                    refine WP.skip (by kernel_rfl) ?_
                    refine PO.blk_normal ?_
                    refine PO.nx ?_
                    refine WP.reg (by kernel_rfl) ?_
                    refine U.seg 3 [1, 3, 33, 34, 35, 66, 68] [(2, .ld 5)] (fun K => (b96 = b96) ∧ (K [(1, Value.pointer (some ⟨b9, 0, none⟩)), (3, Value.map (some b21)), (33, Value.slice a5 (List.length x4) c6), (34, Value.int .i64 ((List.length x4) : Int)), (35, Value.int .i64 x82), (66, Value.map (some b21)), (68, Value.string x90.1)] ((1, Ent.blk b9 81 [Value.int .i64 x1, Value.int .i64 x2, Value.int .i64 x3, Value.slice a5 (List.length x4) c6]) :: (2, Ent.mp b21 (mpE ek_9 ev_4 x83)) :: (5, Ent.blk b96 85 [Value.string x90.1, Value.int .i64 x90.2.1, Value.int .i64 x90.2.2.1, Value.int .i64 x90.2.2.2.1, Value.int .i64 x90.2.2.2.2]) :: fr))) (fun K => by kernel_rfl) 3 (by kernel_rfl) ?_
                    refine ⟨rfl, ?_⟩
                    refine U.step 4 (by kernel_rfl) (U.put (dst := none) (T := 212) (el := 4) (t := 2) (b := b21) (ev := ev_4) x83 x90.1 true KT_9 (by kernel_rfl) (by kernel_rfl) (by kernel_rfl)) ?_
                    rintro _ _
                    refine WO.done (by kernel_rfl) ?_
                    refine PO.blk_normal ?_
                    refine PO.nx ?_
                    refine WP.reg (by kernel_rfl) ?_
                    refine U.seg 2 [1, 3, 33, 34, 35] [] (fun K => K [(1, Value.pointer (some ⟨b9, 0, none⟩)), (3, Value.map (some b21)), (33, Value.slice a5 (List.length x4) c6), (34, Value.int .i64 ((List.length x4) : Int)), (35, Value.int .i64 (w64 (x82 + 1)))] ((1, Ent.blk b9 81 [Value.int .i64 x1, Value.int .i64 x2, Value.int .i64 x3, Value.slice a5 (List.length x4) c6]) :: (2, Ent.mp b21 (mpE ek_9 ev_4 (mput qk_9 x83 x90.1 true))) :: (5, Ent.blk b96 85 [Value.string x90.1, Value.int .i64 x90.2.1, Value.int .i64 x90.2.2.1, Value.int .i64 x90.2.2.2.1, Value.int .i64 x90.2.2.2.2]) :: fr)) (fun K => by kernel_rfl) 2 (by kernel_rfl) ?_
                    refine WO.done (by kernel_rfl) ?_
                    have hq := Option.some.inj H
                    subst hq
                    refine PO.againW ⟨(w64 (x82 + 1)), (mput qk_9 x83 x90.1 true), h86, rfl⟩ ?_ (Nat.lt_succ_self _)
                    exact (St.ok.to [1, 3, 33, 34, 35] 3 [(1, 0), (2, 1)] (by kernel_rfl) rfl (by kernel_rfl) rfl rfl (by kernel_rfl))
          · refine U.asW (t := 36) (congrArg Value.bool h89) (by kernel_rfl) ?_
            refine WP.condF (by kernel_rfl) ?_
            refine WP.exit (id := 1) (by kernel_rfl) ?_
            refine PO.nx_exit ?_
            refine PO.lp_exit ?_
            refine PO.blk_exit ?_
            have hq := Option.some.inj H
            subst hq
            have H := h87
            rw [← (show _ = o84 from h86)] at H
            have H : f61_j6 kk x4 = some r := H
            refine PO.jn ⟨H, rfl⟩ ?_
            exact (St.ok.to [1] 2 [(1, 0)] (by kernel_rfl) rfl (by kernel_rfl) rfl rfl (by kernel_rfl))
        · rintro _ ⟨H, rfl⟩
          unfold f61_j6 at H
          refine PO.nx ?_
          refine WP.seq (by kernel_rfl) ?_
          refine WP.seq (by kernel_rfl) ?_
          refine WP.reg (by kernel_rfl) ?_
          refine U.seg 4 [1, 71, 72, 73] [(1, .ld 1)] (fun K => (b9 = b9) ∧ (K [(1, Value.pointer (some ⟨b9, 0, none⟩)), (71, Value.slice a5 (List.length x4) c6), (72, Value.int .i64 ((List.length x4) : Int)), (73, Value.int .i64 0)] ((1, Ent.blk b9 81 [Value.int .i64 x1, Value.int .i64 x2, Value.int .i64 x3, Value.slice a5 (List.length x4) c6]) :: fr))) (fun K => by kernel_rfl) 4 (by kernel_rfl) ?_
          refine ⟨rfl, ?_⟩
          refine WO.done (by kernel_rfl) ?_
          refine PO.nx ?_
          refine WP.join (fun s => f61_j11 kk = some r ∧ s = { n := 104, e := [], d := [], g := g, h := (fr) }) ?_ ?_
          · refine WP.block (id := 4) (by kernel_rfl) ?_
            obtain ⟨o191, h231, h194⟩ := bnd_some H
            refine WP.loopW (by kernel_rfl) (fun n s => ∃ (x190 : Int), iter (fun y : Int => f61_l9 kk y x4) n x190 = some o191 ∧ s = { n := 104, e := [(1, Value.pointer (some ⟨b9, 0, none⟩)), (71, Value.slice a5 (List.length x4) c6), (72, Value.int .i64 ((List.length x4) : Int)), (73, Value.int .i64 x190)], d := [], g := g, h := ((1, Ent.blk b9 81 [Value.int .i64 x1, Value.int .i64 x2, Value.int .i64 x3, Value.slice a5 (List.length x4) c6]) :: fr) }) (k := kk) ⟨0, h231, rfl⟩ (St.ok.to [1, 71, 72, 73] 1 [(1, 0)] (by kernel_rfl) rfl (by kernel_rfl) rfl rfl (by kernel_rfl)) ?_
            intro n226 s
            rintro ⟨x190, h227, rfl⟩
            obtain ⟨n195, q192, h229, h230, h193⟩ := iter_some h227
            subst h229
            have H : f61_l9 kk x190 x4 = some q192 := h230
            unfold f61_l9 at H
            refine WP.seq (by kernel_rfl) ?_
            refine WP.reg (by kernel_rfl) ?_
            refine U.seg 1 [1, 71, 72, 73, 74] [] (fun K => K [(1, Value.pointer (some ⟨b9, 0, none⟩)), (71, Value.slice a5 (List.length x4) c6), (72, Value.int .i64 ((List.length x4) : Int)), (73, Value.int .i64 x190), (74, Value.bool (decide (x190 < ((List.length x4) : Int))))] ((1, Ent.blk b9 81 [Value.int .i64 x1, Value.int .i64 x2, Value.int .i64 x3, Value.slice a5 (List.length x4) c6]) :: fr)) (fun K => by kernel_rfl) 1 (by kernel_rfl) ?_
            refine WO.done (by kernel_rfl) ?_
            refine PO.nx ?_
            refine WP.seq (by kernel_rfl) ?_
            rcases cond_some H with ⟨h196, H⟩ | ⟨h196, H⟩
            · refine U.asW (t := 74) (congrArg Value.bool h196) (by kernel_rfl) ?_
              refine WP.condT (by kernel_rfl) ?_
              refine WP.skip (by kernel_rfl) ?_
              refine PO.nx ?_
              refine WP.seq (by kernel_rfl) ?_
              refine WP.block (id := 5) (by kernel_rfl) ?_
              refine WP.seq (by kernel_rfl) ?_
              refine WP.reg (by kernel_rfl) ?_
              obtain ⟨x197, h198, H⟩ := bnd_some H
              obtain ⟨h199, s200, h201, h202⟩ := Sl.at' (d := (Kd.pair Kd.str (Kd.pair (Kd.int .i64) (Kd.pair (Kd.int .i64) (Kd.pair (Kd.int .i64) (Kd.int .i64)))))) h8 h198
              obtain ⟨_, _, rfl, rfl, ⟨_, _, rfl, rfl, ⟨_, _, rfl, rfl, ⟨_, _, rfl, rfl, rfl⟩⟩⟩⟩ := h201
              refine U.seg 6 [1, 6, 7, 71, 72, 73] [(1, .s), (2, .lg (Value.agg #[Value.string x197.1, Value.int .i64 x197.2.1, Value.int .i64 x197.2.2.1, Value.int .i64 x197.2.2.2.1, Value.int .i64 x197.2.2.2.2])), (3, .al 10), (5, .st 10)] (fun K => ((0 : Int) ≤ x190 ∧ x190 < ((List.length x4) : Nat) ∧ FlatA a5 (List.length x4)) ∧ ((GLoad g ⟨ab a5, ao a5 + (Int.toNat (x190)) * 5, none⟩ true 5 (Value.agg #[Value.string x197.1, Value.int .i64 x197.2.1, Value.int .i64 x197.2.2.1, Value.int .i64 x197.2.2.2.1, Value.int .i64 x197.2.2.2.2])) ∧ (∀ b203 : Nat, (b203 = b203) ∧ (K [(1, Value.pointer (some ⟨b9, 0, none⟩)), (6, Value.int .i64 x190), (7, Value.pointer (some ⟨b203, 0, none⟩)), (71, Value.slice a5 (List.length x4) c6), (72, Value.int .i64 ((List.length x4) : Int)), (73, Value.int .i64 x190)] ((10, Ent.blk b203 85 [Value.string x197.1, Value.int .i64 x197.2.1, Value.int .i64 x197.2.2.1, Value.int .i64 x197.2.2.2.1, Value.int .i64 x197.2.2.2.2]) :: (1, Ent.blk b9 81 [Value.int .i64 x1, Value.int .i64 x2, Value.int .i64 x3, Value.slice a5 (List.length x4) c6]) :: fr))))) (fun K => by kernel_rfl) 6 (by kernel_rfl) ?_
              refine ⟨h199, ?_⟩
              refine ⟨(h202 _ 0 _ _ _ rfl rfl rfl (OwnRead.agg rfl rfl)), ?_⟩
              intro b203
              refine ⟨rfl, ?_⟩
              refine WO.done (by kernel_rfl) ?_
              refine PO.nx ?_
              refine WP.seq (by kernel_rfl) ?_
              refine WP.seq (by kernel_rfl) ?_
              refine WP.reg (by kernel_rfl) ?_
              refine U.seg 6 [1, 6, 7, 71, 72, 73, 79, 83] [(1, .ld 10), (3, .ld 1)] (fun K => (b203 = b203) ∧ ((b9 = b9) ∧ (K [(1, Value.pointer (some ⟨b9, 0, none⟩)), (6, Value.int .i64 x190), (7, Value.pointer (some ⟨b203, 0, none⟩)), (71, Value.slice a5 (List.length x4) c6), (72, Value.int .i64 ((List.length x4) : Int)), (73, Value.int .i64 x190), (79, Value.int .i64 x197.2.2.2.2), (83, Value.int .i64 (w64 (((List.length x4) : Int) - 1)))] ((10, Ent.blk b203 85 [Value.string x197.1, Value.int .i64 x197.2.1, Value.int .i64 x197.2.2.1, Value.int .i64 x197.2.2.2.1, Value.int .i64 x197.2.2.2.2]) :: (1, Ent.blk b9 81 [Value.int .i64 x1, Value.int .i64 x2, Value.int .i64 x3, Value.slice a5 (List.length x4) c6]) :: fr)))) (fun K => by kernel_rfl) 6 (by kernel_rfl) ?_
              refine ⟨rfl, ?_⟩
              refine ⟨rfl, ?_⟩
              obtain ⟨x204, h205, H⟩ := bnd_some H
              refine U.step 7 (by kernel_rfl) (U.call (dst := some 84) (fun w hw => c_f42 kk x197.2.2.2.2 0 (w64 (((List.length x4) : Int) - 1)) h205 hw) (by kernel_rfl) (enters_of Try.func42 (by kernel_rfl) rfl)) ?_
              rintro _ _
              refine U.seg 1 [1, 6, 7, 71, 72, 73, 85] [] (fun K => K [(1, Value.pointer (some ⟨b9, 0, none⟩)), (6, Value.int .i64 x190), (7, Value.pointer (some ⟨b203, 0, none⟩)), (71, Value.slice a5 (List.length x4) c6), (72, Value.int .i64 ((List.length x4) : Int)), (73, Value.int .i64 x190), (85, Value.bool (!x204))] ((10, Ent.blk b203 85 [Value.string x197.1, Value.int .i64 x197.2.1, Value.int .i64 x197.2.2.1, Value.int .i64 x197.2.2.2.1, Value.int .i64 x197.2.2.2.2]) :: (1, Ent.blk b9 81 [Value.int .i64 x1, Value.int .i64 x2, Value.int .i64 x3, Value.slice a5 (List.length x4) c6]) :: fr)) (fun K => by kernel_rfl) 8 (by kernel_rfl) ?_
              refine WO.done (by kernel_rfl) ?_
              refine PO.nx ?_
              rcases cond_some H with ⟨h206, H⟩ | ⟨h206, H⟩
              · refine U.asW (t := 85) (congrArg Value.bool h206) (by kernel_rfl) ?_
                refine WP.condT (by kernel_rfl) ?_
                refine WP.seq (by kernel_rfl) ?_
                refine WP.reg (by kernel_rfl) ?_
                refine U.seg 1 [2] [] (fun K => K [(2, Value.int .i64 7)] ((10, Ent.blk b203 85 [Value.string x197.1, Value.int .i64 x197.2.1, Value.int .i64 x197.2.2.1, Value.int .i64 x197.2.2.2.1, Value.int .i64 x197.2.2.2.2]) :: (1, Ent.blk b9 81 [Value.int .i64 x1, Value.int .i64 x2, Value.int .i64 x3, Value.slice a5 (List.length x4) c6]) :: fr)) (fun K => by kernel_rfl) 1 (by kernel_rfl) ?_
                refine WO.done (by kernel_rfl) ?_
                refine PO.nx ?_
                refine WP.ret (by kernel_rfl) ?_
                refine PO.nx_ret ?_
                refine PO.blk_ret ?_
                refine PO.nx_ret ?_
                refine PO.lp_ret ?_
                refine PO.blk_ret ?_
                refine PO.jn_ret ?_
                refine PO.nx_ret ?_
                have hq := Option.some.inj H
                subst hq
                have H := h194
                rw [← (show _ = o191 from h193)] at H
                have H : some 7 = some r := H
                have hr := Option.some.inj H
                subst hr
                refine PO.body [Value.int .i64 7] ((10, Ent.blk b203 85 [Value.string x197.1, Value.int .i64 x197.2.1, Value.int .i64 x197.2.2.1, Value.int .i64 x197.2.2.2.1, Value.int .i64 x197.2.2.2.2]) :: (1, Ent.blk b9 81 [Value.int .i64 x1, Value.int .i64 x2, Value.int .i64 x3, Value.slice a5 (List.length x4) c6]) :: fr) rfl (Res.tmp (by kernel_rfl) Res.nil) ?_
                exact fun w hw => Ret.mk () trivial rfl (okNT 2 [] (by kernel_rfl) rfl hw)
              · refine U.asW (t := 85) (congrArg Value.bool h206) (by kernel_rfl) ?_
                refine WP.condF (by kernel_rfl) ?_
                refine WP.skip (by kernel_rfl) ?_
                refine PO.nx ?_
                refine WP.seq (by kernel_rfl) ?_
                refine WP.reg (by kernel_rfl) ?_
                obtain ⟨x207, h208, H⟩ := bnd_some H
                obtain ⟨h209, s210, h211, h212⟩ := Sl.at' (d := (Kd.pair Kd.str (Kd.pair (Kd.int .i64) (Kd.pair (Kd.int .i64) (Kd.pair (Kd.int .i64) (Kd.int .i64)))))) h8 h208
                obtain ⟨_, _, rfl, rfl, ⟨_, _, rfl, rfl, ⟨_, _, rfl, rfl, ⟨_, _, rfl, rfl, rfl⟩⟩⟩⟩ := h211
                refine U.seg 8 [1, 6, 7, 8, 71, 72, 73] [(1, .ld 1), (3, .ld 10), (4, .s), (5, .lg (Value.agg #[Value.string x207.1, Value.int .i64 x207.2.1, Value.int .i64 x207.2.2.1, Value.int .i64 x207.2.2.2.1, Value.int .i64 x207.2.2.2.2])), (6, .al 11), (7, .st 11)] (fun K => (b9 = b9) ∧ ((b203 = b203) ∧ (((0 : Int) ≤ x197.2.2.2.2 ∧ x197.2.2.2.2 < ((List.length x4) : Nat) ∧ FlatA a5 (List.length x4)) ∧ ((GLoad g ⟨ab a5, ao a5 + (Int.toNat (x197.2.2.2.2)) * 5, none⟩ true 5 (Value.agg #[Value.string x207.1, Value.int .i64 x207.2.1, Value.int .i64 x207.2.2.1, Value.int .i64 x207.2.2.2.1, Value.int .i64 x207.2.2.2.2])) ∧ (∀ b213 : Nat, (b213 = b213) ∧ (K [(1, Value.pointer (some ⟨b9, 0, none⟩)), (6, Value.int .i64 x190), (7, Value.pointer (some ⟨b203, 0, none⟩)), (8, Value.pointer (some ⟨b213, 0, none⟩)), (71, Value.slice a5 (List.length x4) c6), (72, Value.int .i64 ((List.length x4) : Int)), (73, Value.int .i64 x190)] ((11, Ent.blk b213 85 [Value.string x207.1, Value.int .i64 x207.2.1, Value.int .i64 x207.2.2.1, Value.int .i64 x207.2.2.2.1, Value.int .i64 x207.2.2.2.2]) :: (10, Ent.blk b203 85 [Value.string x197.1, Value.int .i64 x197.2.1, Value.int .i64 x197.2.2.1, Value.int .i64 x197.2.2.2.1, Value.int .i64 x197.2.2.2.2]) :: (1, Ent.blk b9 81 [Value.int .i64 x1, Value.int .i64 x2, Value.int .i64 x3, Value.slice a5 (List.length x4) c6]) :: fr))))))) (fun K => by kernel_rfl) 8 (by kernel_rfl) ?_
                refine ⟨rfl, ?_⟩
                refine ⟨rfl, ?_⟩
                refine ⟨h209, ?_⟩
                refine ⟨(h212 _ 0 _ _ _ rfl rfl rfl (OwnRead.agg rfl rfl)), ?_⟩
                intro b213
                refine ⟨rfl, ?_⟩
                refine WO.done (by kernel_rfl) ?_
                refine PO.nx ?_
                refine WP.seq (by kernel_rfl) ?_
                refine WP.join (fun s => ∃ (x223 : Bool), f61_j10 kk x223 x190 = some q192 ∧ s = { n := 104, e := [(1, Value.pointer (some ⟨b9, 0, none⟩)), (71, Value.slice a5 (List.length x4) c6), (72, Value.int .i64 ((List.length x4) : Int)), (73, Value.int .i64 x190), (102, Value.bool x223)], d := [], g := g, h := ((1, Ent.blk b9 81 [Value.int .i64 x1, Value.int .i64 x2, Value.int .i64 x3, Value.slice a5 (List.length x4) c6]) :: fr) }) ?_ ?_
                · refine U.draw [] g [(11, Ent.blk b213 85 [Value.string x207.1, Value.int .i64 x207.2.1, Value.int .i64 x207.2.2.1, Value.int .i64 x207.2.2.2.1, Value.int .i64 x207.2.2.2.2]), (10, Ent.blk b203 85 [Value.string x197.1, Value.int .i64 x197.2.1, Value.int .i64 x197.2.2.1, Value.int .i64 x197.2.2.2.1, Value.int .i64 x197.2.2.2.2]), (1, Ent.blk b9 81 [Value.int .i64 x1, Value.int .i64 x2, Value.int .i64 x3, Value.slice a5 (List.length x4) c6])] (by kernel_rfl) (by kernel_rfl) 11 (by kernel_rfl) (fun w hw => Ok.pickTo [(11, 0), (10, 1), (1, 2)] (by kernel_rfl) (by kernel_rfl) (GH.le_refl _) hw) ?_
                  refine U.take 6 [0, 1, 2, 3, 4] [1, 7, 8, 71, 72, 73, 96] [4, 3, 2, 1, 0] [(1, .ld 11)] (fun K => (b213 = b213) ∧ (K [(1, Value.pointer (some ⟨b9, 0, none⟩)), (7, Value.pointer (some ⟨b203, 0, none⟩)), (8, Value.pointer (some ⟨b213, 0, none⟩)), (71, Value.slice a5 (List.length x4) c6), (72, Value.int .i64 ((List.length x4) : Int)), (73, Value.int .i64 x190), (96, Value.bool (x207.2.2.2.2 != x190))])) (fun K => by kernel_rfl) (by kernel_rfl) (by kernel_rfl) (by kernel_rfl) ?_
                  refine ⟨rfl, ?_⟩
                  rcases cond_some H with ⟨h218, H⟩ | ⟨h218, H⟩
                  · refine U.asD (t := 96) (congrArg Value.bool h218) (by kernel_rfl) ?_
                    refine U.take 0 [5, 6, 7, 8, 9, 10] [1, 71, 72, 73, 97, 98, 99, 100, 101, 102] [10, 9, 8, 7, 6, 5, 4, 3, 2, 1, 0] [] (fun K => K [(1, Value.pointer (some ⟨b9, 0, none⟩)), (71, Value.slice a5 (List.length x4) c6), (72, Value.int .i64 ((List.length x4) : Int)), (73, Value.int .i64 x190), (97, undef), (98, undef), (99, undef), (100, undef), (101, undef), (102, Value.bool true)]) (fun K => by kernel_rfl) (by kernel_rfl) (by kernel_rfl) (by kernel_rfl) ?_
                    refine WD.done (by kernel_rfl) ?_
                    refine PO.jn ⟨true, H, rfl⟩ ?_
                    exact (St.ok.to [1, 71, 72, 73, 102] 3 [(1, 2)] (by kernel_rfl) rfl (by kernel_rfl) rfl rfl (by kernel_rfl))
                  · refine U.asD (t := 96) (congrArg Value.bool h218) (by kernel_rfl) ?_
                    refine U.take 4 [5, 7] [1, 71, 72, 73, 96, 97, 99] [7, 5, 4, 3, 2, 1, 0] [(5, .ld 11), (7, .ld 10)] (fun K => (b213 = b213) ∧ ((b203 = b203) ∧ (K [(1, Value.pointer (some ⟨b9, 0, none⟩)), (71, Value.slice a5 (List.length x4) c6), (72, Value.int .i64 ((List.length x4) : Int)), (73, Value.int .i64 x190), (96, Value.bool false), (97, Value.agg #[Value.string x207.1, Value.int .i64 x207.2.1, Value.int .i64 x207.2.2.1, Value.int .i64 x207.2.2.2.1, Value.int .i64 x207.2.2.2.2]), (99, Value.agg #[Value.string x197.1, Value.int .i64 x197.2.1, Value.int .i64 x197.2.2.1, Value.int .i64 x197.2.2.2.1, Value.int .i64 x197.2.2.2.2])]))) (fun K => by kernel_rfl) (by kernel_rfl) (by kernel_rfl) (by kernel_rfl) ?_
                    refine ⟨rfl, ?_⟩
                    refine ⟨rfl, ?_⟩
                    obtain ⟨x219, h220, H⟩ := bnd_some H
                    refine U.force 3 6 (by kernel_rfl) (by kernel_rfl) (U.call (dst := some 98) (fun w hw => c_f110 kk x207.1 x207.2.1 x207.2.2.1 x207.2.2.2.1 x207.2.2.2.2 h220 hw) (by kernel_rfl) (enters_of Try.func110 (by kernel_rfl) rfl)) ?_
                    rintro _ _
                    refine ⟨(fun w hw => .inr (Ok.pickTo [(11, 0), (10, 1), (1, 2)] (by kernel_rfl) (by kernel_rfl) (GH.le_refl _) hw)), ?_⟩
                    obtain ⟨x221, h222, H⟩ := bnd_some H
                    refine U.force 2 8 (by kernel_rfl) (by kernel_rfl) (U.call (dst := some 100) (fun w hw => c_f111 kk x197.1 x197.2.1 x197.2.2.1 x197.2.2.2.1 x197.2.2.2.2 h222 hw) (by kernel_rfl) (enters_of Try.func111 (by kernel_rfl) rfl)) ?_
                    rintro _ _
                    refine ⟨(fun w hw => .inr (Ok.pickTo [(11, 0), (10, 1), (1, 2)] (by kernel_rfl) (by kernel_rfl) (GH.le_refl _) hw)), ?_⟩
                    refine U.take 0 [9, 10] [1, 71, 72, 73, 97, 98, 99, 100, 101, 102] [10, 9, 8, 6, 7, 5, 4, 3, 2, 1, 0] [(9, .s)] (fun K => (Try.prog.eqGuardType Try.prog.depth 85 = false) ∧ (K [(1, Value.pointer (some ⟨b9, 0, none⟩)), (71, Value.slice a5 (List.length x4) c6), (72, Value.int .i64 ((List.length x4) : Int)), (73, Value.int .i64 x190), (97, Value.agg #[Value.string x207.1, Value.int .i64 x207.2.1, Value.int .i64 x207.2.2.1, Value.int .i64 x207.2.2.2.1, Value.int .i64 x207.2.2.2.2]), (98, Value.agg #[Value.string x219.1, Value.int .i64 x219.2.1, Value.int .i64 x219.2.2.1, Value.int .i64 x219.2.2.2.1, Value.int .i64 x219.2.2.2.2]), (99, Value.agg #[Value.string x197.1, Value.int .i64 x197.2.1, Value.int .i64 x197.2.2.1, Value.int .i64 x197.2.2.2.1, Value.int .i64 x197.2.2.2.2]), (100, Value.agg #[Value.string x221.1, Value.int .i64 x221.2.1, Value.int .i64 x221.2.2.1, Value.int .i64 x221.2.2.2.1, Value.int .i64 x221.2.2.2.2]), (101, Value.bool (!((x219.1 == x221.1) && ((x219.2.1 == x221.2.1) && ((x219.2.2.1 == x221.2.2.1) && ((x219.2.2.2.1 == x221.2.2.2.1) && ((x219.2.2.2.2 == x221.2.2.2.2) && true))))))), (102, Value.bool (!((x219.1 == x221.1) && ((x219.2.1 == x221.2.1) && ((x219.2.2.1 == x221.2.2.1) && ((x219.2.2.2.1 == x221.2.2.2.1) && ((x219.2.2.2.2 == x221.2.2.2.2) && true)))))))])) (fun K => by kernel_rfl) (by kernel_rfl) (by kernel_rfl) (by kernel_rfl) ?_
                    refine ⟨(by kernel_rfl), ?_⟩
                    refine WD.done (by kernel_rfl) ?_
                    refine PO.jn ⟨(!((x219.1 == x221.1) && ((x219.2.1 == x221.2.1) && ((x219.2.2.1 == x221.2.2.1) && ((x219.2.2.2.1 == x221.2.2.2.1) && ((x219.2.2.2.2 == x221.2.2.2.2) && true)))))), H, rfl⟩ ?_
                    exact (St.ok.to [1, 71, 72, 73, 102] 3 [(1, 2)] (by kernel_rfl) rfl (by kernel_rfl) rfl rfl (by kernel_rfl))
                · rintro _ ⟨x223, H, rfl⟩
                  unfold f61_j10 at H
                  refine PO.nx ?_
                  rcases cond_some H with ⟨h224, H⟩ | ⟨h224, H⟩
                  · refine U.asW (t := 102) (congrArg Value.bool h224) (by kernel_rfl) ?_
                    refine WP.condT (by kernel_rfl) ?_
                    refine WP.seq (by kernel_rfl) ?_
                    refine WP.reg (by kernel_rfl) ?_
                    refine U.seg 1 [2] [] (fun K => K [(2, Value.int .i64 10)] ((1, Ent.blk b9 81 [Value.int .i64 x1, Value.int .i64 x2, Value.int .i64 x3, Value.slice a5 (List.length x4) c6]) :: fr)) (fun K => by kernel_rfl) 1 (by kernel_rfl) ?_
                    refine WO.done (by kernel_rfl) ?_
                    refine PO.nx ?_
                    refine WP.ret (by kernel_rfl) ?_
                    refine PO.blk_ret ?_
                    refine PO.nx_ret ?_
                    refine PO.lp_ret ?_
                    refine PO.blk_ret ?_
                    refine PO.jn_ret ?_
                    refine PO.nx_ret ?_
                    have hq := Option.some.inj H
                    subst hq
                    have H := h194
                    rw [← (show _ = o191 from h193)] at H
                    have H : some 10 = some r := H
                    have hr := Option.some.inj H
                    subst hr
                    refine PO.body [Value.int .i64 10] ((1, Ent.blk b9 81 [Value.int .i64 x1, Value.int .i64 x2, Value.int .i64 x3, Value.slice a5 (List.length x4) c6]) :: fr) rfl (Res.tmp (by kernel_rfl) Res.nil) ?_
                    exact fun w hw => Ret.mk () trivial rfl (okNT 1 [] (by kernel_rfl) rfl hw)
                  · refine U.asW (t := 102) (congrArg Value.bool h224) (by kernel_rfl) ?_
                    refine WP.condF (by kernel_rfl) ?_
                    refine WP.skip (by kernel_rfl) ?_
                    refine PO.blk_normal ?_
                    refine PO.nx ?_
                    refine WP.reg (by kernel_rfl) ?_
                    refine U.seg 2 [1, 71, 72, 73] [] (fun K => K [(1, Value.pointer (some ⟨b9, 0, none⟩)), (71, Value.slice a5 (List.length x4) c6), (72, Value.int .i64 ((List.length x4) : Int)), (73, Value.int .i64 (w64 (x190 + 1)))] ((1, Ent.blk b9 81 [Value.int .i64 x1, Value.int .i64 x2, Value.int .i64 x3, Value.slice a5 (List.length x4) c6]) :: fr)) (fun K => by kernel_rfl) 2 (by kernel_rfl) ?_
                    refine WO.done (by kernel_rfl) ?_
                    have hq := Option.some.inj H
                    subst hq
                    refine PO.againW ⟨(w64 (x190 + 1)), h193, rfl⟩ ?_ (Nat.lt_succ_self _)
                    exact (St.ok.to [1, 71, 72, 73] 1 [(1, 0)] (by kernel_rfl) rfl (by kernel_rfl) rfl rfl (by kernel_rfl))
            · refine U.asW (t := 74) (congrArg Value.bool h196) (by kernel_rfl) ?_
              refine WP.condF (by kernel_rfl) ?_
              refine WP.exit (id := 4) (by kernel_rfl) ?_
              refine PO.nx_exit ?_
              refine PO.lp_exit ?_
              refine PO.blk_exit ?_
              have hq := Option.some.inj H
              subst hq
              have H := h194
              rw [← (show _ = o191 from h193)] at H
              have H : f61_j11 kk = some r := H
              refine PO.jn ⟨H, rfl⟩ ?_
              exact (St.ok.to [] 1 [] (by kernel_rfl) rfl (by kernel_rfl) rfl rfl (by kernel_rfl))
          · rintro _ ⟨H, rfl⟩
            unfold f61_j11 at H
            refine PO.nx ?_
            refine WP.seq (by kernel_rfl) ?_
            refine WP.reg (by kernel_rfl) ?_
            refine U.seg 1 [2] [] (fun K => K [(2, Value.int .i64 0)] (fr)) (fun K => by kernel_rfl) 1 (by kernel_rfl) ?_
            refine WO.done (by kernel_rfl) ?_
            refine PO.nx ?_
            refine WP.ret (by kernel_rfl) ?_
            have hr := Option.some.inj H
            subst hr
            refine PO.body [Value.int .i64 0] (fr) rfl (Res.tmp (by kernel_rfl) Res.nil) ?_
            exact fun w hw => Ret.mk () trivial rfl (okNT 0 [] (by kernel_rfl) rfl hw)

set_option maxRecDepth 100000 in
theorem c_f65 (kk : Nat) (x1 : Int) (x2 : Int) (x3 : ByteArray) (x4 : Int) (x5 : Int) (x6 : Int) (x7 : Int) {g : GH} {r : (Int × Int × Bool)} (H : m_f65 kk x1 x2 x3 x4 x5 x6 x7 = some r) {fr : Hs} {w : World} (hw : Ok g (fr) w) :
    Calls Try.prog 65 (List.toArray [Value.agg #[Value.int .i64 x1, Value.int .i64 x2], Value.agg #[Value.string x3, Value.int .i64 x4, Value.int .i64 x5, Value.int .i64 x6, Value.int .i64 x7]]) w (Ret (fun _ : Unit => True) (fun _ => Value.tuple #[Value.agg #[Value.int .i64 r.1, Value.int .i64 r.2.1], Value.bool r.2.2]) (fun _ => g) (fun _ => (fr))) := by
  refine fn_wp (args := [Value.agg #[Value.int .i64 x1, Value.int .i64 x2], Value.agg #[Value.string x3, Value.int .i64 x4, Value.int .i64 x5, Value.int .i64 x6, Value.int .i64 x7]]) (c := C_65) Try.func65 (by kernel_rfl) Try.ntmps65 (by kernel_rfl) ?_ hw
  unfold m_f65 at H
  refine WP.seq (by kernel_rfl) ?_
  refine WP.reg (by kernel_rfl) ?_
  refine U.seg 4 [2, 3, 4] [(0, .al 1), (1, .al 2), (2, .al 3)] (fun K => ∀ b8 : Nat, ∀ b9 : Nat, ∀ b10 : Nat, K [(2, Value.pointer (some ⟨b8, 0, none⟩)), (3, Value.pointer (some ⟨b9, 0, none⟩)), (4, Value.pointer (some ⟨b10, 0, none⟩))] ((3, Ent.blk b10 161 [Value.int .i64 0, Value.int .i64 0]) :: (2, Ent.blk b9 85 [Value.string x3, Value.int .i64 x4, Value.int .i64 x5, Value.int .i64 x6, Value.int .i64 x7]) :: (1, Ent.blk b8 161 [Value.int .i64 x1, Value.int .i64 x2]) :: fr)) (fun K => by kernel_rfl) 4 (by kernel_rfl) ?_
  intro b8
  intro b9
  intro b10
  refine WO.done (by kernel_rfl) ?_
  refine PO.nx ?_
  refine WP.seq (by kernel_rfl) ?_
  refine WP.join (fun s => ∃ (x12 : Bool), f65_j1 kk x1 x4 x6 x12 = some r ∧ s = { n := 26, e := [(4, Value.pointer (some ⟨b10, 0, none⟩)), (5, Value.bool x12)], d := [], g := g, h := ((3, Ent.blk b10 161 [Value.int .i64 (w64 (x1 - x4)), Value.int .i64 x6]) :: fr) }) ?_ ?_
  · refine U.draw [] g [(2, Ent.blk b9 85 [Value.string x3, Value.int .i64 x4, Value.int .i64 x5, Value.int .i64 x6, Value.int .i64 x7]), (1, Ent.blk b8 161 [Value.int .i64 x1, Value.int .i64 x2])] (by kernel_rfl) (by kernel_rfl) 22 (by kernel_rfl) (fun w hw => Ok.pickTo [(2, 1), (1, 2)] (by kernel_rfl) (by kernel_rfl) (GH.le_refl _) hw) ?_
    refine U.take 8 [0, 1, 2, 3, 4, 5, 6, 7, 8, 9, 10, 11, 12, 13] [2, 3, 4, 13, 19] [13, 12, 11, 10, 9, 8, 7, 6, 5, 4, 3, 2, 1, 0] [(1, .ld 1), (3, .ld 2), (6, .ld 2), (9, .ld 2), (11, .ld 1)] (fun K => (b8 = b8) ∧ ((b9 = b9) ∧ ((b9 = b9) ∧ ((b9 = b9) ∧ ((b8 = b8) ∧ (K [(2, Value.pointer (some ⟨b8, 0, none⟩)), (3, Value.pointer (some ⟨b9, 0, none⟩)), (4, Value.pointer (some ⟨b10, 0, none⟩)), (13, Value.agg #[Value.int .i64 (w64 (x1 - x4)), Value.int .i64 x6]), (19, Value.bool (x5 == x2))])))))) (fun K => by kernel_rfl) (by kernel_rfl) (by kernel_rfl) (by kernel_rfl) ?_
    refine ⟨rfl, ?_⟩
    refine ⟨rfl, ?_⟩
    refine ⟨rfl, ?_⟩
    refine ⟨rfl, ?_⟩
    refine ⟨rfl, ?_⟩
    rcases cond_some H with ⟨h11, H⟩ | ⟨h11, H⟩
    · refine U.asD (t := 19) (congrArg Value.bool h11) (by kernel_rfl) ?_
      refine U.take 2 [14, 15, 16, 17, 18, 19] [4, 13, 25] [19, 18, 17, 16, 15, 14, 13, 12, 11, 10, 9, 8, 7, 6, 5, 4, 3, 2, 1, 0] [(15, .ld 2), (17, .ld 1)] (fun K => (b9 = b9) ∧ ((b8 = b8) ∧ (K [(4, Value.pointer (some ⟨b10, 0, none⟩)), (13, Value.agg #[Value.int .i64 (w64 (x1 - x4)), Value.int .i64 x6]), (25, Value.bool (decide (x4 ≤ x1)))]))) (fun K => by kernel_rfl) (by kernel_rfl) (by kernel_rfl) (by kernel_rfl) ?_
      refine ⟨rfl, ?_⟩
      refine ⟨rfl, ?_⟩
      refine U.one 1 20 [4, 25] [(20, .st 3)] (fun K => (b10 = b10) ∧ (K [(4, Value.pointer (some ⟨b10, 0, none⟩)), (25, Value.bool (decide (x4 ≤ x1)))] ((3, Ent.blk b10 161 [Value.int .i64 (w64 (x1 - x4)), Value.int .i64 x6]) :: (2, Ent.blk b9 85 [Value.string x3, Value.int .i64 x4, Value.int .i64 x5, Value.int .i64 x6, Value.int .i64 x7]) :: (1, Ent.blk b8 161 [Value.int .i64 x1, Value.int .i64 x2]) :: fr))) (fun K => by kernel_rfl) (by kernel_rfl) (by kernel_rfl) ?_
      refine ⟨rfl, ?_⟩
      refine ⟨(fun w hw => .inr (Ok.pickTo [(2, 1), (1, 2)] (by kernel_rfl) (by kernel_rfl) (GH.le_refl _) hw)), ?_⟩
      refine U.take 0 [21] [4, 5] [21, 20, 19, 18, 17, 16, 15, 14, 13, 12, 11, 10, 9, 8, 7, 6, 5, 4, 3, 2, 1, 0] [] (fun K => K [(4, Value.pointer (some ⟨b10, 0, none⟩)), (5, Value.bool (decide (x4 ≤ x1)))]) (fun K => by kernel_rfl) (by kernel_rfl) (by kernel_rfl) (by kernel_rfl) ?_
      refine WD.done (by kernel_rfl) ?_
      refine PO.jn ⟨(decide (x4 ≤ x1)), H, rfl⟩ ?_
      exact (St.ok.to [4, 5] 3 [(3, 0)] (by kernel_rfl) rfl (by kernel_rfl) rfl rfl (by kernel_rfl))
    · refine U.asD (t := 19) (congrArg Value.bool h11) (by kernel_rfl) ?_
      refine U.take 2 [14, 15, 16, 17, 18, 19] [4, 13, 25] [19, 18, 17, 16, 15, 14, 13, 12, 11, 10, 9, 8, 7, 6, 5, 4, 3, 2, 1, 0] [] (fun K => K [(4, Value.pointer (some ⟨b10, 0, none⟩)), (13, Value.agg #[Value.int .i64 (w64 (x1 - x4)), Value.int .i64 x6]), (25, Value.bool false)]) (fun K => by kernel_rfl) (by kernel_rfl) (by kernel_rfl) (by kernel_rfl) ?_
      refine U.one 1 20 [4, 25] [(20, .st 3)] (fun K => (b10 = b10) ∧ (K [(4, Value.pointer (some ⟨b10, 0, none⟩)), (25, Value.bool false)] ((3, Ent.blk b10 161 [Value.int .i64 (w64 (x1 - x4)), Value.int .i64 x6]) :: (2, Ent.blk b9 85 [Value.string x3, Value.int .i64 x4, Value.int .i64 x5, Value.int .i64 x6, Value.int .i64 x7]) :: (1, Ent.blk b8 161 [Value.int .i64 x1, Value.int .i64 x2]) :: fr))) (fun K => by kernel_rfl) (by kernel_rfl) (by kernel_rfl) ?_
      refine ⟨rfl, ?_⟩
      refine ⟨(fun w hw => .inr (Ok.pickTo [(2, 1), (1, 2)] (by kernel_rfl) (by kernel_rfl) (GH.le_refl _) hw)), ?_⟩
      refine U.take 0 [21] [4, 5] [21, 20, 19, 18, 17, 16, 15, 14, 13, 12, 11, 10, 9, 8, 7, 6, 5, 4, 3, 2, 1, 0] [] (fun K => K [(4, Value.pointer (some ⟨b10, 0, none⟩)), (5, Value.bool false)]) (fun K => by kernel_rfl) (by kernel_rfl) (by kernel_rfl) (by kernel_rfl) ?_
      refine WD.done (by kernel_rfl) ?_
      refine PO.jn ⟨false, H, rfl⟩ ?_
      exact (St.ok.to [4, 5] 3 [(3, 0)] (by kernel_rfl) rfl (by kernel_rfl) rfl rfl (by kernel_rfl))
  · rintro _ ⟨x12, H, rfl⟩
    unfold f65_j1 at H
    refine PO.nx ?_
    refine WP.ret (by kernel_rfl) ?_
    have hr := Option.some.inj H
    subst hr
    refine PO.body [Value.agg #[Value.int .i64 (w64 (x1 - x4)), Value.int .i64 x6], Value.bool x12] ((3, Ent.blk b10 161 [Value.int .i64 (w64 (x1 - x4)), Value.int .i64 x6]) :: fr) rfl (Res.cell b10 0 3 (Ent.blk b10 161 [Value.int .i64 (w64 (x1 - x4)), Value.int .i64 x6]) [Value.int .i64 (w64 (x1 - x4)), Value.int .i64 x6] true 2 (by kernel_rfl) (by kernel_rfl) (by kernel_rfl) (by kernel_rfl) (by kernel_rfl) (OwnRead.agg rfl rfl) (Res.tmp (by kernel_rfl) Res.nil)) ?_
    exact fun w hw => Ret.mk () trivial rfl (okNT 1 [] (by kernel_rfl) rfl hw)

set_option maxRecDepth 100000 in
theorem c_f112 (kk : Nat) (x1 : Int) (x2 : Int) (x3 : Int) (x4 : (List (ByteArray × Int × Int × Int × Int))) (a5 : Option Addr) (c6 : Nat) {g : GH} (h8 : Sl (Kd.pair Kd.str (Kd.pair (Kd.int .i64) (Kd.pair (Kd.int .i64) (Kd.pair (Kd.int .i64) (Kd.int .i64))))) g a5 (List.length x4) c6 x4) {r : (List (List Int))} (H : m_f112 kk x1 x2 x3 x4 = some r) {fr : Hs} {w : World} (hw : Ok g (fr) w) :
    Calls Try.prog 112 (List.toArray [Value.agg #[Value.int .i64 x1, Value.int .i64 x2, Value.int .i64 x3, Value.slice a5 (List.length x4) c6]]) w (Ret (fun y : (GH) × (Option Addr) × (Nat) => GH.le g y.1 ∧ Sl (Kd.iarr 10 .i64) y.1 y.2.1 (List.length r) y.2.2 r) (fun y => Value.slice y.2.1 (List.length r) y.2.2) (fun y => y.1) (fun y => (fr))) := by
  refine fn_wp (args := [Value.agg #[Value.int .i64 x1, Value.int .i64 x2, Value.int .i64 x3, Value.slice a5 (List.length x4) c6]]) (c := C_112) Try.func112 (by kernel_rfl) Try.ntmps112 (by kernel_rfl) ?_ hw
  unfold m_f112 at H
  refine WP.seq (by kernel_rfl) ?_
  refine WP.reg (by kernel_rfl) ?_
  refine U.seg 2 [1] [(0, .al 1)] (fun K => ∀ b9 : Nat, K [(1, Value.pointer (some ⟨b9, 0, none⟩))] ((1, Ent.blk b9 81 [Value.int .i64 x1, Value.int .i64 x2, Value.int .i64 x3, Value.slice a5 (List.length x4) c6]) :: fr)) (fun K => by kernel_rfl) 2 (by kernel_rfl) ?_
  intro b9
  refine WO.done (by kernel_rfl) ?_
  refine PO.nx ?_
  refine WP.seq (by kernel_rfl) ?_
  refine WP.reg (by kernel_rfl) ?_
  refine U.seg 3 [1, 11] [(1, .ld 1)] (fun K => (b9 = b9) ∧ (K [(1, Value.pointer (some ⟨b9, 0, none⟩)), (11, Value.int .i64 (w64 (x1 + 1)))] ((1, Ent.blk b9 81 [Value.int .i64 x1, Value.int .i64 x2, Value.int .i64 x3, Value.slice a5 (List.length x4) c6]) :: fr))) (fun K => by kernel_rfl) 3 (by kernel_rfl) ?_
  refine ⟨rfl, ?_⟩
  obtain ⟨h11, H⟩ := grd_some H
  have h12 : Rw (Kd.iarr 10 .i64) g (List.flatten (List.replicate (Int.toNat ((w64 (x1 + 1)))) (arrC 10 .i64 (List.replicate 10 (0 : Int))))) (List.replicate (Int.toNat ((w64 (x1 + 1)))) ((List.replicate 10 (0 : Int)) : (List Int))) := Rw.rep (show ((Kd.iarr 10 .i64)).R _ (arrC 10 .i64 (List.replicate 10 (0 : Int))) _ from ⟨(List.length_replicate ..), rfl⟩) _
  refine U.step 4 (by kernel_rfl) (U.makeN (T := 157) (k := .i64) (k' := .i64) (z := (w64 (x1 + 1))) (dst := some 12) (t := 2) (el := 215) (sz := 10) (List.length (List.replicate (Int.toNat ((w64 (x1 + 1)))) ((List.replicate 10 (0 : Int)) : (List Int)))) (List.length_replicate ..).symm (by kernel_rfl) (by kernel_rfl) h11.1 h11.2) ?_
  rintro b13 _
  refine U.seg 1 [1, 3] [] (fun K => K [(1, Value.pointer (some ⟨b9, 0, none⟩)), (3, Value.slice (some ⟨b13, 0, none⟩ : Option Addr) (List.length (List.replicate (Int.toNat ((w64 (x1 + 1)))) ((List.replicate 10 (0 : Int)) : (List Int)))) (List.length (List.replicate (Int.toNat ((w64 (x1 + 1)))) ((List.replicate 10 (0 : Int)) : (List Int)))))] ((2, Ent.sl (some ⟨b13, 0, none⟩ : Option Addr) (List.length (List.replicate (Int.toNat ((w64 (x1 + 1)))) ((List.replicate 10 (0 : Int)) : (List Int)))) (List.length (List.replicate (Int.toNat ((w64 (x1 + 1)))) ((List.replicate 10 (0 : Int)) : (List Int)))) 215 10 (List.flatten (List.replicate (Int.toNat ((w64 (x1 + 1)))) (arrC 10 .i64 (List.replicate 10 (0 : Int)))))) :: (1, Ent.blk b9 81 [Value.int .i64 x1, Value.int .i64 x2, Value.int .i64 x3, Value.slice a5 (List.length x4) c6]) :: fr)) (fun K => by kernel_rfl) 5 (by kernel_rfl) ?_
  refine WO.done (by kernel_rfl) ?_
  refine PO.nx ?_
  refine WP.seq (by kernel_rfl) ?_
  refine U.draw [4] g [(2, Ent.sl (some ⟨b13, 0, none⟩ : Option Addr) (List.length (List.replicate (Int.toNat ((w64 (x1 + 1)))) ((List.replicate 10 (0 : Int)) : (List Int)))) (List.length (List.replicate (Int.toNat ((w64 (x1 + 1)))) ((List.replicate 10 (0 : Int)) : (List Int)))) 215 10 (List.flatten (List.replicate (Int.toNat ((w64 (x1 + 1)))) (arrC 10 .i64 (List.replicate 10 (0 : Int)))))), (1, Ent.blk b9 81 [Value.int .i64 x1, Value.int .i64 x2, Value.int .i64 x3, Value.slice a5 (List.length x4) c6])] (by kernel_rfl) (by kernel_rfl) 6 (by kernel_rfl) (fun w hw => Ok.pickTo [(2, 0), (1, 1)] (by kernel_rfl) (by kernel_rfl) (GH.le_refl _) hw) ?_
  obtain ⟨x23, h24, H⟩ := bnd_some H
  obtain ⟨h25, s26, h27, h28, h29⟩ := Rw.elt (d := (Kd.iarr 10 .i64)) h12 h24
  obtain ⟨h30, rfl⟩ := h27
  refine U.take 2 [0, 1, 2, 3] [1, 3, 15, 16] [3, 2, 1, 0] [(2, .ld 1), (3, .o 2)] (fun K => (b9 = b9) ∧ (((0 : Int) ≤ (0 : Int) ∧ (0 : Int) < ((List.length (List.replicate (Int.toNat ((w64 (x1 + 1)))) ((List.replicate 10 (0 : Int)) : (List Int)))) : Nat) ∧ (some ⟨b13, 0, none⟩ : Option Addr) = (some ⟨b13, 0, none⟩ : Option Addr) ∧ (List.length (List.replicate (Int.toNat ((w64 (x1 + 1)))) ((List.replicate 10 (0 : Int)) : (List Int)))) = (List.length (List.replicate (Int.toNat ((w64 (x1 + 1)))) ((List.replicate 10 (0 : Int)) : (List Int))))) ∧ (K [(1, Value.pointer (some ⟨b9, 0, none⟩)), (3, Value.slice (some ⟨b13, 0, none⟩ : Option Addr) (List.length (List.replicate (Int.toNat ((w64 (x1 + 1)))) ((List.replicate 10 (0 : Int)) : (List Int)))) (List.length (List.replicate (Int.toNat ((w64 (x1 + 1)))) ((List.replicate 10 (0 : Int)) : (List Int))))), (15, Value.int .i64 x3), (16, Value.pointer (some ⟨ab (some ⟨b13, 0, none⟩ : Option Addr), (Int.toNat ((0 : Int))) * 10, none⟩))]))) (fun K => by kernel_rfl) (by kernel_rfl) (by kernel_rfl) (by kernel_rfl) ?_
  refine ⟨rfl, ?_⟩
  refine ⟨⟨h25.1, h25.2, rfl, rfl⟩, ?_⟩
  obtain ⟨h31, H⟩ := grd_some H
  refine U.one 1 4 [1, 3, 17] [(4, .s)] (fun K => ((0 : Int) ≤ x3 ∧ x3 < ((10 : Nat) : Int) ∧ (⟨ab (some ⟨b13, 0, none⟩ : Option Addr), (Int.toNat ((0 : Int))) * 10, none⟩ : Addr).spot = none) ∧ (K [(1, Value.pointer (some ⟨b9, 0, none⟩)), (3, Value.slice (some ⟨b13, 0, none⟩ : Option Addr) (List.length (List.replicate (Int.toNat ((w64 (x1 + 1)))) ((List.replicate 10 (0 : Int)) : (List Int)))) (List.length (List.replicate (Int.toNat ((w64 (x1 + 1)))) ((List.replicate 10 (0 : Int)) : (List Int))))), (17, Value.pointer (some ⟨ab (some ⟨b13, 0, none⟩ : Option Addr), (Int.toNat ((0 : Int))) * 10 + (Int.toNat (x3)) * 1, none⟩))] ((2, Ent.sl (some ⟨b13, 0, none⟩ : Option Addr) (List.length (List.replicate (Int.toNat ((w64 (x1 + 1)))) ((List.replicate 10 (0 : Int)) : (List Int)))) (List.length (List.replicate (Int.toNat ((w64 (x1 + 1)))) ((List.replicate 10 (0 : Int)) : (List Int)))) 215 10 (List.flatten (List.replicate (Int.toNat ((w64 (x1 + 1)))) (arrC 10 .i64 (List.replicate 10 (0 : Int)))))) :: (1, Ent.blk b9 81 [Value.int .i64 x1, Value.int .i64 x2, Value.int .i64 x3, Value.slice a5 (List.length x4) c6]) :: fr))) (fun K => by kernel_rfl) (by kernel_rfl) (by kernel_rfl) ?_
  refine ⟨⟨h31.1, h31.2, rfl⟩, ?_⟩
  refine ⟨(fun w hw => .inl (by kernel_rfl)), ?_⟩
  have h32p := h29 ((Int.toNat (x3)) * 1) [Value.int .i64 1] (setA 10 x23 x3 1) (by simp only [List.length_singleton, Kd.iarr]; have h1 := h31.1; have h2 := h31.2; omega) ⟨by simp [setA], by have h3 := arr_set (k := .i64) (xs := x23) (v := 1) [] [] h31.1 h31.2; simpa using h3⟩
  have h32 := h32p.2
  refine U.one 0 5 [1, 3] [(5, .sv 2 (splice (List.flatten (List.replicate (Int.toNat ((w64 (x1 + 1)))) (arrC 10 .i64 (List.replicate 10 (0 : Int))))) ((Int.toNat ((0 : Int))) * 10 + (Int.toNat (x3)) * 1) [Value.int .i64 1]))] (fun K => (ab (some ⟨b13, 0, none⟩ : Option Addr) = ab (some ⟨b13, 0, none⟩ : Option Addr) ∧ [Value.int .i64 1].length = 1 ∧ (Int.toNat ((0 : Int))) * 10 + (Int.toNat (x3)) * 1 + [Value.int .i64 1].length ≤ (List.flatten (List.replicate (Int.toNat ((w64 (x1 + 1)))) (arrC 10 .i64 (List.replicate 10 (0 : Int))))).length ∧ (∀ u ∈ [Value.int .i64 1], u.oneCell' = true) ∧ splice (List.flatten (List.replicate (Int.toNat ((w64 (x1 + 1)))) (arrC 10 .i64 (List.replicate 10 (0 : Int))))) ((Int.toNat ((0 : Int))) * 10 + (Int.toNat (x3)) * 1) [Value.int .i64 1] = (splice (List.flatten (List.replicate (Int.toNat ((w64 (x1 + 1)))) (arrC 10 .i64 (List.replicate 10 (0 : Int))))) ((Int.toNat ((0 : Int))) * 10 + (Int.toNat (x3)) * 1) [Value.int .i64 1])) ∧ (K [(1, Value.pointer (some ⟨b9, 0, none⟩)), (3, Value.slice (some ⟨b13, 0, none⟩ : Option Addr) (List.length (List.replicate (Int.toNat ((w64 (x1 + 1)))) ((List.replicate 10 (0 : Int)) : (List Int)))) (List.length (List.replicate (Int.toNat ((w64 (x1 + 1)))) ((List.replicate 10 (0 : Int)) : (List Int)))))] ((2, Ent.sl (some ⟨b13, 0, none⟩ : Option Addr) (List.length (List.replicate (Int.toNat ((w64 (x1 + 1)))) ((List.replicate 10 (0 : Int)) : (List Int)))) (List.length (List.replicate (Int.toNat ((w64 (x1 + 1)))) ((List.replicate 10 (0 : Int)) : (List Int)))) 215 10 (splice (List.flatten (List.replicate (Int.toNat ((w64 (x1 + 1)))) (arrC 10 .i64 (List.replicate 10 (0 : Int))))) ((Int.toNat ((0 : Int))) * 10 + (Int.toNat (x3)) * 1) [Value.int .i64 1])) :: (1, Ent.blk b9 81 [Value.int .i64 x1, Value.int .i64 x2, Value.int .i64 x3, Value.slice a5 (List.length x4) c6]) :: fr))) (fun K => by kernel_rfl) (by kernel_rfl) (by kernel_rfl) ?_
  refine ⟨⟨rfl, rfl, h32p.1, by intro u hu; simp at hu; subst hu; rfl, rfl⟩, ?_⟩
  refine ⟨(fun w hw => .inl (by kernel_rfl)), ?_⟩
  refine U.eqSD [(1, Value.pointer (some ⟨b9, 0, none⟩)), (3, Value.slice (some ⟨b13, 0, none⟩ : Option Addr) (List.length (List.set (List.replicate (Int.toNat ((w64 (x1 + 1)))) ((List.replicate 10 (0 : Int)) : (List Int))) (Int.toNat ((0 : Int))) (setA 10 x23 x3 1))) (List.length (List.replicate (Int.toNat ((w64 (x1 + 1)))) ((List.replicate 10 (0 : Int)) : (List Int)))))] ((2, Ent.sl (some ⟨b13, 0, none⟩ : Option Addr) (List.length (List.set (List.replicate (Int.toNat ((w64 (x1 + 1)))) ((List.replicate 10 (0 : Int)) : (List Int))) (Int.toNat ((0 : Int))) (setA 10 x23 x3 1))) (List.length (List.replicate (Int.toNat ((w64 (x1 + 1)))) ((List.replicate 10 (0 : Int)) : (List Int)))) 215 10 (splice (List.flatten (List.replicate (Int.toNat ((w64 (x1 + 1)))) (arrC 10 .i64 (List.replicate 10 (0 : Int))))) ((Int.toNat ((0 : Int))) * 10 + (Int.toNat (x3)) * 1) [Value.int .i64 1])) :: (1, Ent.blk b9 81 [Value.int .i64 x1, Value.int .i64 x2, Value.int .i64 x3, Value.slice a5 (List.length x4) c6]) :: fr) (by simp) (by simp) ?_
  refine WD.done (by kernel_rfl) ?_
  refine PO.nx ?_
  refine WP.seq (by kernel_rfl) ?_
  refine WP.seq (by kernel_rfl) ?_
  refine WP.reg (by kernel_rfl) ?_
  refine U.seg 1 [1, 3, 4] [] (fun K => K [(1, Value.pointer (some ⟨b9, 0, none⟩)), (3, Value.slice (some ⟨b13, 0, none⟩ : Option Addr) (List.length (List.set (List.replicate (Int.toNat ((w64 (x1 + 1)))) ((List.replicate 10 (0 : Int)) : (List Int))) (Int.toNat ((0 : Int))) (setA 10 x23 x3 1))) (List.length (List.replicate (Int.toNat ((w64 (x1 + 1)))) ((List.replicate 10 (0 : Int)) : (List Int))))), (4, Value.int .i64 1)] ((2, Ent.sl (some ⟨b13, 0, none⟩ : Option Addr) (List.length (List.set (List.replicate (Int.toNat ((w64 (x1 + 1)))) ((List.replicate 10 (0 : Int)) : (List Int))) (Int.toNat ((0 : Int))) (setA 10 x23 x3 1))) (List.length (List.replicate (Int.toNat ((w64 (x1 + 1)))) ((List.replicate 10 (0 : Int)) : (List Int)))) 215 10 (splice (List.flatten (List.replicate (Int.toNat ((w64 (x1 + 1)))) (arrC 10 .i64 (List.replicate 10 (0 : Int))))) ((Int.toNat ((0 : Int))) * 10 + (Int.toNat (x3)) * 1) [Value.int .i64 1])) :: (1, Ent.blk b9 81 [Value.int .i64 x1, Value.int .i64 x2, Value.int .i64 x3, Value.slice a5 (List.length x4) c6]) :: fr)) (fun K => by kernel_rfl) 1 (by kernel_rfl) ?_
  refine WO.done (by kernel_rfl) ?_
  refine PO.nx ?_
  refine WP.join (fun s => ∃ (x721 : (List (List Int))) (a718 : Option Addr) (c719 : Nat) (s722 : List Value), Rw (Kd.iarr 10 .i64) g s722 x721 ∧ f112_j17 kk x721 = some r ∧ s = { n := 66, e := [(3, Value.slice a718 (List.length x721) c719)], d := [], g := g, h := ((2, Ent.sl a718 (List.length x721) c719 215 10 s722) :: fr) }) ?_ ?_
  · refine WP.block (id := 0) (by kernel_rfl) ?_
    obtain ⟨o485, h716, h488⟩ := bnd_some H
    refine WP.loopW (by kernel_rfl) (fun n s => ∃ (x478 : Int) (x483 : (List (List Int))) (a480 : Option Addr) (c481 : Nat) (s484 : List Value), Rw (Kd.iarr 10 .i64) g s484 x483 ∧ iter (fun y : (Int × (List (List Int))) => f112_l11 kk y.1 y.2 x1 x4) n (x478, x483) = some o485 ∧ s = { n := 66, e := [(1, Value.pointer (some ⟨b9, 0, none⟩)), (3, Value.slice a480 (List.length x483) c481), (4, Value.int .i64 x478)], d := [], g := g, h := ((1, Ent.blk b9 81 [Value.int .i64 x1, Value.int .i64 x2, Value.int .i64 x3, Value.slice a5 (List.length x4) c6]) :: (2, Ent.sl a480 (List.length x483) c481 215 10 s484) :: fr) }) (k := kk) ⟨1, (List.set (List.replicate (Int.toNat ((w64 (x1 + 1)))) ((List.replicate 10 (0 : Int)) : (List Int))) (Int.toNat ((0 : Int))) (setA 10 x23 x3 1)), (some ⟨b13, 0, none⟩ : Option Addr), (List.length (List.replicate (Int.toNat ((w64 (x1 + 1)))) ((List.replicate 10 (0 : Int)) : (List Int)))), (splice (List.flatten (List.replicate (Int.toNat ((w64 (x1 + 1)))) (arrC 10 .i64 (List.replicate 10 (0 : Int))))) ((Int.toNat ((0 : Int))) * 10 + (Int.toNat (x3)) * 1) [Value.int .i64 1]), h32, h716, rfl⟩ (St.ok.to [1, 3, 4] 2 [(1, 1), (2, 0)] (by kernel_rfl) rfl (by kernel_rfl) rfl rfl (by kernel_rfl)) ?_
    intro n711 s
    rintro ⟨x478, x483, a480, c481, s484, h482, h712, rfl⟩
    obtain ⟨n489, q486, h714, h715, h487⟩ := iter_some h712
    subst h714
    have H : f112_l11 kk x478 x483 x1 x4 = some q486 := h715
    unfold f112_l11 at H
    refine WP.seq (by kernel_rfl) ?_
    refine WP.seq (by kernel_rfl) ?_
    refine WP.reg (by kernel_rfl) ?_
    refine U.seg 4 [1, 3, 4, 21] [(2, .ld 1)] (fun K => (b9 = b9) ∧ (K [(1, Value.pointer (some ⟨b9, 0, none⟩)), (3, Value.slice a480 (List.length x483) c481), (4, Value.int .i64 x478), (21, Value.bool (decide (x478 ≤ x1)))] ((1, Ent.blk b9 81 [Value.int .i64 x1, Value.int .i64 x2, Value.int .i64 x3, Value.slice a5 (List.length x4) c6]) :: (2, Ent.sl a480 (List.length x483) c481 215 10 s484) :: fr))) (fun K => by kernel_rfl) 4 (by kernel_rfl) ?_
    refine ⟨rfl, ?_⟩
    refine WO.done (by kernel_rfl) ?_
    refine PO.nx ?_
    rcases cond_some H with ⟨h490, H⟩ | ⟨h490, H⟩
    · refine U.asW (t := 21) (congrArg Value.bool h490) (by kernel_rfl) ?_
      refine WP.condT (by kernel_rfl) ?_
      refine WP.skip (by kernel_rfl) ?_
      refine PO.nx ?_
      refine WP.seq (by kernel_rfl) ?_
      refine WP.block (id := 1) (by kernel_rfl) ?_
      refine WP.seq (by kernel_rfl) ?_
      refine WP.reg (by kernel_rfl) ?_
      refine U.seg 4 [1, 3, 4, 25, 26, 27] [(1, .ld 1)] (fun K => (b9 = b9) ∧ (K [(1, Value.pointer (some ⟨b9, 0, none⟩)), (3, Value.slice a480 (List.length x483) c481), (4, Value.int .i64 x478), (25, Value.slice a5 (List.length x4) c6), (26, Value.int .i64 ((List.length x4) : Int)), (27, Value.int .i64 0)] ((1, Ent.blk b9 81 [Value.int .i64 x1, Value.int .i64 x2, Value.int .i64 x3, Value.slice a5 (List.length x4) c6]) :: (2, Ent.sl a480 (List.length x483) c481 215 10 s484) :: fr))) (fun K => by kernel_rfl) 4 (by kernel_rfl) ?_
      refine ⟨rfl, ?_⟩
      refine WO.done (by kernel_rfl) ?_
      refine PO.nx ?_
      refine WP.join (fun s => ∃ (x702 : (List (List Int))) (a699 : Option Addr) (c700 : Nat) (s703 : List Value), Rw (Kd.iarr 10 .i64) g s703 x702 ∧ f112_j16 kk x478 x702 = some q486 ∧ s = { n := 66, e := [(1, Value.pointer (some ⟨b9, 0, none⟩)), (3, Value.slice a699 (List.length x702) c700), (4, Value.int .i64 x478)], d := [], g := g, h := ((1, Ent.blk b9 81 [Value.int .i64 x1, Value.int .i64 x2, Value.int .i64 x3, Value.slice a5 (List.length x4) c6]) :: (2, Ent.sl a699 (List.length x702) c700 215 10 s703) :: fr) }) ?_ ?_
      · refine WP.block (id := 2) (by kernel_rfl) ?_
        obtain ⟨o625, h697, h628⟩ := bnd_some H
        refine WP.loopW (by kernel_rfl) (fun n s => ∃ (x618 : Int) (x623 : (List (List Int))) (a620 : Option Addr) (c621 : Nat) (s624 : List Value), Rw (Kd.iarr 10 .i64) g s624 x623 ∧ iter (fun y : (Int × (List (List Int))) => f112_l14 kk y.1 y.2 x4 x478) n (x618, x623) = some o625 ∧ s = { n := 66, e := [(1, Value.pointer (some ⟨b9, 0, none⟩)), (3, Value.slice a620 (List.length x623) c621), (4, Value.int .i64 x478), (25, Value.slice a5 (List.length x4) c6), (26, Value.int .i64 ((List.length x4) : Int)), (27, Value.int .i64 x618)], d := [], g := g, h := ((1, Ent.blk b9 81 [Value.int .i64 x1, Value.int .i64 x2, Value.int .i64 x3, Value.slice a5 (List.length x4) c6]) :: (2, Ent.sl a620 (List.length x623) c621 215 10 s624) :: fr) }) (k := kk) ⟨0, x483, a480, c481, s484, h482, h697, rfl⟩ (St.ok.to [1, 3, 4, 25, 26, 27] 2 [(1, 0), (2, 1)] (by kernel_rfl) rfl (by kernel_rfl) rfl rfl (by kernel_rfl)) ?_
        intro n692 s
        rintro ⟨x618, x623, a620, c621, s624, h622, h693, rfl⟩
        obtain ⟨n629, q626, h695, h696, h627⟩ := iter_some h693
        subst h695
        have H : f112_l14 kk x618 x623 x4 x478 = some q626 := h696
        unfold f112_l14 at H
        refine WP.seq (by kernel_rfl) ?_
        refine WP.reg (by kernel_rfl) ?_
        refine U.seg 1 [1, 3, 4, 25, 26, 27, 28] [] (fun K => K [(1, Value.pointer (some ⟨b9, 0, none⟩)), (3, Value.slice a620 (List.length x623) c621), (4, Value.int .i64 x478), (25, Value.slice a5 (List.length x4) c6), (26, Value.int .i64 ((List.length x4) : Int)), (27, Value.int .i64 x618), (28, Value.bool (decide (x618 < ((List.length x4) : Int))))] ((1, Ent.blk b9 81 [Value.int .i64 x1, Value.int .i64 x2, Value.int .i64 x3, Value.slice a5 (List.length x4) c6]) :: (2, Ent.sl a620 (List.length x623) c621 215 10 s624) :: fr)) (fun K => by kernel_rfl) 1 (by kernel_rfl) ?_
        refine WO.done (by kernel_rfl) ?_
        refine PO.nx ?_
        refine WP.seq (by kernel_rfl) ?_
        rcases cond_some H with ⟨h630, H⟩ | ⟨h630, H⟩
        · refine U.asW (t := 28) (congrArg Value.bool h630) (by kernel_rfl) ?_
          refine WP.condT (by kernel_rfl) ?_
          refine WP.skip (by kernel_rfl) ?_
          refine PO.nx ?_
          refine WP.seq (by kernel_rfl) ?_
          refine WP.block (id := 3) (by kernel_rfl) ?_
          refine WP.seq (by kernel_rfl) ?_
          refine WP.reg (by kernel_rfl) ?_
          obtain ⟨x631, h632, H⟩ := bnd_some H
          obtain ⟨h633, s634, h635, h636⟩ := Sl.at' (d := (Kd.pair Kd.str (Kd.pair (Kd.int .i64) (Kd.pair (Kd.int .i64) (Kd.pair (Kd.int .i64) (Kd.int .i64)))))) h8 h632
          obtain ⟨_, _, rfl, rfl, ⟨_, _, rfl, rfl, ⟨_, _, rfl, rfl, ⟨_, _, rfl, rfl, rfl⟩⟩⟩⟩ := h635
          refine U.seg 4 [1, 3, 4, 6, 25, 26, 27] [(0, .s), (1, .lg (Value.agg #[Value.string x631.1, Value.int .i64 x631.2.1, Value.int .i64 x631.2.2.1, Value.int .i64 x631.2.2.2.1, Value.int .i64 x631.2.2.2.2])), (2, .al 19), (3, .st 19)] (fun K => ((0 : Int) ≤ x618 ∧ x618 < ((List.length x4) : Nat) ∧ FlatA a5 (List.length x4)) ∧ ((GLoad g ⟨ab a5, ao a5 + (Int.toNat (x618)) * 5, none⟩ true 5 (Value.agg #[Value.string x631.1, Value.int .i64 x631.2.1, Value.int .i64 x631.2.2.1, Value.int .i64 x631.2.2.2.1, Value.int .i64 x631.2.2.2.2])) ∧ (∀ b637 : Nat, (b637 = b637) ∧ (K [(1, Value.pointer (some ⟨b9, 0, none⟩)), (3, Value.slice a620 (List.length x623) c621), (4, Value.int .i64 x478), (6, Value.pointer (some ⟨b637, 0, none⟩)), (25, Value.slice a5 (List.length x4) c6), (26, Value.int .i64 ((List.length x4) : Int)), (27, Value.int .i64 x618)] ((19, Ent.blk b637 85 [Value.string x631.1, Value.int .i64 x631.2.1, Value.int .i64 x631.2.2.1, Value.int .i64 x631.2.2.2.1, Value.int .i64 x631.2.2.2.2]) :: (1, Ent.blk b9 81 [Value.int .i64 x1, Value.int .i64 x2, Value.int .i64 x3, Value.slice a5 (List.length x4) c6]) :: (2, Ent.sl a620 (List.length x623) c621 215 10 s624) :: fr))))) (fun K => by kernel_rfl) 4 (by kernel_rfl) ?_
          refine ⟨h633, ?_⟩
          refine ⟨(h636 _ 0 _ _ _ rfl rfl rfl (OwnRead.agg rfl rfl)), ?_⟩
          intro b637
          refine ⟨rfl, ?_⟩
          refine WO.done (by kernel_rfl) ?_
          refine PO.nx ?_
          refine WP.seq (by kernel_rfl) ?_
          refine WP.reg (by kernel_rfl) ?_
          refine U.seg 5 [1, 3, 4, 6, 25, 26, 27, 35, 36] [(2, .ld 19), (4, .ld 19)] (fun K => (b637 = b637) ∧ ((b637 = b637) ∧ (K [(1, Value.pointer (some ⟨b9, 0, none⟩)), (3, Value.slice a620 (List.length x623) c621), (4, Value.int .i64 x478), (6, Value.pointer (some ⟨b637, 0, none⟩)), (25, Value.slice a5 (List.length x4) c6), (26, Value.int .i64 ((List.length x4) : Int)), (27, Value.int .i64 x618), (35, Value.agg #[Value.int .i64 x478, Value.int .i64 x631.2.2.1]), (36, Value.agg #[Value.string x631.1, Value.int .i64 x631.2.1, Value.int .i64 x631.2.2.1, Value.int .i64 x631.2.2.2.1, Value.int .i64 x631.2.2.2.2])] ((19, Ent.blk b637 85 [Value.string x631.1, Value.int .i64 x631.2.1, Value.int .i64 x631.2.2.1, Value.int .i64 x631.2.2.2.1, Value.int .i64 x631.2.2.2.2]) :: (1, Ent.blk b9 81 [Value.int .i64 x1, Value.int .i64 x2, Value.int .i64 x3, Value.slice a5 (List.length x4) c6]) :: (2, Ent.sl a620 (List.length x623) c621 215 10 s624) :: fr)))) (fun K => by kernel_rfl) 5 (by kernel_rfl) ?_
          refine ⟨rfl, ?_⟩
          refine ⟨rfl, ?_⟩
          obtain ⟨x638, h639, H⟩ := bnd_some H
          refine U.step 6 (by kernel_rfl) (U.call (dst := some 37) (fun w hw => c_f65 kk x478 x631.2.2.1 x631.1 x631.2.1 x631.2.2.1 x631.2.2.2.1 x631.2.2.2.2 h639 hw) (by kernel_rfl) (enters_of Try.func65 (by kernel_rfl) rfl)) ?_
          rintro _ _
          refine U.seg 6 [1, 3, 4, 6, 7, 8, 25, 26, 27] [(9, .al 20), (10, .st 20)] (fun K => ∀ b640 : Nat, (b640 = b640) ∧ (K [(1, Value.pointer (some ⟨b9, 0, none⟩)), (3, Value.slice a620 (List.length x623) c621), (4, Value.int .i64 x478), (6, Value.pointer (some ⟨b637, 0, none⟩)), (7, Value.pointer (some ⟨b640, 0, none⟩)), (8, Value.bool x638.2.2), (25, Value.slice a5 (List.length x4) c6), (26, Value.int .i64 ((List.length x4) : Int)), (27, Value.int .i64 x618)] ((20, Ent.blk b640 161 [Value.int .i64 x638.1, Value.int .i64 x638.2.1]) :: (19, Ent.blk b637 85 [Value.string x631.1, Value.int .i64 x631.2.1, Value.int .i64 x631.2.2.1, Value.int .i64 x631.2.2.2.1, Value.int .i64 x631.2.2.2.2]) :: (1, Ent.blk b9 81 [Value.int .i64 x1, Value.int .i64 x2, Value.int .i64 x3, Value.slice a5 (List.length x4) c6]) :: (2, Ent.sl a620 (List.length x623) c621 215 10 s624) :: fr))) (fun K => by kernel_rfl) 12 (by kernel_rfl) ?_
          intro b640
          refine ⟨rfl, ?_⟩
          refine WO.done (by kernel_rfl) ?_
          refine PO.nx ?_
          refine WP.seq (by kernel_rfl) ?_
          refine WP.reg (by kernel_rfl) ?_
          refine U.seg 1 [1, 3, 4, 6, 7, 25, 26, 27, 40] [] (fun K => K [(1, Value.pointer (some ⟨b9, 0, none⟩)), (3, Value.slice a620 (List.length x623) c621), (4, Value.int .i64 x478), (6, Value.pointer (some ⟨b637, 0, none⟩)), (7, Value.pointer (some ⟨b640, 0, none⟩)), (25, Value.slice a5 (List.length x4) c6), (26, Value.int .i64 ((List.length x4) : Int)), (27, Value.int .i64 x618), (40, Value.bool x638.2.2)] ((20, Ent.blk b640 161 [Value.int .i64 x638.1, Value.int .i64 x638.2.1]) :: (19, Ent.blk b637 85 [Value.string x631.1, Value.int .i64 x631.2.1, Value.int .i64 x631.2.2.1, Value.int .i64 x631.2.2.2.1, Value.int .i64 x631.2.2.2.2]) :: (1, Ent.blk b9 81 [Value.int .i64 x1, Value.int .i64 x2, Value.int .i64 x3, Value.slice a5 (List.length x4) c6]) :: (2, Ent.sl a620 (List.length x623) c621 215 10 s624) :: fr)) (fun K => by kernel_rfl) 1 (by kernel_rfl) ?_
          refine WO.done (by kernel_rfl) ?_
          refine PO.nx ?_
          refine WP.join (fun s => ∃ (x683 : (List (List Int))) (a680 : Option Addr) (c681 : Nat) (s684 : List Value), Rw (Kd.iarr 10 .i64) g s684 x683 ∧ f112_j15 kk x618 x683 = some q626 ∧ s = { n := 66, e := [(1, Value.pointer (some ⟨b9, 0, none⟩)), (3, Value.slice a680 (List.length x683) c681), (4, Value.int .i64 x478), (25, Value.slice a5 (List.length x4) c6), (26, Value.int .i64 ((List.length x4) : Int)), (27, Value.int .i64 x618)], d := [], g := g, h := ((1, Ent.blk b9 81 [Value.int .i64 x1, Value.int .i64 x2, Value.int .i64 x3, Value.slice a5 (List.length x4) c6]) :: (2, Ent.sl a680 (List.length x683) c681 215 10 s684) :: fr) }) ?_ ?_
          · rcases cond_some H with ⟨h641, H⟩ | ⟨h641, H⟩
            · refine U.asW (t := 40) (congrArg Value.bool h641) (by kernel_rfl) ?_
              refine WP.condT (by kernel_rfl) ?_
              refine U.draw [22] g [(20, Ent.blk b640 161 [Value.int .i64 x638.1, Value.int .i64 x638.2.1]), (19, Ent.blk b637 85 [Value.string x631.1, Value.int .i64 x631.2.1, Value.int .i64 x631.2.2.1, Value.int .i64 x631.2.2.2.1, Value.int .i64 x631.2.2.2.2]), (1, Ent.blk b9 81 [Value.int .i64 x1, Value.int .i64 x2, Value.int .i64 x3, Value.slice a5 (List.length x4) c6]), (2, Ent.sl a620 (List.length x623) c621 215 10 s624)] (by kernel_rfl) (by kernel_rfl) 24 (by kernel_rfl) (fun w hw => Ok.pickTo [(20, 0), (19, 1), (1, 2), (2, 3)] (by kernel_rfl) (by kernel_rfl) (GH.le_refl _) hw) ?_
              obtain ⟨x660, h661, H⟩ := bnd_some H
              obtain ⟨h662, s663, h664, h665, h666⟩ := Rw.elt (d := (Kd.iarr 10 .i64)) h622 h661
              obtain ⟨h667, rfl⟩ := h664
              obtain ⟨h668, H⟩ := grd_some H
              obtain ⟨x669, h670, H⟩ := bnd_some H
              obtain ⟨h671, s672, h673, h674, h675⟩ := Rw.elt (d := (Kd.iarr 10 .i64)) h622 h670
              obtain ⟨h676, rfl⟩ := h673
              obtain ⟨h677, H⟩ := grd_some H
              refine U.take 2 [0, 1, 2, 3, 4, 5, 6, 7, 8, 9, 10, 11, 12, 13, 14, 15, 16, 17, 18, 19, 20, 21] [1, 3, 4, 25, 26, 27, 44, 61, 62] [21, 20, 19, 18, 17, 16, 15, 14, 13, 12, 11, 10, 9, 8, 7, 6, 5, 4, 3, 2, 1, 0] [(3, .ld 19), (7, .ld 19), (8, .o 2), (9, .s), (10, .lv 2 (Value.int .i64 (List.getD x660 (Int.toNat (x631.2.2.1)) 0))), (13, .ld 20), (15, .ld 20), (16, .o 2), (17, .s), (18, .lv 2 (Value.int .i64 (List.getD x669 (Int.toNat (x638.2.1)) 0))), (21, .o 2)] (fun K => (b637 = b637) ∧ ((b637 = b637) ∧ (((0 : Int) ≤ x478 ∧ x478 < ((List.length x623) : Nat) ∧ a620 = a620 ∧ (List.length x623) = (List.length x623)) ∧ (((0 : Int) ≤ x631.2.2.1 ∧ x631.2.2.1 < ((10 : Nat) : Int) ∧ (⟨ab a620, (Int.toNat (x478)) * 10, none⟩ : Addr).spot = none) ∧ ((ab a620 = ab a620 ∧ OwnRead s624 ((Int.toNat (x478)) * 10 + (Int.toNat (x631.2.2.1)) * 1) false 1 (Value.int .i64 (List.getD x660 (Int.toNat (x631.2.2.1)) 0))) ∧ ((b640 = b640) ∧ ((b640 = b640) ∧ (((0 : Int) ≤ x638.1 ∧ x638.1 < ((List.length x623) : Nat) ∧ a620 = a620 ∧ (List.length x623) = (List.length x623)) ∧ (((0 : Int) ≤ x638.2.1 ∧ x638.2.1 < ((10 : Nat) : Int) ∧ (⟨ab a620, (Int.toNat (x638.1)) * 10, none⟩ : Addr).spot = none) ∧ ((ab a620 = ab a620 ∧ OwnRead s624 ((Int.toNat (x638.1)) * 10 + (Int.toNat (x638.2.1)) * 1) false 1 (Value.int .i64 (List.getD x669 (Int.toNat (x638.2.1)) 0))) ∧ (((0 : Int) ≤ x478 ∧ x478 < ((List.length x623) : Nat) ∧ a620 = a620 ∧ (List.length x623) = (List.length x623)) ∧ (K [(1, Value.pointer (some ⟨b9, 0, none⟩)), (3, Value.slice a620 (List.length x623) c621), (4, Value.int .i64 x478), (25, Value.slice a5 (List.length x4) c6), (26, Value.int .i64 ((List.length x4) : Int)), (27, Value.int .i64 x618), (44, Value.int .i64 x631.2.2.1), (61, Value.int .i64 (imin (w64 ((List.getD x660 (Int.toNat (x631.2.2.1)) 0) + (List.getD x669 (Int.toNat (x638.2.1)) 0))) 1000000000000001)), (62, Value.pointer (some ⟨ab a620, (Int.toNat (x478)) * 10, none⟩))])))))))))))) (fun K => by kernel_rfl) (by kernel_rfl) (by kernel_rfl) (by kernel_rfl) ?_
              refine ⟨rfl, ?_⟩
              refine ⟨rfl, ?_⟩
              refine ⟨⟨h662.1, h662.2, rfl, rfl⟩, ?_⟩
              refine ⟨⟨h668.1, h668.2, rfl⟩, ?_⟩
              refine ⟨⟨rfl, by have h0 := h665 (0 + (Int.toNat (x631.2.2.1)) * 1) false 1 _ (arr_read (k := .i64) (xs := x660) [] [] h668.1 h668.2 (by simp) rfl); have e0 : (Int.toNat (x478)) * 10 + (Int.toNat (x631.2.2.1)) * 1 = (Int.toNat (x478)) * 10 + (0 + (Int.toNat (x631.2.2.1)) * 1) := (by omega); rw [e0]; exact h0⟩, ?_⟩
              refine ⟨rfl, ?_⟩
              refine ⟨rfl, ?_⟩
              refine ⟨⟨h671.1, h671.2, rfl, rfl⟩, ?_⟩
              refine ⟨⟨h677.1, h677.2, rfl⟩, ?_⟩
              refine ⟨⟨rfl, by have h0 := h674 (0 + (Int.toNat (x638.2.1)) * 1) false 1 _ (arr_read (k := .i64) (xs := x669) [] [] h677.1 h677.2 (by simp) rfl); have e0 : (Int.toNat (x638.1)) * 10 + (Int.toNat (x638.2.1)) * 1 = (Int.toNat (x638.1)) * 10 + (0 + (Int.toNat (x638.2.1)) * 1) := (by omega); rw [e0]; exact h0⟩, ?_⟩
              refine ⟨⟨h662.1, h662.2, rfl, rfl⟩, ?_⟩
              refine U.one 1 22 [1, 3, 4, 25, 26, 27, 61, 63] [(22, .s)] (fun K => ((0 : Int) ≤ x631.2.2.1 ∧ x631.2.2.1 < ((10 : Nat) : Int) ∧ (⟨ab a620, (Int.toNat (x478)) * 10, none⟩ : Addr).spot = none) ∧ (K [(1, Value.pointer (some ⟨b9, 0, none⟩)), (3, Value.slice a620 (List.length x623) c621), (4, Value.int .i64 x478), (25, Value.slice a5 (List.length x4) c6), (26, Value.int .i64 ((List.length x4) : Int)), (27, Value.int .i64 x618), (61, Value.int .i64 (imin (w64 ((List.getD x660 (Int.toNat (x631.2.2.1)) 0) + (List.getD x669 (Int.toNat (x638.2.1)) 0))) 1000000000000001)), (63, Value.pointer (some ⟨ab a620, (Int.toNat (x478)) * 10 + (Int.toNat (x631.2.2.1)) * 1, none⟩))] ((20, Ent.blk b640 161 [Value.int .i64 x638.1, Value.int .i64 x638.2.1]) :: (19, Ent.blk b637 85 [Value.string x631.1, Value.int .i64 x631.2.1, Value.int .i64 x631.2.2.1, Value.int .i64 x631.2.2.2.1, Value.int .i64 x631.2.2.2.2]) :: (1, Ent.blk b9 81 [Value.int .i64 x1, Value.int .i64 x2, Value.int .i64 x3, Value.slice a5 (List.length x4) c6]) :: (2, Ent.sl a620 (List.length x623) c621 215 10 s624) :: fr))) (fun K => by kernel_rfl) (by kernel_rfl) (by kernel_rfl) ?_
              refine ⟨⟨h668.1, h668.2, rfl⟩, ?_⟩
              refine ⟨(fun w hw => .inl (by kernel_rfl)), ?_⟩
              have h678p := h666 ((Int.toNat (x631.2.2.1)) * 1) [Value.int .i64 (imin (w64 ((List.getD x660 (Int.toNat (x631.2.2.1)) 0) + (List.getD x669 (Int.toNat (x638.2.1)) 0))) 1000000000000001)] (setA 10 x660 x631.2.2.1 (imin (w64 ((List.getD x660 (Int.toNat (x631.2.2.1)) 0) + (List.getD x669 (Int.toNat (x638.2.1)) 0))) 1000000000000001)) (by simp only [List.length_singleton, Kd.iarr]; have h1 := h668.1; have h2 := h668.2; omega) ⟨by simp [setA], by have h3 := arr_set (k := .i64) (xs := x660) (v := (imin (w64 ((List.getD x660 (Int.toNat (x631.2.2.1)) 0) + (List.getD x669 (Int.toNat (x638.2.1)) 0))) 1000000000000001)) [] [] h668.1 h668.2; simpa using h3⟩
              have h678 := h678p.2
              refine U.one 0 23 [1, 3, 4, 25, 26, 27] [(23, .sv 2 (splice s624 ((Int.toNat (x478)) * 10 + (Int.toNat (x631.2.2.1)) * 1) [Value.int .i64 (imin (w64 ((List.getD x660 (Int.toNat (x631.2.2.1)) 0) + (List.getD x669 (Int.toNat (x638.2.1)) 0))) 1000000000000001)]))] (fun K => (ab a620 = ab a620 ∧ [Value.int .i64 (imin (w64 ((List.getD x660 (Int.toNat (x631.2.2.1)) 0) + (List.getD x669 (Int.toNat (x638.2.1)) 0))) 1000000000000001)].length = 1 ∧ (Int.toNat (x478)) * 10 + (Int.toNat (x631.2.2.1)) * 1 + [Value.int .i64 (imin (w64 ((List.getD x660 (Int.toNat (x631.2.2.1)) 0) + (List.getD x669 (Int.toNat (x638.2.1)) 0))) 1000000000000001)].length ≤ s624.length ∧ (∀ u ∈ [Value.int .i64 (imin (w64 ((List.getD x660 (Int.toNat (x631.2.2.1)) 0) + (List.getD x669 (Int.toNat (x638.2.1)) 0))) 1000000000000001)], u.oneCell' = true) ∧ splice s624 ((Int.toNat (x478)) * 10 + (Int.toNat (x631.2.2.1)) * 1) [Value.int .i64 (imin (w64 ((List.getD x660 (Int.toNat (x631.2.2.1)) 0) + (List.getD x669 (Int.toNat (x638.2.1)) 0))) 1000000000000001)] = (splice s624 ((Int.toNat (x478)) * 10 + (Int.toNat (x631.2.2.1)) * 1) [Value.int .i64 (imin (w64 ((List.getD x660 (Int.toNat (x631.2.2.1)) 0) + (List.getD x669 (Int.toNat (x638.2.1)) 0))) 1000000000000001)])) ∧ (K [(1, Value.pointer (some ⟨b9, 0, none⟩)), (3, Value.slice a620 (List.length x623) c621), (4, Value.int .i64 x478), (25, Value.slice a5 (List.length x4) c6), (26, Value.int .i64 ((List.length x4) : Int)), (27, Value.int .i64 x618)] ((20, Ent.blk b640 161 [Value.int .i64 x638.1, Value.int .i64 x638.2.1]) :: (19, Ent.blk b637 85 [Value.string x631.1, Value.int .i64 x631.2.1, Value.int .i64 x631.2.2.1, Value.int .i64 x631.2.2.2.1, Value.int .i64 x631.2.2.2.2]) :: (1, Ent.blk b9 81 [Value.int .i64 x1, Value.int .i64 x2, Value.int .i64 x3, Value.slice a5 (List.length x4) c6]) :: (2, Ent.sl a620 (List.length x623) c621 215 10 (splice s624 ((Int.toNat (x478)) * 10 + (Int.toNat (x631.2.2.1)) * 1) [Value.int .i64 (imin (w64 ((List.getD x660 (Int.toNat (x631.2.2.1)) 0) + (List.getD x669 (Int.toNat (x638.2.1)) 0))) 1000000000000001)])) :: fr))) (fun K => by kernel_rfl) (by kernel_rfl) (by kernel_rfl) ?_
              refine ⟨⟨rfl, rfl, h678p.1, by intro u hu; simp at hu; subst hu; rfl, rfl⟩, ?_⟩
              refine ⟨(fun w hw => .inl (by kernel_rfl)), ?_⟩
              refine U.eqSD [(1, Value.pointer (some ⟨b9, 0, none⟩)), (3, Value.slice a620 (List.length (List.set x623 (Int.toNat (x478)) (setA 10 x660 x631.2.2.1 (imin (w64 ((List.getD x660 (Int.toNat (x631.2.2.1)) 0) + (List.getD x669 (Int.toNat (x638.2.1)) 0))) 1000000000000001)))) c621), (4, Value.int .i64 x478), (25, Value.slice a5 (List.length x4) c6), (26, Value.int .i64 ((List.length x4) : Int)), (27, Value.int .i64 x618)] ((20, Ent.blk b640 161 [Value.int .i64 x638.1, Value.int .i64 x638.2.1]) :: (19, Ent.blk b637 85 [Value.string x631.1, Value.int .i64 x631.2.1, Value.int .i64 x631.2.2.1, Value.int .i64 x631.2.2.2.1, Value.int .i64 x631.2.2.2.2]) :: (1, Ent.blk b9 81 [Value.int .i64 x1, Value.int .i64 x2, Value.int .i64 x3, Value.slice a5 (List.length x4) c6]) :: (2, Ent.sl a620 (List.length (List.set x623 (Int.toNat (x478)) (setA 10 x660 x631.2.2.1 (imin (w64 ((List.getD x660 (Int.toNat (x631.2.2.1)) 0) + (List.getD x669 (Int.toNat (x638.2.1)) 0))) 1000000000000001)))) c621 215 10 (splice s624 ((Int.toNat (x478)) * 10 + (Int.toNat (x631.2.2.1)) * 1) [Value.int .i64 (imin (w64 ((List.getD x660 (Int.toNat (x631.2.2.1)) 0) + (List.getD x669 (Int.toNat (x638.2.1)) 0))) 1000000000000001)])) :: fr) (by simp) (by simp) ?_
              refine WD.done (by kernel_rfl) ?_
              refine PO.jn ⟨(List.set x623 (Int.toNat (x478)) (setA 10 x660 x631.2.2.1 (imin (w64 ((List.getD x660 (Int.toNat (x631.2.2.1)) 0) + (List.getD x669 (Int.toNat (x638.2.1)) 0))) 1000000000000001))), a620, c621, (splice s624 ((Int.toNat (x478)) * 10 + (Int.toNat (x631.2.2.1)) * 1) [Value.int .i64 (imin (w64 ((List.getD x660 (Int.toNat (x631.2.2.1)) 0) + (List.getD x669 (Int.toNat (x638.2.1)) 0))) 1000000000000001)]), h678, H, rfl⟩ ?_
              exact (St.ok.to [1, 3, 4, 25, 26, 27] 4 [(1, 2), (2, 3)] (by kernel_rfl) rfl (by kernel_rfl) rfl rfl (by kernel_rfl))
            · refine U.asW (t := 40) (congrArg Value.bool h641) (by kernel_rfl) ?_
              refine WP.condF (by kernel_rfl) ?_
              refine WP.skip (by kernel_rfl) ?_
              refine PO.jn ⟨x623, a620, c621, s624, h622, H, rfl⟩ ?_
              exact (St.ok.to [1, 3, 4, 25, 26, 27] 4 [(1, 2), (2, 3)] (by kernel_rfl) rfl (by kernel_rfl) rfl rfl (by kernel_rfl))
          · rintro _ ⟨x683, a680, c681, s684, h682, H, rfl⟩
            unfold f112_j15 at H
            refine PO.blk_normal ?_
            refine PO.nx ?_
            refine WP.reg (by kernel_rfl) ?_
            refine U.seg 2 [1, 3, 4, 25, 26, 27] [] (fun K => K [(1, Value.pointer (some ⟨b9, 0, none⟩)), (3, Value.slice a680 (List.length x683) c681), (4, Value.int .i64 x478), (25, Value.slice a5 (List.length x4) c6), (26, Value.int .i64 ((List.length x4) : Int)), (27, Value.int .i64 (w64 (x618 + 1)))] ((1, Ent.blk b9 81 [Value.int .i64 x1, Value.int .i64 x2, Value.int .i64 x3, Value.slice a5 (List.length x4) c6]) :: (2, Ent.sl a680 (List.length x683) c681 215 10 s684) :: fr)) (fun K => by kernel_rfl) 2 (by kernel_rfl) ?_
            refine WO.done (by kernel_rfl) ?_
            have hq := Option.some.inj H
            subst hq
            refine PO.againW ⟨(w64 (x618 + 1)), x683, a680, c681, s684, h682, h627, rfl⟩ ?_ (Nat.lt_succ_self _)
            exact (St.ok.to [1, 3, 4, 25, 26, 27] 2 [(1, 0), (2, 1)] (by kernel_rfl) rfl (by kernel_rfl) rfl rfl (by kernel_rfl))
        · refine U.asW (t := 28) (congrArg Value.bool h630) (by kernel_rfl) ?_
          refine WP.condF (by kernel_rfl) ?_
          refine WP.exit (id := 2) (by kernel_rfl) ?_
          refine PO.nx_exit ?_
          refine PO.lp_exit ?_
          refine PO.blk_exit ?_
          have hq := Option.some.inj H
          subst hq
          have H := h628
          rw [← (show _ = o625 from h627)] at H
          have H : f112_j16 kk x478 x623 = some q486 := H
          refine PO.jn ⟨x623, a620, c621, s624, h622, H, rfl⟩ ?_
          exact (St.ok.to [1, 3, 4] 2 [(1, 0), (2, 1)] (by kernel_rfl) rfl (by kernel_rfl) rfl rfl (by kernel_rfl))
      · rintro _ ⟨x702, a699, c700, s703, h701, H, rfl⟩
        unfold f112_j16 at H
        refine PO.blk_normal ?_
        refine PO.nx ?_
        refine WP.reg (by kernel_rfl) ?_
        refine U.seg 3 [1, 3, 4] [] (fun K => K [(1, Value.pointer (some ⟨b9, 0, none⟩)), (3, Value.slice a699 (List.length x702) c700), (4, Value.int .i64 (w64 (x478 + 1)))] ((1, Ent.blk b9 81 [Value.int .i64 x1, Value.int .i64 x2, Value.int .i64 x3, Value.slice a5 (List.length x4) c6]) :: (2, Ent.sl a699 (List.length x702) c700 215 10 s703) :: fr)) (fun K => by kernel_rfl) 3 (by kernel_rfl) ?_
        refine WO.done (by kernel_rfl) ?_
        have hq := Option.some.inj H
        subst hq
        refine PO.againW ⟨(w64 (x478 + 1)), x702, a699, c700, s703, h701, h487, rfl⟩ ?_ (Nat.lt_succ_self _)
        exact (St.ok.to [1, 3, 4] 2 [(1, 0), (2, 1)] (by kernel_rfl) rfl (by kernel_rfl) rfl rfl (by kernel_rfl))
    · refine U.asW (t := 21) (congrArg Value.bool h490) (by kernel_rfl) ?_
      refine WP.condF (by kernel_rfl) ?_
      refine WP.exit (id := 0) (by kernel_rfl) ?_
      refine PO.nx_exit ?_
      refine PO.lp_exit ?_
      refine PO.blk_exit ?_
      have hq := Option.some.inj H
      subst hq
      have H := h488
      rw [← (show _ = o485 from h487)] at H
      have H : f112_j17 kk x483 = some r := H
      refine PO.jn ⟨x483, a480, c481, s484, h482, H, rfl⟩ ?_
      exact (St.ok.to [3] 2 [(2, 1)] (by kernel_rfl) rfl (by kernel_rfl) rfl rfl (by kernel_rfl))
  · rintro _ ⟨x721, a718, c719, s722, h720, H, rfl⟩
    unfold f112_j17 at H
    refine PO.nx ?_
    refine WP.seq (by kernel_rfl) ?_
    refine WP.reg (by kernel_rfl) ?_
    refine U.seg 2 [2] [] (fun K => K [(2, Value.slice a718 (List.length x721) c719)] ((2, Ent.sl a718 (List.length x721) c719 215 10 s722) :: fr)) (fun K => by kernel_rfl) 2 (by kernel_rfl) ?_
    refine WO.done (by kernel_rfl) ?_
    refine PO.nx ?_
    refine WP.ret (by kernel_rfl) ?_
    refine U.freezeP (dd := (Kd.iarr 10 .i64)) (t := 2) (a := a718) (n1 := (List.length x721)) (cc := c719) (T := 215) (cs := s722) (by kernel_rfl) h720 rfl (fun g723 h724 h725 => ?_)
    have hr := Option.some.inj H
    subst hr
    refine PO.body [Value.slice a718 (List.length x721) c719] (fr) rfl (Res.tmp (by kernel_rfl) Res.nil) ?_
    exact fun w hw => Ret.mk (g723, a718, c719) ⟨h724, h725⟩ rfl (okNT 0 [] (by kernel_rfl) rfl hw)

set_option maxRecDepth 100000 in
theorem c_f64 (kk : Nat) (x1 : Int) (x2 : Int) (x3 : Int) (x4 : (List (ByteArray × Int × Int × Int × Int))) (a5 : Option Addr) (c6 : Nat) {g : GH} (h8 : Sl (Kd.pair Kd.str (Kd.pair (Kd.int .i64) (Kd.pair (Kd.int .i64) (Kd.pair (Kd.int .i64) (Kd.int .i64))))) g a5 (List.length x4) c6 x4) {r : (Int × Int)} (H : m_f64 kk x1 x2 x3 x4 = some r) {fr : Hs} {w : World} (hw : Ok g (fr) w) :
    Calls Try.prog 64 (List.toArray [Value.agg #[Value.int .i64 x1, Value.int .i64 x2, Value.int .i64 x3, Value.slice a5 (List.length x4) c6]]) w (Ret (fun _ : Unit => True) (fun _ => Value.agg #[Value.int .i64 r.1, Value.int .i64 r.2]) (fun _ => g) (fun _ => (fr))) := by
  refine fn_wp (args := [Value.agg #[Value.int .i64 x1, Value.int .i64 x2, Value.int .i64 x3, Value.slice a5 (List.length x4) c6]]) (c := C_64) Try.func64 (by kernel_rfl) Try.ntmps64 (by kernel_rfl) ?_ hw
  unfold m_f64 at H
  refine WP.seq (by kernel_rfl) ?_
  refine WP.reg (by kernel_rfl) ?_
  refine U.seg 2 [1, 2] [(0, .al 1), (1, .al 2)] (fun K => ∀ b9 : Nat, ∀ b10 : Nat, K [(1, Value.pointer (some ⟨b9, 0, none⟩)), (2, Value.pointer (some ⟨b10, 0, none⟩))] ((2, Ent.blk b10 161 [Value.int .i64 0, Value.int .i64 0]) :: (1, Ent.blk b9 81 [Value.int .i64 x1, Value.int .i64 x2, Value.int .i64 x3, Value.slice a5 (List.length x4) c6]) :: fr)) (fun K => by kernel_rfl) 2 (by kernel_rfl) ?_
  intro b9
  intro b10
  refine WO.done (by kernel_rfl) ?_
  refine PO.nx ?_
  refine WP.seq (by kernel_rfl) ?_
  refine WP.reg (by kernel_rfl) ?_
  refine U.seg 6 [2] [(1, .ld 1), (3, .ld 1), (5, .st 2)] (fun K => (b9 = b9) ∧ ((b9 = b9) ∧ ((b10 = b10) ∧ (K [(2, Value.pointer (some ⟨b10, 0, none⟩))] ((2, Ent.blk b10 161 [Value.int .i64 x1, Value.int .i64 x2]) :: (1, Ent.blk b9 81 [Value.int .i64 x1, Value.int .i64 x2, Value.int .i64 x3, Value.slice a5 (List.length x4) c6]) :: fr))))) (fun K => by kernel_rfl) 6 (by kernel_rfl) ?_
  refine ⟨rfl, ?_⟩
  refine ⟨rfl, ?_⟩
  refine ⟨rfl, ?_⟩
  refine WO.done (by kernel_rfl) ?_
  refine PO.nx ?_
  refine WP.ret (by kernel_rfl) ?_
  have hr := Option.some.inj H
  subst hr
  refine PO.body [Value.agg #[Value.int .i64 x1, Value.int .i64 x2]] ((2, Ent.blk b10 161 [Value.int .i64 x1, Value.int .i64 x2]) :: (1, Ent.blk b9 81 [Value.int .i64 x1, Value.int .i64 x2, Value.int .i64 x3, Value.slice a5 (List.length x4) c6]) :: fr) rfl (Res.cell b10 0 2 (Ent.blk b10 161 [Value.int .i64 x1, Value.int .i64 x2]) [Value.int .i64 x1, Value.int .i64 x2] true 2 (by kernel_rfl) (by kernel_rfl) (by kernel_rfl) (by kernel_rfl) (by kernel_rfl) (OwnRead.agg rfl rfl) Res.nil) ?_
  exact fun w hw => Ret.mk () trivial rfl (okNT 2 [] (by kernel_rfl) rfl hw)

set_option maxRecDepth 100000 in
theorem c_f66 (kk : Nat) (x1 : (List (List Int))) (x5 : Int) (x6 : Int) (a2 : Option Addr) (c3 : Nat) {g : GH} (h7 : Sl (Kd.iarr 10 .i64) g a2 (List.length x1) c3 x1) {r : Int} (H : m_f66 kk x1 x5 x6 = some r) {fr : Hs} {w : World} (hw : Ok g (fr) w) :
    Calls Try.prog 66 (List.toArray [Value.slice a2 (List.length x1) c3, Value.agg #[Value.int .i64 x5, Value.int .i64 x6]]) w (Ret (fun _ : Unit => True) (fun _ => Value.int .i64 r) (fun _ => g) (fun _ => (fr))) := by
  refine fn_wp (args := [Value.slice a2 (List.length x1) c3, Value.agg #[Value.int .i64 x5, Value.int .i64 x6]]) (c := C_66) Try.func66 (by kernel_rfl) Try.ntmps66 (by kernel_rfl) ?_ hw
  unfold m_f66 at H
  refine WP.seq (by kernel_rfl) ?_
  refine WP.reg (by kernel_rfl) ?_
  refine U.seg 2 [0, 3] [(0, .al 1)] (fun K => ∀ b8 : Nat, K [(0, Value.slice a2 (List.length x1) c3), (3, Value.pointer (some ⟨b8, 0, none⟩))] ((1, Ent.blk b8 161 [Value.int .i64 x5, Value.int .i64 x6]) :: fr)) (fun K => by kernel_rfl) 2 (by kernel_rfl) ?_
  intro b8
  refine WO.done (by kernel_rfl) ?_
  refine PO.nx ?_
  refine WP.seq (by kernel_rfl) ?_
  refine U.draw [] g [(1, Ent.blk b8 161 [Value.int .i64 x5, Value.int .i64 x6])] (by kernel_rfl) (by kernel_rfl) 9 (by kernel_rfl) (fun w hw => Ok.pickTo [(1, 0)] (by kernel_rfl) (by kernel_rfl) (GH.le_refl _) hw) ?_
  obtain ⟨x17, h18, H⟩ := bnd_some H
  obtain ⟨h19, s20, h21, h22⟩ := Sl.at' (d := (Kd.iarr 10 .i64)) h7 h18
  obtain ⟨h23, rfl⟩ := h21
  obtain ⟨h24, H⟩ := grd_some H
  refine U.take 0 [0, 1, 2, 3, 4, 5, 6, 7, 8] [4] [8, 7, 6, 5, 4, 3, 2, 1, 0] [(2, .ld 1), (4, .ld 1), (5, .s), (6, .s), (7, .lg (Value.int .i64 (List.getD x17 (Int.toNat (x6)) 0)))] (fun K => (b8 = b8) ∧ ((b8 = b8) ∧ (((0 : Int) ≤ x5 ∧ x5 < ((List.length x1) : Nat) ∧ FlatA a2 (List.length x1)) ∧ (((0 : Int) ≤ x6 ∧ x6 < ((10 : Nat) : Int) ∧ (⟨ab a2, ao a2 + (Int.toNat (x5)) * 10, none⟩ : Addr).spot = none) ∧ ((GLoad g ⟨ab a2, ao a2 + (Int.toNat (x5)) * 10 + (Int.toNat (x6)) * 1, none⟩ false 1 (Value.int .i64 (List.getD x17 (Int.toNat (x6)) 0))) ∧ (K [(4, Value.int .i64 (List.getD x17 (Int.toNat (x6)) 0))])))))) (fun K => by kernel_rfl) (by kernel_rfl) (by kernel_rfl) (by kernel_rfl) ?_
  refine ⟨rfl, ?_⟩
  refine ⟨rfl, ?_⟩
  refine ⟨h19, ?_⟩
  refine ⟨⟨h24.1, h24.2, rfl⟩, ?_⟩
  refine ⟨(h22 _ (0 + (Int.toNat (x6)) * 1) _ _ _ rfl rfl (by show _ = ao a2 + (Int.toNat (x5)) * 10 + (0 + (Int.toNat (x6)) * 1); show ao a2 + (Int.toNat (x5)) * 10 + (Int.toNat (x6)) * 1 = _; omega) (arr_read (k := .i64) (xs := x17) [] [] h24.1 h24.2 (by simp) rfl)), ?_⟩
  refine WD.done (by kernel_rfl) ?_
  refine PO.nx ?_
  refine WP.ret (by kernel_rfl) ?_
  have hr := Option.some.inj H
  subst hr
  refine PO.body [Value.int .i64 (List.getD x17 (Int.toNat (x6)) 0)] ((1, Ent.blk b8 161 [Value.int .i64 x5, Value.int .i64 x6]) :: fr) rfl (Res.tmp (by kernel_rfl) Res.nil) ?_
  exact fun w hw => Ret.mk () trivial rfl (okNT 1 [] (by kernel_rfl) rfl hw)

set_option maxRecDepth 100000 in
theorem c_f63 (kk : Nat) (x1 : Int) (x2 : Int) (x3 : Int) (x4 : (List (ByteArray × Int × Int × Int × Int))) (a5 : Option Addr) (c6 : Nat) {g : GH} (h8 : Sl (Kd.pair Kd.str (Kd.pair (Kd.int .i64) (Kd.pair (Kd.int .i64) (Kd.pair (Kd.int .i64) (Kd.int .i64))))) g a5 (List.length x4) c6 x4) {r : ((List (List Int)) × Int)} (H : m_f63 kk x1 x2 x3 x4 = some r) {fr : Hs} {w : World} (hw : Ok g (fr) w) :
    Calls Try.prog 63 (List.toArray [Value.agg #[Value.int .i64 x1, Value.int .i64 x2, Value.int .i64 x3, Value.slice a5 (List.length x4) c6]]) w (Ret (fun y : (GH) × (Option Addr) × (Nat) => GH.le g y.1 ∧ Sl (Kd.iarr 10 .i64) y.1 y.2.1 (List.length r.1) y.2.2 r.1) (fun y => Value.tuple #[Value.slice y.2.1 (List.length r.1) y.2.2, Value.int .i64 r.2]) (fun y => y.1) (fun y => (fr))) := by
  refine fn_wp (args := [Value.agg #[Value.int .i64 x1, Value.int .i64 x2, Value.int .i64 x3, Value.slice a5 (List.length x4) c6]]) (c := C_63) Try.func63 (by kernel_rfl) Try.ntmps63 (by kernel_rfl) ?_ hw
  unfold m_f63 at H
  refine WP.seq (by kernel_rfl) ?_
  refine WP.reg (by kernel_rfl) ?_
  refine U.seg 3 [1] [(0, .al 1)] (fun K => ∀ b9 : Nat, K [(1, Value.pointer (some ⟨b9, 0, none⟩))] ((1, Ent.blk b9 81 [Value.int .i64 x1, Value.int .i64 x2, Value.int .i64 x3, Value.slice a5 (List.length x4) c6]) :: fr)) (fun K => by kernel_rfl) 3 (by kernel_rfl) ?_
  intro b9
  refine WO.done (by kernel_rfl) ?_
  refine PO.nx ?_
  refine WP.seq (by kernel_rfl) ?_
  refine WP.seq (by kernel_rfl) ?_
  refine WP.reg (by kernel_rfl) ?_
  refine U.seg 1 [1, 6] [(0, .ld 1)] (fun K => (b9 = b9) ∧ (K [(1, Value.pointer (some ⟨b9, 0, none⟩)), (6, Value.agg #[Value.int .i64 x1, Value.int .i64 x2, Value.int .i64 x3, Value.slice a5 (List.length x4) c6])] ((1, Ent.blk b9 81 [Value.int .i64 x1, Value.int .i64 x2, Value.int .i64 x3, Value.slice a5 (List.length x4) c6]) :: fr))) (fun K => by kernel_rfl) 1 (by kernel_rfl) ?_
  refine ⟨rfl, ?_⟩
  obtain ⟨x11, h12, H⟩ := bnd_some H
  refine U.step 2 (by kernel_rfl) (U.call (dst := some 7) (fun w hw => c_f61 kk x1 x2 x3 x4 a5 c6 h8 h12 hw) (by kernel_rfl) (enters_of Try.func61 (by kernel_rfl) rfl)) ?_
  rintro _ _
  refine U.seg 1 [1, 4] [] (fun K => K [(1, Value.pointer (some ⟨b9, 0, none⟩)), (4, Value.int .i64 x11)] ((1, Ent.blk b9 81 [Value.int .i64 x1, Value.int .i64 x2, Value.int .i64 x3, Value.slice a5 (List.length x4) c6]) :: fr)) (fun K => by kernel_rfl) 3 (by kernel_rfl) ?_
  refine WO.done (by kernel_rfl) ?_
  refine PO.nx ?_
  refine WP.seq (by kernel_rfl) ?_
  refine WP.reg (by kernel_rfl) ?_
  refine U.seg 2 [1, 4, 9] [] (fun K => K [(1, Value.pointer (some ⟨b9, 0, none⟩)), (4, Value.int .i64 x11), (9, Value.bool (x11 != 0))] ((1, Ent.blk b9 81 [Value.int .i64 x1, Value.int .i64 x2, Value.int .i64 x3, Value.slice a5 (List.length x4) c6]) :: fr)) (fun K => by kernel_rfl) 2 (by kernel_rfl) ?_
  refine WO.done (by kernel_rfl) ?_
  refine PO.nx ?_
  rcases cond_some H with ⟨h13, H⟩ | ⟨h13, H⟩
  · refine U.asW (t := 9) (congrArg Value.bool h13) (by kernel_rfl) ?_
    refine WP.condT (by kernel_rfl) ?_
    refine WP.seq (by kernel_rfl) ?_
    refine WP.reg (by kernel_rfl) ?_
    refine U.seg 3 [2, 3] [] (fun K => K [(2, Value.slice none 0 0), (3, Value.int .i64 x11)] ((1, Ent.blk b9 81 [Value.int .i64 x1, Value.int .i64 x2, Value.int .i64 x3, Value.slice a5 (List.length x4) c6]) :: fr)) (fun K => by kernel_rfl) 3 (by kernel_rfl) ?_
    refine WO.done (by kernel_rfl) ?_
    refine PO.nx ?_
    refine WP.ret (by kernel_rfl) ?_
    refine PO.nx_ret ?_
    have hr := Option.some.inj H
    subst hr
    refine PO.body [Value.slice none 0 0, Value.int .i64 x11] ((1, Ent.blk b9 81 [Value.int .i64 x1, Value.int .i64 x2, Value.int .i64 x3, Value.slice a5 (List.length x4) c6]) :: fr) rfl (Res.tmp (by kernel_rfl) (Res.tmp (by kernel_rfl) Res.nil)) ?_
    exact fun w hw => Ret.mk (g, none, 0) ⟨(GH.le_refl _), Sl.nil'⟩ rfl (okNT 1 [] (by kernel_rfl) rfl hw)
  · refine U.asW (t := 9) (congrArg Value.bool h13) (by kernel_rfl) ?_
    refine WP.condF (by kernel_rfl) ?_
    refine WP.skip (by kernel_rfl) ?_
    refine PO.nx ?_
    refine WP.seq (by kernel_rfl) ?_
    refine WP.reg (by kernel_rfl) ?_
    refine U.seg 1 [1, 11] [(0, .ld 1)] (fun K => (b9 = b9) ∧ (K [(1, Value.pointer (some ⟨b9, 0, none⟩)), (11, Value.agg #[Value.int .i64 x1, Value.int .i64 x2, Value.int .i64 x3, Value.slice a5 (List.length x4) c6])] ((1, Ent.blk b9 81 [Value.int .i64 x1, Value.int .i64 x2, Value.int .i64 x3, Value.slice a5 (List.length x4) c6]) :: fr))) (fun K => by kernel_rfl) 1 (by kernel_rfl) ?_
    refine ⟨rfl, ?_⟩
    obtain ⟨x15, h16, H⟩ := bnd_some H
    refine U.step 2 (by kernel_rfl) (U.call (dst := some 12) (fun w hw => c_f112 kk x1 x2 x3 x4 a5 c6 h8 h16 hw) (by kernel_rfl) (enters_of Try.func112 (by kernel_rfl) rfl)) ?_
    rintro ⟨g17, a19, c20⟩ ⟨h18, h22⟩
    refine U.seg 1 [1, 5] [] (fun K => K [(1, Value.pointer (some ⟨b9, 0, none⟩)), (5, Value.slice a19 (List.length x15) c20)] ((1, Ent.blk b9 81 [Value.int .i64 x1, Value.int .i64 x2, Value.int .i64 x3, Value.slice a5 (List.length x4) c6]) :: fr)) (fun K => by kernel_rfl) 3 (by kernel_rfl) ?_
    refine WO.done (by kernel_rfl) ?_
    refine PO.nx ?_
    refine WP.seq (by kernel_rfl) ?_
    refine WP.seq (by kernel_rfl) ?_
    refine WP.reg (by kernel_rfl) ?_
    refine U.seg 2 [5, 13, 14] [(1, .ld 1)] (fun K => (b9 = b9) ∧ (K [(5, Value.slice a19 (List.length x15) c20), (13, Value.slice a19 (List.length x15) c20), (14, Value.agg #[Value.int .i64 x1, Value.int .i64 x2, Value.int .i64 x3, Value.slice a5 (List.length x4) c6])] ((1, Ent.blk b9 81 [Value.int .i64 x1, Value.int .i64 x2, Value.int .i64 x3, Value.slice a5 (List.length x4) c6]) :: fr))) (fun K => by kernel_rfl) 2 (by kernel_rfl) ?_
    refine ⟨rfl, ?_⟩
    obtain ⟨x23, h24, H⟩ := bnd_some H
    refine U.step 3 (by kernel_rfl) (U.call (dst := some 15) (fun w hw => c_f64 kk x1 x2 x3 x4 a5 c6 (h8.mono h18) h24 hw) (by kernel_rfl) (enters_of Try.func64 (by kernel_rfl) rfl)) ?_
    rintro _ _
    obtain ⟨x25, h26, H⟩ := bnd_some H
    refine U.step 4 (by kernel_rfl) (U.call (dst := some 16) (fun w hw => c_f66 kk x15 x23.1 x23.2 a19 c20 h22 h26 hw) (by kernel_rfl) (enters_of Try.func66 (by kernel_rfl) rfl)) ?_
    rintro _ _
    refine U.seg 1 [5, 17] [] (fun K => K [(5, Value.slice a19 (List.length x15) c20), (17, Value.bool (decide (x25 > 1000000000000000)))] ((1, Ent.blk b9 81 [Value.int .i64 x1, Value.int .i64 x2, Value.int .i64 x3, Value.slice a5 (List.length x4) c6]) :: fr)) (fun K => by kernel_rfl) 5 (by kernel_rfl) ?_
    refine WO.done (by kernel_rfl) ?_
    refine PO.nx ?_
    rcases cond_some H with ⟨h27, H⟩ | ⟨h27, H⟩
    · refine U.asW (t := 17) (congrArg Value.bool h27) (by kernel_rfl) ?_
      refine WP.condT (by kernel_rfl) ?_
      refine WP.seq (by kernel_rfl) ?_
      refine WP.reg (by kernel_rfl) ?_
      refine U.seg 2 [2, 3] [] (fun K => K [(2, Value.slice none 0 0), (3, Value.int .i64 3)] ((1, Ent.blk b9 81 [Value.int .i64 x1, Value.int .i64 x2, Value.int .i64 x3, Value.slice a5 (List.length x4) c6]) :: fr)) (fun K => by kernel_rfl) 2 (by kernel_rfl) ?_
      refine WO.done (by kernel_rfl) ?_
      refine PO.nx ?_
      refine WP.ret (by kernel_rfl) ?_
      refine PO.nx_ret ?_
      have hr := Option.some.inj H
      subst hr
      refine PO.body [Value.slice none 0 0, Value.int .i64 3] ((1, Ent.blk b9 81 [Value.int .i64 x1, Value.int .i64 x2, Value.int .i64 x3, Value.slice a5 (List.length x4) c6]) :: fr) rfl (Res.tmp (by kernel_rfl) (Res.tmp (by kernel_rfl) Res.nil)) ?_
      exact fun w hw => Ret.mk (g17, none, 0) ⟨h18, Sl.nil'⟩ rfl (okNT 1 [] (by kernel_rfl) rfl hw)
    · refine U.asW (t := 17) (congrArg Value.bool h27) (by kernel_rfl) ?_
      refine WP.condF (by kernel_rfl) ?_
      refine WP.skip (by kernel_rfl) ?_
      refine PO.nx ?_
      refine WP.seq (by kernel_rfl) ?_
      refine WP.reg (by kernel_rfl) ?_
      refine U.seg 3 [2, 3] [] (fun K => K [(2, Value.slice a19 (List.length x15) c20), (3, Value.int .i64 0)] ((1, Ent.blk b9 81 [Value.int .i64 x1, Value.int .i64 x2, Value.int .i64 x3, Value.slice a5 (List.length x4) c6]) :: fr)) (fun K => by kernel_rfl) 3 (by kernel_rfl) ?_
      refine WO.done (by kernel_rfl) ?_
      refine PO.nx ?_
      refine WP.ret (by kernel_rfl) ?_
      have hr := Option.some.inj H
      subst hr
      refine PO.body [Value.slice a19 (List.length x15) c20, Value.int .i64 0] ((1, Ent.blk b9 81 [Value.int .i64 x1, Value.int .i64 x2, Value.int .i64 x3, Value.slice a5 (List.length x4) c6]) :: fr) rfl (Res.tmp (by kernel_rfl) (Res.tmp (by kernel_rfl) Res.nil)) ?_
      exact fun w hw => Ret.mk (g17, a19, c20) ⟨h18, h22⟩ rfl (okNT 1 [] (by kernel_rfl) rfl hw)

set_option maxRecDepth 100000 in
theorem c_f25 (kk : Nat) (x1 : Int) (x2 : Int) (x3 : Int) (x4 : (List (ByteArray × Int × Int × Int × Int))) (a5 : Option Addr) (c6 : Nat) {g : GH} (h8 : Sl (Kd.pair Kd.str (Kd.pair (Kd.int .i64) (Kd.pair (Kd.int .i64) (Kd.pair (Kd.int .i64) (Kd.int .i64))))) g a5 (List.length x4) c6 x4) {r : (Int × Int)} (H : m_f25 kk x1 x2 x3 x4 = some r) {fr : Hs} {w : World} (hw : Ok g (fr) w) :
    Calls Try.prog 25 (List.toArray [Value.agg #[Value.int .i64 x1, Value.int .i64 x2, Value.int .i64 x3, Value.slice a5 (List.length x4) c6]]) w (Ret (fun _ : Unit => True) (fun _ => Value.tuple #[Value.int .i64 r.1, Value.int .i64 r.2]) (fun _ => g) (fun _ => (fr))) := by
  refine fn_wp (args := [Value.agg #[Value.int .i64 x1, Value.int .i64 x2, Value.int .i64 x3, Value.slice a5 (List.length x4) c6]]) (c := C_25) Try.func25 (by kernel_rfl) Try.ntmps25 (by kernel_rfl) ?_ hw
  unfold m_f25 at H
  refine WP.seq (by kernel_rfl) ?_
  refine WP.reg (by kernel_rfl) ?_
  refine U.seg 3 [1] [(0, .al 1)] (fun K => ∀ b9 : Nat, K [(1, Value.pointer (some ⟨b9, 0, none⟩))] ((1, Ent.blk b9 81 [Value.int .i64 x1, Value.int .i64 x2, Value.int .i64 x3, Value.slice a5 (List.length x4) c6]) :: fr)) (fun K => by kernel_rfl) 3 (by kernel_rfl) ?_
  intro b9
  refine WO.done (by kernel_rfl) ?_
  refine PO.nx ?_
  refine WP.seq (by kernel_rfl) ?_
  refine WP.reg (by kernel_rfl) ?_
  refine U.seg 1 [1, 7] [(0, .ld 1)] (fun K => (b9 = b9) ∧ (K [(1, Value.pointer (some ⟨b9, 0, none⟩)), (7, Value.agg #[Value.int .i64 x1, Value.int .i64 x2, Value.int .i64 x3, Value.slice a5 (List.length x4) c6])] ((1, Ent.blk b9 81 [Value.int .i64 x1, Value.int .i64 x2, Value.int .i64 x3, Value.slice a5 (List.length x4) c6]) :: fr))) (fun K => by kernel_rfl) 1 (by kernel_rfl) ?_
  refine ⟨rfl, ?_⟩
  obtain ⟨x10, h11, H⟩ := bnd_some H
  refine U.step 2 (by kernel_rfl) (U.call (dst := some 8) (fun w hw => c_f63 kk x1 x2 x3 x4 a5 c6 h8 h11 hw) (by kernel_rfl) (enters_of Try.func63 (by kernel_rfl) rfl)) ?_
  rintro ⟨g12, a14, c15⟩ ⟨h13, h17⟩
  refine U.seg 5 [1, 4, 5] [] (fun K => K [(1, Value.pointer (some ⟨b9, 0, none⟩)), (4, Value.slice a14 (List.length x10.1) c15), (5, Value.int .i64 x10.2)] ((1, Ent.blk b9 81 [Value.int .i64 x1, Value.int .i64 x2, Value.int .i64 x3, Value.slice a5 (List.length x4) c6]) :: fr)) (fun K => by kernel_rfl) 7 (by kernel_rfl) ?_
  refine WO.done (by kernel_rfl) ?_
  refine PO.nx ?_
  refine WP.seq (by kernel_rfl) ?_
  refine WP.seq (by kernel_rfl) ?_
  refine WP.reg (by kernel_rfl) ?_
  refine U.seg 2 [1, 4, 5, 12] [] (fun K => K [(1, Value.pointer (some ⟨b9, 0, none⟩)), (4, Value.slice a14 (List.length x10.1) c15), (5, Value.int .i64 x10.2), (12, Value.bool (x10.2 != 0))] ((1, Ent.blk b9 81 [Value.int .i64 x1, Value.int .i64 x2, Value.int .i64 x3, Value.slice a5 (List.length x4) c6]) :: fr)) (fun K => by kernel_rfl) 2 (by kernel_rfl) ?_
  refine WO.done (by kernel_rfl) ?_
  refine PO.nx ?_
  rcases cond_some H with ⟨h18, H⟩ | ⟨h18, H⟩
  · refine U.asW (t := 12) (congrArg Value.bool h18) (by kernel_rfl) ?_
    refine WP.condT (by kernel_rfl) ?_
    refine WP.seq (by kernel_rfl) ?_
    refine WP.reg (by kernel_rfl) ?_
    refine U.seg 3 [2, 3] [] (fun K => K [(2, Value.int .i64 0), (3, Value.int .i64 x10.2)] ((1, Ent.blk b9 81 [Value.int .i64 x1, Value.int .i64 x2, Value.int .i64 x3, Value.slice a5 (List.length x4) c6]) :: fr)) (fun K => by kernel_rfl) 3 (by kernel_rfl) ?_
    refine WO.done (by kernel_rfl) ?_
    refine PO.nx ?_
    refine WP.ret (by kernel_rfl) ?_
    refine PO.nx_ret ?_
    have hr := Option.some.inj H
    subst hr
    refine PO.body [Value.int .i64 0, Value.int .i64 x10.2] ((1, Ent.blk b9 81 [Value.int .i64 x1, Value.int .i64 x2, Value.int .i64 x3, Value.slice a5 (List.length x4) c6]) :: fr) rfl (Res.tmp (by kernel_rfl) (Res.tmp (by kernel_rfl) Res.nil)) ?_
    exact fun w hw => Ret.mk () trivial rfl (Ok.gweak h13 (okNT 1 [] (by kernel_rfl) rfl hw))
  · refine U.asW (t := 12) (congrArg Value.bool h18) (by kernel_rfl) ?_
    refine WP.condF (by kernel_rfl) ?_
    refine WP.skip (by kernel_rfl) ?_
    refine PO.nx ?_
    refine WP.seq (by kernel_rfl) ?_
    refine WP.reg (by kernel_rfl) ?_
    refine U.seg 2 [14, 15] [(1, .ld 1)] (fun K => (b9 = b9) ∧ (K [(14, Value.slice a14 (List.length x10.1) c15), (15, Value.agg #[Value.int .i64 x1, Value.int .i64 x2, Value.int .i64 x3, Value.slice a5 (List.length x4) c6])] ((1, Ent.blk b9 81 [Value.int .i64 x1, Value.int .i64 x2, Value.int .i64 x3, Value.slice a5 (List.length x4) c6]) :: fr))) (fun K => by kernel_rfl) 2 (by kernel_rfl) ?_
    refine ⟨rfl, ?_⟩
    obtain ⟨x19, h20, H⟩ := bnd_some H
    refine U.step 3 (by kernel_rfl) (U.call (dst := some 16) (fun w hw => c_f64 kk x1 x2 x3 x4 a5 c6 (h8.mono h13) h20 hw) (by kernel_rfl) (enters_of Try.func64 (by kernel_rfl) rfl)) ?_
    rintro _ _
    obtain ⟨x21, h22, H⟩ := bnd_some H
    refine U.step 4 (by kernel_rfl) (U.call (dst := some 17) (fun w hw => c_f66 kk x10.1 x19.1 x19.2 a14 c15 h17 h22 hw) (by kernel_rfl) (enters_of Try.func66 (by kernel_rfl) rfl)) ?_
    rintro _ _
    refine U.seg 2 [2, 3] [] (fun K => K [(2, Value.int .i64 x21), (3, Value.int .i64 0)] ((1, Ent.blk b9 81 [Value.int .i64 x1, Value.int .i64 x2, Value.int .i64 x3, Value.slice a5 (List.length x4) c6]) :: fr)) (fun K => by kernel_rfl) 6 (by kernel_rfl) ?_
    refine WO.done (by kernel_rfl) ?_
    refine PO.nx ?_
    refine WP.ret (by kernel_rfl) ?_
    have hr := Option.some.inj H
    subst hr
    refine PO.body [Value.int .i64 x21, Value.int .i64 0] ((1, Ent.blk b9 81 [Value.int .i64 x1, Value.int .i64 x2, Value.int .i64 x3, Value.slice a5 (List.length x4) c6]) :: fr) rfl (Res.tmp (by kernel_rfl) (Res.tmp (by kernel_rfl) Res.nil)) ?_
    exact fun w hw => Ret.mk () trivial rfl (Ok.gweak h13 (okNT 1 [] (by kernel_rfl) rfl hw))

set_option maxRecDepth 100000 in
theorem c_f28 (kk : Nat) {g : GH} {r : (Int × Int × (List (Int × Int)))} (H : m_f28 kk = some r) {fr : Hs} {w : World} (hw : Ok g (fr) w) :
    Calls Try.prog 28 (List.toArray []) w (Ret (fun y : (GH) × (Option Addr) × (Nat) => GH.le g y.1 ∧ Sl (Kd.pair (Kd.int .i64) (Kd.int .i64)) y.1 y.2.1 (List.length r.2.2) y.2.2 r.2.2) (fun y => Value.agg #[Value.int .i64 r.1, Value.int .i64 r.2.1, Value.slice y.2.1 (List.length r.2.2) y.2.2]) (fun y => y.1) (fun y => (fr))) := by
  refine fn_wp (args := []) (c := C_28) Try.func28 (by kernel_rfl) Try.ntmps28 (by kernel_rfl) ?_ hw
  unfold m_f28 at H
  refine WP.seq (by kernel_rfl) ?_
  refine WP.reg (by kernel_rfl) ?_
  refine U.seg 1 [0] [(0, .al 1)] (fun K => ∀ b1 : Nat, K [(0, Value.pointer (some ⟨b1, 0, none⟩))] ((1, Ent.blk b1 47 [Value.int .i64 0, Value.int .i64 0, Value.slice none 0 0]) :: fr)) (fun K => by kernel_rfl) 1 (by kernel_rfl) ?_
  intro b1
  refine WO.done (by kernel_rfl) ?_
  refine PO.nx ?_
  refine WP.seq (by kernel_rfl) ?_
  refine WP.reg (by kernel_rfl) ?_
  have h4 : Rw (Kd.pair (Kd.int .i64) (Kd.int .i64)) g [Value.int .i64 5, Value.int .i64 2, Value.int .i64 3, Value.int .i64 2, Value.int .i64 2, Value.int .i64 1] [(5, 2), (3, 2), (2, 1)] := ⟨[Value.int .i64 5, Value.int .i64 2], [Value.int .i64 3, Value.int .i64 2, Value.int .i64 2, Value.int .i64 1], rfl, ⟨[Value.int .i64 5], [Value.int .i64 2], rfl, rfl, rfl⟩, ⟨[Value.int .i64 3, Value.int .i64 2], [Value.int .i64 2, Value.int .i64 1], rfl, ⟨[Value.int .i64 3], [Value.int .i64 2], rfl, rfl, rfl⟩, ⟨[Value.int .i64 2, Value.int .i64 1], [], rfl, ⟨[Value.int .i64 2], [Value.int .i64 1], rfl, rfl, rfl⟩, rfl⟩⟩⟩
  refine U.seg 6 [0] [(3, .al 2), (5, .st 1)] (fun K => ∀ b3 : Nat, (b1 = b1) ∧ (K [(0, Value.pointer (some ⟨b1, 0, none⟩))] ((2, Ent.sl (some ⟨b3, 0, none⟩ : Option Addr) 3 3 44 2 [Value.int .i64 5, Value.int .i64 2, Value.int .i64 3, Value.int .i64 2, Value.int .i64 2, Value.int .i64 1]) :: (1, Ent.blk b1 47 [Value.int .i64 10, Value.int .i64 1, Value.slice (some ⟨b3, 0, none⟩ : Option Addr) 3 3]) :: fr))) (fun K => by kernel_rfl) 6 (by kernel_rfl) ?_
  intro b3
  refine ⟨rfl, ?_⟩
  refine WO.done (by kernel_rfl) ?_
  refine PO.nx ?_
  refine WP.ret (by kernel_rfl) ?_
  refine U.freezeP (dd := (Kd.pair (Kd.int .i64) (Kd.int .i64))) (t := 2) (a := (some ⟨b3, 0, none⟩ : Option Addr)) (n1 := 3) (cc := 3) (T := 44) (cs := [Value.int .i64 5, Value.int .i64 2, Value.int .i64 3, Value.int .i64 2, Value.int .i64 2, Value.int .i64 1]) (by kernel_rfl) h4 rfl (fun g7 h8 h9 => ?_)
  have hr := Option.some.inj H
  subst hr
  refine PO.body [Value.agg #[Value.int .i64 10, Value.int .i64 1, Value.slice (some ⟨b3, 0, none⟩ : Option Addr) 3 3]] ((1, Ent.blk b1 47 [Value.int .i64 10, Value.int .i64 1, Value.slice (some ⟨b3, 0, none⟩ : Option Addr) 3 3]) :: fr) rfl (Res.cell b1 0 1 (Ent.blk b1 47 [Value.int .i64 10, Value.int .i64 1, Value.slice (some ⟨b3, 0, none⟩ : Option Addr) 3 3]) [Value.int .i64 10, Value.int .i64 1, Value.slice (some ⟨b3, 0, none⟩ : Option Addr) 3 3] true 3 (by kernel_rfl) (by kernel_rfl) (by kernel_rfl) (by kernel_rfl) (by kernel_rfl) (OwnRead.agg rfl rfl) Res.nil) ?_
  exact fun w hw => Ret.mk (g7, (some ⟨b3, 0, none⟩ : Option Addr), 3) ⟨h8, h9⟩ rfl (okNT 1 [] (by kernel_rfl) rfl hw)

set_option maxRecDepth 100000 in
theorem c_f73 (kk : Nat) (x2 : Int) (x3 : Int) (x4 : Int) (x5 : Int) (x6 : (List (Int × Int))) (b1 : Nat) (a7 : Option Addr) (c8 : Nat) {g : GH} (h10 : Sl (Kd.pair (Kd.int .i64) (Kd.int .i64)) g a7 (List.length x6) c8 x6) {r : Bool} (H : m_f73 kk x2 x3 x4 x5 x6 = some r) {fr : Hs} {w : World} (hw : Ok g ((1, Ent.blk b1 47 [Value.int .i64 x4, Value.int .i64 x5, Value.slice a7 (List.length x6) c8]) :: fr) w) :
    Calls Try.prog 73 (List.toArray [Value.agg #[Value.int .i64 x2, Value.int .i64 x3], Value.pointer (some ⟨b1, 0, none⟩)]) w (Ret (fun _ : Unit => True) (fun _ => Value.bool r) (fun _ => g) (fun _ => ((1, Ent.blk b1 47 [Value.int .i64 x4, Value.int .i64 x5, Value.slice a7 (List.length x6) c8]) :: fr))) := by
  refine fn_wp (args := [Value.agg #[Value.int .i64 x2, Value.int .i64 x3], Value.pointer (some ⟨b1, 0, none⟩)]) (c := C_73) Try.func73 (by kernel_rfl) Try.ntmps73 (by kernel_rfl) ?_ hw
  unfold m_f73 at H
  refine WP.seq (by kernel_rfl) ?_
  refine WP.reg (by kernel_rfl) ?_
  refine U.seg 2 [1, 2] [(0, .al 2)] (fun K => ∀ b11 : Nat, K [(1, Value.pointer (some ⟨b1, 0, none⟩)), (2, Value.pointer (some ⟨b11, 0, none⟩))] ((2, Ent.blk b11 44 [Value.int .i64 x2, Value.int .i64 x3]) :: (1, Ent.blk b1 47 [Value.int .i64 x4, Value.int .i64 x5, Value.slice a7 (List.length x6) c8]) :: fr)) (fun K => by kernel_rfl) 2 (by kernel_rfl) ?_
  intro b11
  refine WO.done (by kernel_rfl) ?_
  refine PO.nx ?_
  refine WP.seq (by kernel_rfl) ?_
  refine WP.reg (by kernel_rfl) ?_
  refine U.seg 6 [3] [(1, .ld 2), (3, .ld 1)] (fun K => (b11 = b11) ∧ ((b1 = b1) ∧ (K [(3, Value.bool (decide (x2 > x4)))] ((2, Ent.blk b11 44 [Value.int .i64 x2, Value.int .i64 x3]) :: (1, Ent.blk b1 47 [Value.int .i64 x4, Value.int .i64 x5, Value.slice a7 (List.length x6) c8]) :: fr)))) (fun K => by kernel_rfl) 6 (by kernel_rfl) ?_
  refine ⟨rfl, ?_⟩
  refine ⟨rfl, ?_⟩
  refine WO.done (by kernel_rfl) ?_
  refine PO.nx ?_
  refine WP.ret (by kernel_rfl) ?_
  have hr := Option.some.inj H
  subst hr
  refine PO.body [Value.bool (decide (x2 > x4))] ((2, Ent.blk b11 44 [Value.int .i64 x2, Value.int .i64 x3]) :: (1, Ent.blk b1 47 [Value.int .i64 x4, Value.int .i64 x5, Value.slice a7 (List.length x6) c8]) :: fr) rfl (Res.tmp (by kernel_rfl) Res.nil) ?_
  exact fun w hw => Ret.mk () trivial rfl (okNT 2 [(1, 1)] (by kernel_rfl) rfl hw)

set_option maxRecDepth 100000 in
theorem c_f115 (kk : Nat) (x2 : (List (Int × Int))) (x6 : Int) (x7 : Int) (x8 : (List (Int × Int))) (b1 : Nat) (a3 : Option Addr) (c4 : Nat) (a9 : Option Addr) (c10 : Nat) {g : GH} (h12 : Sl (Kd.pair (Kd.int .i64) (Kd.int .i64)) g a3 (List.length x2) c4 x2) (h13 : Sl (Kd.pair (Kd.int .i64) (Kd.int .i64)) g a9 (List.length x8) c10 x8) {r : Int} (H : m_f115 kk x2 x6 x7 x8 = some r) {fr : Hs} {w : World} (hw : Ok g ((1, Ent.blk b1 47 [Value.int .i64 x6, Value.int .i64 x7, Value.slice a9 (List.length x8) c10]) :: fr) w) :
    Calls Try.prog 115 (List.toArray [Value.slice a3 (List.length x2) c4, Value.func (.func 73) #[] #[Value.pointer (some ⟨b1, 0, none⟩)]]) w (Ret (fun _ : Unit => True) (fun _ => Value.int .i64 r) (fun _ => g) (fun _ => ((1, Ent.blk b1 47 [Value.int .i64 x6, Value.int .i64 x7, Value.slice a9 (List.length x8) c10]) :: fr))) := by
  refine fn_wp (args := [Value.slice a3 (List.length x2) c4, Value.func (.func 73) #[] #[Value.pointer (some ⟨b1, 0, none⟩)]]) (c := C_115) Try.func115 (by kernel_rfl) Try.ntmps115 (by kernel_rfl) ?_ hw
  unfold m_f115 at H
  refine WP.seq (by kernel_rfl) ?_
  refine WP.reg (by kernel_rfl) ?_
  refine U.seg 1 [0, 1] [] (fun K => K [(0, Value.slice a3 (List.length x2) c4), (1, Value.func (.func 73) #[] #[Value.pointer (some ⟨b1, 0, none⟩)])] ((1, Ent.blk b1 47 [Value.int .i64 x6, Value.int .i64 x7, Value.slice a9 (List.length x8) c10]) :: fr)) (fun K => by kernel_rfl) 1 (by kernel_rfl) ?_
  refine WO.done (by kernel_rfl) ?_
  refine PO.nx ?_
  refine WP.seq (by kernel_rfl) ?_
  refine WP.seq (by kernel_rfl) ?_
  refine WP.reg (by kernel_rfl) ?_
  refine U.seg 3 [0, 1, 7, 8] [] (fun K => K [(0, Value.slice a3 (List.length x2) c4), (1, Value.func (.func 73) #[] #[Value.pointer (some ⟨b1, 0, none⟩)]), (7, Value.int .i64 ((List.length x2) : Int)), (8, Value.int .i64 0)] ((1, Ent.blk b1 47 [Value.int .i64 x6, Value.int .i64 x7, Value.slice a9 (List.length x8) c10]) :: fr)) (fun K => by kernel_rfl) 3 (by kernel_rfl) ?_
  refine WO.done (by kernel_rfl) ?_
  refine PO.nx ?_
  refine WP.join (fun s => f115_j2 kk = some r ∧ s = { n := 19, e := [], d := [], g := g, h := ((1, Ent.blk b1 47 [Value.int .i64 x6, Value.int .i64 x7, Value.slice a9 (List.length x8) c10]) :: fr) }) ?_ ?_
  · refine WP.block (id := 0) (by kernel_rfl) ?_
    obtain ⟨o48, h70, h51⟩ := bnd_some H
    refine WP.loopW (by kernel_rfl) (fun n s => ∃ (x47 : Int), iter (fun y : Int => f115_l1 kk y x2 x6 x7 x8) n x47 = some o48 ∧ s = { n := 19, e := [(0, Value.slice a3 (List.length x2) c4), (1, Value.func (.func 73) #[] #[Value.pointer (some ⟨b1, 0, none⟩)]), (7, Value.int .i64 ((List.length x2) : Int)), (8, Value.int .i64 x47)], d := [], g := g, h := ((1, Ent.blk b1 47 [Value.int .i64 x6, Value.int .i64 x7, Value.slice a9 (List.length x8) c10]) :: fr) }) (k := kk) ⟨0, h70, rfl⟩ (St.ok.to [0, 1, 7, 8] 1 [(1, 0)] (by kernel_rfl) rfl (by kernel_rfl) rfl rfl (by kernel_rfl)) ?_
    intro n65 s
    rintro ⟨x47, h66, rfl⟩
    obtain ⟨n52, q49, h68, h69, h50⟩ := iter_some h66
    subst h68
    have H : f115_l1 kk x47 x2 x6 x7 x8 = some q49 := h69
    unfold f115_l1 at H
    refine WP.seq (by kernel_rfl) ?_
    refine WP.reg (by kernel_rfl) ?_
    refine U.seg 1 [0, 1, 7, 8, 9] [] (fun K => K [(0, Value.slice a3 (List.length x2) c4), (1, Value.func (.func 73) #[] #[Value.pointer (some ⟨b1, 0, none⟩)]), (7, Value.int .i64 ((List.length x2) : Int)), (8, Value.int .i64 x47), (9, Value.bool (decide (x47 < ((List.length x2) : Int))))] ((1, Ent.blk b1 47 [Value.int .i64 x6, Value.int .i64 x7, Value.slice a9 (List.length x8) c10]) :: fr)) (fun K => by kernel_rfl) 1 (by kernel_rfl) ?_
    refine WO.done (by kernel_rfl) ?_
    refine PO.nx ?_
    refine WP.seq (by kernel_rfl) ?_
    rcases cond_some H with ⟨h53, H⟩ | ⟨h53, H⟩
    · refine U.asW (t := 9) (congrArg Value.bool h53) (by kernel_rfl) ?_
      refine WP.condT (by kernel_rfl) ?_
      refine WP.skip (by kernel_rfl) ?_
      refine PO.nx ?_
      refine WP.seq (by kernel_rfl) ?_
      refine WP.block (id := 1) (by kernel_rfl) ?_
      refine WP.seq (by kernel_rfl) ?_
      refine WP.reg (by kernel_rfl) ?_
      refine U.seg 2 [0, 1, 5, 7, 8] [] (fun K => K [(0, Value.slice a3 (List.length x2) c4), (1, Value.func (.func 73) #[] #[Value.pointer (some ⟨b1, 0, none⟩)]), (5, Value.int .i64 x47), (7, Value.int .i64 ((List.length x2) : Int)), (8, Value.int .i64 x47)] ((1, Ent.blk b1 47 [Value.int .i64 x6, Value.int .i64 x7, Value.slice a9 (List.length x8) c10]) :: fr)) (fun K => by kernel_rfl) 2 (by kernel_rfl) ?_
      refine WO.done (by kernel_rfl) ?_
      refine PO.nx ?_
      refine WP.seq (by kernel_rfl) ?_
      refine WP.reg (by kernel_rfl) ?_
      obtain ⟨x54, h55, H⟩ := bnd_some H
      obtain ⟨h56, s57, h58, h59⟩ := Sl.at' (d := (Kd.pair (Kd.int .i64) (Kd.int .i64))) h12 h55
      obtain ⟨_, _, rfl, rfl, rfl⟩ := h58
      refine U.seg 5 [0, 1, 5, 7, 8, 11, 15] [(3, .s), (4, .lg (Value.agg #[Value.int .i64 x54.1, Value.int .i64 x54.2]))] (fun K => ((0 : Int) ≤ x47 ∧ x47 < ((List.length x2) : Nat) ∧ FlatA a3 (List.length x2)) ∧ ((GLoad g ⟨ab a3, ao a3 + (Int.toNat (x47)) * 2, none⟩ true 2 (Value.agg #[Value.int .i64 x54.1, Value.int .i64 x54.2])) ∧ (K [(0, Value.slice a3 (List.length x2) c4), (1, Value.func (.func 73) #[] #[Value.pointer (some ⟨b1, 0, none⟩)]), (5, Value.int .i64 x47), (7, Value.int .i64 ((List.length x2) : Int)), (8, Value.int .i64 x47), (11, Value.func (.func 73) #[] #[Value.pointer (some ⟨b1, 0, none⟩)]), (15, Value.agg #[Value.int .i64 x54.1, Value.int .i64 x54.2])] ((1, Ent.blk b1 47 [Value.int .i64 x6, Value.int .i64 x7, Value.slice a9 (List.length x8) c10]) :: fr)))) (fun K => by kernel_rfl) 5 (by kernel_rfl) ?_
      refine ⟨h56, ?_⟩
      refine ⟨(h59 _ 0 _ _ _ rfl rfl rfl (OwnRead.agg rfl rfl)), ?_⟩
      obtain ⟨x60, h61, H⟩ := bnd_some H
      refine U.step 6 (by kernel_rfl) (U.call (dst := some 16) (fun w hw => c_f73 kk x54.1 x54.2 x6 x7 x8 b1 a9 c10 h13 h61 (okNT 1 [(1, 0)] (by kernel_rfl) rfl hw)) (by kernel_rfl) (enters_of Try.func73 (by kernel_rfl) rfl)) ?_
      rintro _ _
      refine WO.done (by kernel_rfl) ?_
      refine PO.nx ?_
      rcases cond_some H with ⟨h63, H⟩ | ⟨h63, H⟩
      · refine U.asW (t := 16) (congrArg Value.bool h63) (by kernel_rfl) ?_
        refine WP.condT (by kernel_rfl) ?_
        refine WP.seq (by kernel_rfl) ?_
        refine WP.reg (by kernel_rfl) ?_
        refine U.seg 2 [4] [] (fun K => K [(4, Value.int .i64 x47)] ((1, Ent.blk b1 47 [Value.int .i64 x6, Value.int .i64 x7, Value.slice a9 (List.length x8) c10]) :: fr)) (fun K => by kernel_rfl) 2 (by kernel_rfl) ?_
        refine WO.done (by kernel_rfl) ?_
        refine PO.nx ?_
        refine WP.ret (by kernel_rfl) ?_
        refine PO.blk_ret ?_
        refine PO.nx_ret ?_
        refine PO.lp_ret ?_
        refine PO.blk_ret ?_
        refine PO.jn_ret ?_
        refine PO.nx_ret ?_
        have hq := Option.some.inj H
        subst hq
        have H := h51
        rw [← (show _ = o48 from h50)] at H
        have H : some x47 = some r := H
        have hr := Option.some.inj H
        subst hr
        refine PO.body [Value.int .i64 x47] ((1, Ent.blk b1 47 [Value.int .i64 x6, Value.int .i64 x7, Value.slice a9 (List.length x8) c10]) :: fr) rfl (Res.tmp (by kernel_rfl) Res.nil) ?_
        exact fun w hw => Ret.mk () trivial rfl (okNT 1 [(1, 0)] (by kernel_rfl) rfl hw)
      · refine U.asW (t := 16) (congrArg Value.bool h63) (by kernel_rfl) ?_
        refine WP.condF (by kernel_rfl) ?_
        refine WP.skip (by kernel_rfl) ?_
        refine PO.blk_normal ?_
        refine PO.nx ?_
        refine WP.reg (by kernel_rfl) ?_
        refine U.seg 2 [0, 1, 7, 8] [] (fun K => K [(0, Value.slice a3 (List.length x2) c4), (1, Value.func (.func 73) #[] #[Value.pointer (some ⟨b1, 0, none⟩)]), (7, Value.int .i64 ((List.length x2) : Int)), (8, Value.int .i64 (w64 (x47 + 1)))] ((1, Ent.blk b1 47 [Value.int .i64 x6, Value.int .i64 x7, Value.slice a9 (List.length x8) c10]) :: fr)) (fun K => by kernel_rfl) 2 (by kernel_rfl) ?_
        refine WO.done (by kernel_rfl) ?_
        have hq := Option.some.inj H
        subst hq
        refine PO.againW ⟨(w64 (x47 + 1)), h50, rfl⟩ ?_ (Nat.lt_succ_self _)
        exact (St.ok.to [0, 1, 7, 8] 1 [(1, 0)] (by kernel_rfl) rfl (by kernel_rfl) rfl rfl (by kernel_rfl))
    · refine U.asW (t := 9) (congrArg Value.bool h53) (by kernel_rfl) ?_
      refine WP.condF (by kernel_rfl) ?_
      refine WP.exit (id := 0) (by kernel_rfl) ?_
      refine PO.nx_exit ?_
      refine PO.lp_exit ?_
      refine PO.blk_exit ?_
      have hq := Option.some.inj H
      subst hq
      have H := h51
      rw [← (show _ = o48 from h50)] at H
      have H : f115_j2 kk = some r := H
      refine PO.jn ⟨H, rfl⟩ ?_
      exact (St.ok.to [] 1 [(1, 0)] (by kernel_rfl) rfl (by kernel_rfl) rfl rfl (by kernel_rfl))
  · rintro _ ⟨H, rfl⟩
    unfold f115_j2 at H
    refine PO.nx ?_
    refine WP.seq (by kernel_rfl) ?_
    refine WP.reg (by kernel_rfl) ?_
    refine U.seg 1 [4] [] (fun K => K [(4, Value.int .i64 (-1))] ((1, Ent.blk b1 47 [Value.int .i64 x6, Value.int .i64 x7, Value.slice a9 (List.length x8) c10]) :: fr)) (fun K => by kernel_rfl) 1 (by kernel_rfl) ?_
    refine WO.done (by kernel_rfl) ?_
    refine PO.nx ?_
    refine WP.ret (by kernel_rfl) ?_
    have hr := Option.some.inj H
    subst hr
    refine PO.body [Value.int .i64 (-1)] ((1, Ent.blk b1 47 [Value.int .i64 x6, Value.int .i64 x7, Value.slice a9 (List.length x8) c10]) :: fr) rfl (Res.tmp (by kernel_rfl) Res.nil) ?_
    exact fun w hw => Ret.mk () trivial rfl (okNT 1 [(1, 0)] (by kernel_rfl) rfl hw)

set_option maxRecDepth 100000 in
theorem c_f72 (kk : Nat) (x2 : (List (Int × Int))) (x6 : Int) (x7 : Int) (x8 : (List (Int × Int))) (b1 : Nat) (a3 : Option Addr) (c4 : Nat) (a9 : Option Addr) (c10 : Nat) {g : GH} (h12 : Sl (Kd.pair (Kd.int .i64) (Kd.int .i64)) g a3 (List.length x2) c4 x2) (h13 : Sl (Kd.pair (Kd.int .i64) (Kd.int .i64)) g a9 (List.length x8) c10 x8) {r : Bool} (H : m_f72 kk x2 x6 x7 x8 = some r) {fr : Hs} {w : World} (hw : Ok g ((1, Ent.blk b1 47 [Value.int .i64 x6, Value.int .i64 x7, Value.slice a9 (List.length x8) c10]) :: fr) w) :
    Calls Try.prog 72 (List.toArray [Value.slice a3 (List.length x2) c4, Value.func (.func 73) #[] #[Value.pointer (some ⟨b1, 0, none⟩)]]) w (Ret (fun _ : Unit => True) (fun _ => Value.bool r) (fun _ => g) (fun _ => ((1, Ent.blk b1 47 [Value.int .i64 x6, Value.int .i64 x7, Value.slice a9 (List.length x8) c10]) :: fr))) := by
  refine fn_wp (args := [Value.slice a3 (List.length x2) c4, Value.func (.func 73) #[] #[Value.pointer (some ⟨b1, 0, none⟩)]]) (c := C_72) Try.func72 (by kernel_rfl) Try.ntmps72 (by kernel_rfl) ?_ hw
  unfold m_f72 at H
  refine WP.seq (by kernel_rfl) ?_
  refine WP.reg (by kernel_rfl) ?_
  refine U.seg 1 [0, 1] [] (fun K => K [(0, Value.slice a3 (List.length x2) c4), (1, Value.func (.func 73) #[] #[Value.pointer (some ⟨b1, 0, none⟩)])] ((1, Ent.blk b1 47 [Value.int .i64 x6, Value.int .i64 x7, Value.slice a9 (List.length x8) c10]) :: fr)) (fun K => by kernel_rfl) 1 (by kernel_rfl) ?_
  refine WO.done (by kernel_rfl) ?_
  refine PO.nx ?_
  refine WP.seq (by kernel_rfl) ?_
  refine WP.reg (by kernel_rfl) ?_
  refine U.seg 2 [5, 6] [] (fun K => K [(5, Value.slice a3 (List.length x2) c4), (6, Value.func (.func 73) #[] #[Value.pointer (some ⟨b1, 0, none⟩)])] ((1, Ent.blk b1 47 [Value.int .i64 x6, Value.int .i64 x7, Value.slice a9 (List.length x8) c10]) :: fr)) (fun K => by kernel_rfl) 2 (by kernel_rfl) ?_
  obtain ⟨x14, h15, H⟩ := bnd_some H
  refine U.step 3 (by kernel_rfl) (U.call (dst := some 7) (fun w hw => c_f115 kk x2 x6 x7 x8 b1 a3 c4 a9 c10 h12 h13 h15 (okNT 1 [(1, 0)] (by kernel_rfl) rfl hw)) (by kernel_rfl) (enters_of Try.func115 (by kernel_rfl) rfl)) ?_
  rintro _ _
  refine U.seg 2 [4] [] (fun K => K [(4, Value.bool (decide (x14 ≥ 0)))] ((1, Ent.blk b1 47 [Value.int .i64 x6, Value.int .i64 x7, Value.slice a9 (List.length x8) c10]) :: fr)) (fun K => by kernel_rfl) 5 (by kernel_rfl) ?_
  refine WO.done (by kernel_rfl) ?_
  refine PO.nx ?_
  refine WP.ret (by kernel_rfl) ?_
  have hr := Option.some.inj H
  subst hr
  refine PO.body [Value.bool (decide (x14 ≥ 0))] ((1, Ent.blk b1 47 [Value.int .i64 x6, Value.int .i64 x7, Value.slice a9 (List.length x8) c10]) :: fr) rfl (Res.tmp (by kernel_rfl) Res.nil) ?_
  exact fun w hw => Ret.mk () trivial rfl (okNT 1 [(1, 0)] (by kernel_rfl) rfl hw)

set_option maxRecDepth 100000 in
theorem c_f32 (kk : Nat) (x1 : Int) (x2 : Int) (x3 : (List (Int × Int))) (a4 : Option Addr) (c5 : Nat) {g : GH} (h7 : Sl (Kd.pair (Kd.int .i64) (Kd.int .i64)) g a4 (List.length x3) c5 x3) {r : Int} (H : m_f32 kk x1 x2 x3 = some r) {fr : Hs} {w : World} (hw : Ok g (fr) w) :
    Calls Try.prog 32 (List.toArray [Value.agg #[Value.int .i64 x1, Value.int .i64 x2, Value.slice a4 (List.length x3) c5]]) w (Ret (fun _ : Unit => True) (fun _ => Value.int .i64 r) (fun _ => g) (fun _ => (fr))) := by
  refine fn_wp (args := [Value.agg #[Value.int .i64 x1, Value.int .i64 x2, Value.slice a4 (List.length x3) c5]]) (c := C_32) Try.func32 (by kernel_rfl) Try.ntmps32 (by kernel_rfl) ?_ hw
  unfold m_f32 at H
  refine WP.seq (by kernel_rfl) ?_
  refine WP.reg (by kernel_rfl) ?_
  refine U.seg 2 [1] [(0, .al 1)] (fun K => ∀ b8 : Nat, K [(1, Value.pointer (some ⟨b8, 0, none⟩))] ((1, Ent.blk b8 47 [Value.int .i64 x1, Value.int .i64 x2, Value.slice a4 (List.length x3) c5]) :: fr)) (fun K => by kernel_rfl) 2 (by kernel_rfl) ?_
  intro b8
  refine WO.done (by kernel_rfl) ?_
  refine PO.nx ?_
  refine WP.seq (by kernel_rfl) ?_
  refine WP.block (id := 0) (by kernel_rfl) ?_
  refine WP.seq (by kernel_rfl) ?_
  refine WP.join (fun s => ∃ (x14 : Bool), f32_j1 kk x14 x3 x1 x2 = some r ∧ s = { n := 52, e := [(1, Value.pointer (some ⟨b8, 0, none⟩)), (6, Value.bool x14)], d := [], g := g, h := ((1, Ent.blk b8 47 [Value.int .i64 x1, Value.int .i64 x2, Value.slice a4 (List.length x3) c5]) :: fr) }) ?_ ?_
  · refine WP.reg (by kernel_rfl) ?_
    refine U.seg 2 [1, 8] [(1, .ld 1)] (fun K => (b8 = b8) ∧ (K [(1, Value.pointer (some ⟨b8, 0, none⟩)), (8, Value.int .i64 x1)] ((1, Ent.blk b8 47 [Value.int .i64 x1, Value.int .i64 x2, Value.slice a4 (List.length x3) c5]) :: fr))) (fun K => by kernel_rfl) 2 (by kernel_rfl) ?_
    refine ⟨rfl, ?_⟩
    obtain ⟨x9, h10, H⟩ := bnd_some H
    refine U.step 3 (by kernel_rfl) (U.call (dst := some 9) (fun w hw => c_f42 kk x1 1 100000 h10 hw) (by kernel_rfl) (enters_of Try.func42 (by kernel_rfl) rfl)) ?_
    rintro _ _
    refine U.seg 2 [1, 11] [] (fun K => K [(1, Value.pointer (some ⟨b8, 0, none⟩)), (11, Value.bool (!x9))] ((1, Ent.blk b8 47 [Value.int .i64 x1, Value.int .i64 x2, Value.slice a4 (List.length x3) c5]) :: fr)) (fun K => by kernel_rfl) 5 (by kernel_rfl) ?_
    rcases cond_some H with ⟨h11, H⟩ | ⟨h11, H⟩
    · refine U.as (t := 11) (congrArg Value.bool h11) (by kernel_rfl) ?_
      refine U.seg 6 [1, 6] [] (fun K => K [(1, Value.pointer (some ⟨b8, 0, none⟩)), (6, Value.bool true)] ((1, Ent.blk b8 47 [Value.int .i64 x1, Value.int .i64 x2, Value.slice a4 (List.length x3) c5]) :: fr)) (fun K => by kernel_rfl) 11 (by kernel_rfl) ?_
      refine WO.done (by kernel_rfl) ?_
      refine PO.jn ⟨true, H, rfl⟩ ?_
      exact (St.ok.to [1, 6] 1 [(1, 0)] (by kernel_rfl) rfl (by kernel_rfl) rfl rfl (by kernel_rfl))
    · refine U.as (t := 11) (congrArg Value.bool h11) (by kernel_rfl) ?_
      refine U.seg 2 [1, 11, 13] [(6, .ld 1)] (fun K => (b8 = b8) ∧ (K [(1, Value.pointer (some ⟨b8, 0, none⟩)), (11, Value.bool false), (13, Value.int .i64 x2)] ((1, Ent.blk b8 47 [Value.int .i64 x1, Value.int .i64 x2, Value.slice a4 (List.length x3) c5]) :: fr))) (fun K => by kernel_rfl) 7 (by kernel_rfl) ?_
      refine ⟨rfl, ?_⟩
      obtain ⟨x12, h13, H⟩ := bnd_some H
      refine U.step 8 (by kernel_rfl) (U.call (dst := some 14) (fun w hw => c_f42 kk x2 0 100000 h13 hw) (by kernel_rfl) (enters_of Try.func42 (by kernel_rfl) rfl)) ?_
      rintro _ _
      refine U.seg 3 [1, 6] [] (fun K => K [(1, Value.pointer (some ⟨b8, 0, none⟩)), (6, Value.bool (!x12))] ((1, Ent.blk b8 47 [Value.int .i64 x1, Value.int .i64 x2, Value.slice a4 (List.length x3) c5]) :: fr)) (fun K => by kernel_rfl) 11 (by kernel_rfl) ?_
      refine WO.done (by kernel_rfl) ?_
      refine PO.jn ⟨(!x12), H, rfl⟩ ?_
      exact (St.ok.to [1, 6] 1 [(1, 0)] (by kernel_rfl) rfl (by kernel_rfl) rfl rfl (by kernel_rfl))
  · rintro _ ⟨x14, H, rfl⟩
    unfold f32_j1 at H
    refine PO.nx ?_
    rcases cond_some H with ⟨h15, H⟩ | ⟨h15, H⟩
    · refine U.asW (t := 6) (congrArg Value.bool h15) (by kernel_rfl) ?_
      refine WP.condT (by kernel_rfl) ?_
      refine WP.seq (by kernel_rfl) ?_
      refine WP.reg (by kernel_rfl) ?_
      refine U.seg 1 [2] [] (fun K => K [(2, Value.int .i64 1)] ((1, Ent.blk b8 47 [Value.int .i64 x1, Value.int .i64 x2, Value.slice a4 (List.length x3) c5]) :: fr)) (fun K => by kernel_rfl) 1 (by kernel_rfl) ?_
      refine WO.done (by kernel_rfl) ?_
      refine PO.nx ?_
      refine WP.ret (by kernel_rfl) ?_
      refine PO.blk_ret ?_
      refine PO.nx_ret ?_
      have hr := Option.some.inj H
      subst hr
      refine PO.body [Value.int .i64 1] ((1, Ent.blk b8 47 [Value.int .i64 x1, Value.int .i64 x2, Value.slice a4 (List.length x3) c5]) :: fr) rfl (Res.tmp (by kernel_rfl) Res.nil) ?_
      exact fun w hw => Ret.mk () trivial rfl (okNT 1 [] (by kernel_rfl) rfl hw)
    · refine U.asW (t := 6) (congrArg Value.bool h15) (by kernel_rfl) ?_
      refine WP.condF (by kernel_rfl) ?_
      refine WP.seq (by kernel_rfl) ?_
      refine WP.reg (by kernel_rfl) ?_
      refine U.seg 5 [1, 17] [(1, .ld 1)] (fun K => (b8 = b8) ∧ (K [(1, Value.pointer (some ⟨b8, 0, none⟩)), (17, Value.bool (decide (((List.length x3) : Int) > 8)))] ((1, Ent.blk b8 47 [Value.int .i64 x1, Value.int .i64 x2, Value.slice a4 (List.length x3) c5]) :: fr))) (fun K => by kernel_rfl) 5 (by kernel_rfl) ?_
      refine ⟨rfl, ?_⟩
      refine WO.done (by kernel_rfl) ?_
      refine PO.nx ?_
      rcases cond_some H with ⟨h16, H⟩ | ⟨h16, H⟩
      · refine U.asW (t := 17) (congrArg Value.bool h16) (by kernel_rfl) ?_
        refine WP.condT (by kernel_rfl) ?_
        refine WP.seq (by kernel_rfl) ?_
        refine WP.reg (by kernel_rfl) ?_
        refine U.seg 1 [2] [] (fun K => K [(2, Value.int .i64 3)] ((1, Ent.blk b8 47 [Value.int .i64 x1, Value.int .i64 x2, Value.slice a4 (List.length x3) c5]) :: fr)) (fun K => by kernel_rfl) 1 (by kernel_rfl) ?_
        refine WO.done (by kernel_rfl) ?_
        refine PO.nx ?_
        refine WP.ret (by kernel_rfl) ?_
        refine PO.blk_ret ?_
        refine PO.nx_ret ?_
        have hr := Option.some.inj H
        subst hr
        refine PO.body [Value.int .i64 3] ((1, Ent.blk b8 47 [Value.int .i64 x1, Value.int .i64 x2, Value.slice a4 (List.length x3) c5]) :: fr) rfl (Res.tmp (by kernel_rfl) Res.nil) ?_
        exact fun w hw => Ret.mk () trivial rfl (okNT 1 [] (by kernel_rfl) rfl hw)
      · refine U.asW (t := 17) (congrArg Value.bool h16) (by kernel_rfl) ?_
        refine WP.condF (by kernel_rfl) ?_
        refine WP.skip (by kernel_rfl) ?_
        refine PO.blk_normal ?_
        refine PO.nx ?_
        refine WP.seq (by kernel_rfl) ?_
        refine WP.reg (by kernel_rfl) ?_
        refine U.seg 1 [1, 3] [] (fun K => K [(1, Value.pointer (some ⟨b8, 0, none⟩)), (3, Value.int .i64 0)] ((1, Ent.blk b8 47 [Value.int .i64 x1, Value.int .i64 x2, Value.slice a4 (List.length x3) c5]) :: fr)) (fun K => by kernel_rfl) 1 (by kernel_rfl) ?_
        refine WO.done (by kernel_rfl) ?_
        refine PO.nx ?_
        refine WP.seq (by kernel_rfl) ?_
        refine WP.seq (by kernel_rfl) ?_
        refine WP.reg (by kernel_rfl) ?_
        refine U.seg 4 [1, 3, 23, 24, 25] [(1, .ld 1)] (fun K => (b8 = b8) ∧ (K [(1, Value.pointer (some ⟨b8, 0, none⟩)), (3, Value.int .i64 0), (23, Value.slice a4 (List.length x3) c5), (24, Value.int .i64 ((List.length x3) : Int)), (25, Value.int .i64 0)] ((1, Ent.blk b8 47 [Value.int .i64 x1, Value.int .i64 x2, Value.slice a4 (List.length x3) c5]) :: fr))) (fun K => by kernel_rfl) 4 (by kernel_rfl) ?_
        refine ⟨rfl, ?_⟩
        refine WO.done (by kernel_rfl) ?_
        refine PO.nx ?_
        refine WP.join (fun s => ∃ (x89 : Int), f32_j6 kk x89 x3 x1 x2 = some r ∧ s = { n := 52, e := [(1, Value.pointer (some ⟨b8, 0, none⟩)), (3, Value.int .i64 x89)], d := [], g := g, h := ((1, Ent.blk b8 47 [Value.int .i64 x1, Value.int .i64 x2, Value.slice a4 (List.length x3) c5]) :: fr) }) ?_ ?_
        · refine WP.block (id := 1) (by kernel_rfl) ?_
          obtain ⟨o61, h88, h64⟩ := bnd_some H
          refine WP.loopW (by kernel_rfl) (fun n s => ∃ (x59 : Int) (x60 : Int), iter (fun y : (Int × Int) => f32_l4 kk y.1 y.2 x3 x1 x2) n (x59, x60) = some o61 ∧ s = { n := 52, e := [(1, Value.pointer (some ⟨b8, 0, none⟩)), (3, Value.int .i64 x59), (23, Value.slice a4 (List.length x3) c5), (24, Value.int .i64 ((List.length x3) : Int)), (25, Value.int .i64 x60)], d := [], g := g, h := ((1, Ent.blk b8 47 [Value.int .i64 x1, Value.int .i64 x2, Value.slice a4 (List.length x3) c5]) :: fr) }) (k := kk) ⟨0, 0, h88, rfl⟩ (St.ok.to [1, 3, 23, 24, 25] 1 [(1, 0)] (by kernel_rfl) rfl (by kernel_rfl) rfl rfl (by kernel_rfl)) ?_
          intro n83 s
          rintro ⟨x59, x60, h84, rfl⟩
          obtain ⟨n65, q62, h86, h87, h63⟩ := iter_some h84
          subst h86
          have H : f32_l4 kk x59 x60 x3 x1 x2 = some q62 := h87
          unfold f32_l4 at H
          refine WP.seq (by kernel_rfl) ?_
          refine WP.reg (by kernel_rfl) ?_
          refine U.seg 1 [1, 3, 23, 24, 25, 26] [] (fun K => K [(1, Value.pointer (some ⟨b8, 0, none⟩)), (3, Value.int .i64 x59), (23, Value.slice a4 (List.length x3) c5), (24, Value.int .i64 ((List.length x3) : Int)), (25, Value.int .i64 x60), (26, Value.bool (decide (x60 < ((List.length x3) : Int))))] ((1, Ent.blk b8 47 [Value.int .i64 x1, Value.int .i64 x2, Value.slice a4 (List.length x3) c5]) :: fr)) (fun K => by kernel_rfl) 1 (by kernel_rfl) ?_
          refine WO.done (by kernel_rfl) ?_
          refine PO.nx ?_
          refine WP.seq (by kernel_rfl) ?_
          rcases cond_some H with ⟨h66, H⟩ | ⟨h66, H⟩
          · refine U.asW (t := 26) (congrArg Value.bool h66) (by kernel_rfl) ?_
            refine WP.condT (by kernel_rfl) ?_
            refine WP.skip (by kernel_rfl) ?_
            refine PO.nx ?_
            refine WP.seq (by kernel_rfl) ?_
            refine WP.block (id := 2) (by kernel_rfl) ?_
            refine WP.seq (by kernel_rfl) ?_
            refine WP.reg (by kernel_rfl) ?_
            obtain ⟨x67, h68, H⟩ := bnd_some H
            obtain ⟨h69, s70, h71, h72⟩ := Sl.at' (d := (Kd.pair (Kd.int .i64) (Kd.int .i64))) h7 h68
            obtain ⟨_, _, rfl, rfl, rfl⟩ := h71
            refine U.seg 4 [1, 3, 5, 23, 24, 25] [(0, .s), (1, .lg (Value.agg #[Value.int .i64 x67.1, Value.int .i64 x67.2])), (2, .al 4), (3, .st 4)] (fun K => ((0 : Int) ≤ x60 ∧ x60 < ((List.length x3) : Nat) ∧ FlatA a4 (List.length x3)) ∧ ((GLoad g ⟨ab a4, ao a4 + (Int.toNat (x60)) * 2, none⟩ true 2 (Value.agg #[Value.int .i64 x67.1, Value.int .i64 x67.2])) ∧ (∀ b73 : Nat, (b73 = b73) ∧ (K [(1, Value.pointer (some ⟨b8, 0, none⟩)), (3, Value.int .i64 x59), (5, Value.pointer (some ⟨b73, 0, none⟩)), (23, Value.slice a4 (List.length x3) c5), (24, Value.int .i64 ((List.length x3) : Int)), (25, Value.int .i64 x60)] ((4, Ent.blk b73 44 [Value.int .i64 x67.1, Value.int .i64 x67.2]) :: (1, Ent.blk b8 47 [Value.int .i64 x1, Value.int .i64 x2, Value.slice a4 (List.length x3) c5]) :: fr))))) (fun K => by kernel_rfl) 4 (by kernel_rfl) ?_
            refine ⟨h69, ?_⟩
            refine ⟨(h72 _ 0 _ _ _ rfl rfl rfl (OwnRead.agg rfl rfl)), ?_⟩
            intro b73
            refine ⟨rfl, ?_⟩
            refine WO.done (by kernel_rfl) ?_
            refine PO.nx ?_
            refine WP.seq (by kernel_rfl) ?_
            refine WP.seq (by kernel_rfl) ?_
            refine WP.join (fun s => ∃ (x79 : Bool), f32_j5 kk x79 x59 x67 x60 = some q62 ∧ s = { n := 52, e := [(1, Value.pointer (some ⟨b8, 0, none⟩)), (3, Value.int .i64 x59), (5, Value.pointer (some ⟨b73, 0, none⟩)), (23, Value.slice a4 (List.length x3) c5), (24, Value.int .i64 ((List.length x3) : Int)), (25, Value.int .i64 x60), (38, Value.bool x79)], d := [], g := g, h := ((1, Ent.blk b8 47 [Value.int .i64 x1, Value.int .i64 x2, Value.slice a4 (List.length x3) c5]) :: (4, Ent.blk b73 44 [Value.int .i64 x67.1, Value.int .i64 x67.2]) :: fr) }) ?_ ?_
            · refine WP.reg (by kernel_rfl) ?_
              refine U.seg 2 [1, 3, 5, 23, 24, 25, 30] [(1, .ld 4)] (fun K => (b73 = b73) ∧ (K [(1, Value.pointer (some ⟨b8, 0, none⟩)), (3, Value.int .i64 x59), (5, Value.pointer (some ⟨b73, 0, none⟩)), (23, Value.slice a4 (List.length x3) c5), (24, Value.int .i64 ((List.length x3) : Int)), (25, Value.int .i64 x60), (30, Value.int .i64 x67.1)] ((4, Ent.blk b73 44 [Value.int .i64 x67.1, Value.int .i64 x67.2]) :: (1, Ent.blk b8 47 [Value.int .i64 x1, Value.int .i64 x2, Value.slice a4 (List.length x3) c5]) :: fr))) (fun K => by kernel_rfl) 2 (by kernel_rfl) ?_
              refine ⟨rfl, ?_⟩
              obtain ⟨x74, h75, H⟩ := bnd_some H
              refine U.step 3 (by kernel_rfl) (U.call (dst := some 31) (fun w hw => c_f42 kk x67.1 1 100000 h75 hw) (by kernel_rfl) (enters_of Try.func42 (by kernel_rfl) rfl)) ?_
              rintro _ _
              refine U.seg 2 [1, 3, 5, 23, 24, 25, 33] [] (fun K => K [(1, Value.pointer (some ⟨b8, 0, none⟩)), (3, Value.int .i64 x59), (5, Value.pointer (some ⟨b73, 0, none⟩)), (23, Value.slice a4 (List.length x3) c5), (24, Value.int .i64 ((List.length x3) : Int)), (25, Value.int .i64 x60), (33, Value.bool (!x74))] ((4, Ent.blk b73 44 [Value.int .i64 x67.1, Value.int .i64 x67.2]) :: (1, Ent.blk b8 47 [Value.int .i64 x1, Value.int .i64 x2, Value.slice a4 (List.length x3) c5]) :: fr)) (fun K => by kernel_rfl) 5 (by kernel_rfl) ?_
              rcases cond_some H with ⟨h76, H⟩ | ⟨h76, H⟩
              · refine U.as (t := 33) (congrArg Value.bool h76) (by kernel_rfl) ?_
                refine U.seg 5 [1, 3, 5, 23, 24, 25, 34, 35, 36, 37, 38] [] (fun K => K [(1, Value.pointer (some ⟨b8, 0, none⟩)), (3, Value.int .i64 x59), (5, Value.pointer (some ⟨b73, 0, none⟩)), (23, Value.slice a4 (List.length x3) c5), (24, Value.int .i64 ((List.length x3) : Int)), (25, Value.int .i64 x60), (34, undef), (35, undef), (36, undef), (37, undef), (38, Value.bool true)] ((4, Ent.blk b73 44 [Value.int .i64 x67.1, Value.int .i64 x67.2]) :: (1, Ent.blk b8 47 [Value.int .i64 x1, Value.int .i64 x2, Value.slice a4 (List.length x3) c5]) :: fr)) (fun K => by kernel_rfl) 10 (by kernel_rfl) ?_
                refine WO.done (by kernel_rfl) ?_
                refine PO.jn ⟨true, H, rfl⟩ ?_
                exact (St.ok.to [1, 3, 5, 23, 24, 25, 38] 2 [(1, 1), (4, 0)] (by kernel_rfl) rfl (by kernel_rfl) rfl rfl (by kernel_rfl))
              · refine U.as (t := 33) (congrArg Value.bool h76) (by kernel_rfl) ?_
                refine U.seg 2 [1, 3, 5, 23, 24, 25, 33, 34, 35] [(6, .ld 4)] (fun K => (b73 = b73) ∧ (K [(1, Value.pointer (some ⟨b8, 0, none⟩)), (3, Value.int .i64 x59), (5, Value.pointer (some ⟨b73, 0, none⟩)), (23, Value.slice a4 (List.length x3) c5), (24, Value.int .i64 ((List.length x3) : Int)), (25, Value.int .i64 x60), (33, Value.bool false), (34, Value.pointer (some ⟨b73, 1, none⟩)), (35, Value.int .i64 x67.2)] ((4, Ent.blk b73 44 [Value.int .i64 x67.1, Value.int .i64 x67.2]) :: (1, Ent.blk b8 47 [Value.int .i64 x1, Value.int .i64 x2, Value.slice a4 (List.length x3) c5]) :: fr))) (fun K => by kernel_rfl) 7 (by kernel_rfl) ?_
                refine ⟨rfl, ?_⟩
                obtain ⟨x77, h78, H⟩ := bnd_some H
                refine U.step 8 (by kernel_rfl) (U.call (dst := some 36) (fun w hw => c_f42 kk x67.2 0 12 h78 hw) (by kernel_rfl) (enters_of Try.func42 (by kernel_rfl) rfl)) ?_
                rintro _ _
                refine U.seg 2 [1, 3, 5, 23, 24, 25, 34, 35, 36, 37, 38] [] (fun K => K [(1, Value.pointer (some ⟨b8, 0, none⟩)), (3, Value.int .i64 x59), (5, Value.pointer (some ⟨b73, 0, none⟩)), (23, Value.slice a4 (List.length x3) c5), (24, Value.int .i64 ((List.length x3) : Int)), (25, Value.int .i64 x60), (34, Value.pointer (some ⟨b73, 1, none⟩)), (35, Value.int .i64 x67.2), (36, Value.bool x77), (37, Value.bool (!x77)), (38, Value.bool (!x77))] ((4, Ent.blk b73 44 [Value.int .i64 x67.1, Value.int .i64 x67.2]) :: (1, Ent.blk b8 47 [Value.int .i64 x1, Value.int .i64 x2, Value.slice a4 (List.length x3) c5]) :: fr)) (fun K => by kernel_rfl) 10 (by kernel_rfl) ?_
                refine WO.done (by kernel_rfl) ?_
                refine PO.jn ⟨(!x77), H, rfl⟩ ?_
                exact (St.ok.to [1, 3, 5, 23, 24, 25, 38] 2 [(1, 1), (4, 0)] (by kernel_rfl) rfl (by kernel_rfl) rfl rfl (by kernel_rfl))
            · rintro _ ⟨x79, H, rfl⟩
              unfold f32_j5 at H
              refine PO.nx ?_
              rcases cond_some H with ⟨h80, H⟩ | ⟨h80, H⟩
              · refine U.asW (t := 38) (congrArg Value.bool h80) (by kernel_rfl) ?_
                refine WP.condT (by kernel_rfl) ?_
                refine WP.seq (by kernel_rfl) ?_
                refine WP.reg (by kernel_rfl) ?_
                refine U.seg 1 [2] [] (fun K => K [(2, Value.int .i64 1)] ((1, Ent.blk b8 47 [Value.int .i64 x1, Value.int .i64 x2, Value.slice a4 (List.length x3) c5]) :: (4, Ent.blk b73 44 [Value.int .i64 x67.1, Value.int .i64 x67.2]) :: fr)) (fun K => by kernel_rfl) 1 (by kernel_rfl) ?_
                refine WO.done (by kernel_rfl) ?_
                refine PO.nx ?_
                refine WP.ret (by kernel_rfl) ?_
                refine PO.nx_ret ?_
                refine PO.blk_ret ?_
                refine PO.nx_ret ?_
                refine PO.lp_ret ?_
                refine PO.blk_ret ?_
                refine PO.jn_ret ?_
                refine PO.nx_ret ?_
                have hq := Option.some.inj H
                subst hq
                have H := h64
                rw [← (show _ = o61 from h63)] at H
                have H : some 1 = some r := H
                have hr := Option.some.inj H
                subst hr
                refine PO.body [Value.int .i64 1] ((1, Ent.blk b8 47 [Value.int .i64 x1, Value.int .i64 x2, Value.slice a4 (List.length x3) c5]) :: (4, Ent.blk b73 44 [Value.int .i64 x67.1, Value.int .i64 x67.2]) :: fr) rfl (Res.tmp (by kernel_rfl) Res.nil) ?_
                exact fun w hw => Ret.mk () trivial rfl (okNT 2 [] (by kernel_rfl) rfl hw)
              · refine U.asW (t := 38) (congrArg Value.bool h80) (by kernel_rfl) ?_
                refine WP.condF (by kernel_rfl) ?_
                refine WP.skip (by kernel_rfl) ?_
                refine PO.nx ?_
                refine WP.reg (by kernel_rfl) ?_
                refine U.seg 5 [1, 3, 23, 24, 25] [(2, .ld 4)] (fun K => (b73 = b73) ∧ (K [(1, Value.pointer (some ⟨b8, 0, none⟩)), (3, Value.int .i64 (w64 (x59 + x67.2))), (23, Value.slice a4 (List.length x3) c5), (24, Value.int .i64 ((List.length x3) : Int)), (25, Value.int .i64 x60)] ((1, Ent.blk b8 47 [Value.int .i64 x1, Value.int .i64 x2, Value.slice a4 (List.length x3) c5]) :: (4, Ent.blk b73 44 [Value.int .i64 x67.1, Value.int .i64 x67.2]) :: fr))) (fun K => by kernel_rfl) 5 (by kernel_rfl) ?_
                refine ⟨rfl, ?_⟩
                refine WO.done (by kernel_rfl) ?_
                refine PO.blk_normal ?_
                refine PO.nx ?_
                refine WP.reg (by kernel_rfl) ?_
                refine U.seg 2 [1, 3, 23, 24, 25] [] (fun K => K [(1, Value.pointer (some ⟨b8, 0, none⟩)), (3, Value.int .i64 (w64 (x59 + x67.2))), (23, Value.slice a4 (List.length x3) c5), (24, Value.int .i64 ((List.length x3) : Int)), (25, Value.int .i64 (w64 (x60 + 1)))] ((1, Ent.blk b8 47 [Value.int .i64 x1, Value.int .i64 x2, Value.slice a4 (List.length x3) c5]) :: (4, Ent.blk b73 44 [Value.int .i64 x67.1, Value.int .i64 x67.2]) :: fr)) (fun K => by kernel_rfl) 2 (by kernel_rfl) ?_
                refine WO.done (by kernel_rfl) ?_
                have hq := Option.some.inj H
                subst hq
                refine PO.againW ⟨(w64 (x59 + x67.2)), (w64 (x60 + 1)), h63, rfl⟩ ?_ (Nat.lt_succ_self _)
                exact (St.ok.to [1, 3, 23, 24, 25] 2 [(1, 0)] (by kernel_rfl) rfl (by kernel_rfl) rfl rfl (by kernel_rfl))
          · refine U.asW (t := 26) (congrArg Value.bool h66) (by kernel_rfl) ?_
            refine WP.condF (by kernel_rfl) ?_
            refine WP.exit (id := 1) (by kernel_rfl) ?_
            refine PO.nx_exit ?_
            refine PO.lp_exit ?_
            refine PO.blk_exit ?_
            have hq := Option.some.inj H
            subst hq
            have H := h64
            rw [← (show _ = o61 from h63)] at H
            have H : f32_j6 kk x59 x3 x1 x2 = some r := H
            refine PO.jn ⟨x59, H, rfl⟩ ?_
            exact (St.ok.to [1, 3] 1 [(1, 0)] (by kernel_rfl) rfl (by kernel_rfl) rfl rfl (by kernel_rfl))
        · rintro _ ⟨x89, H, rfl⟩
          unfold f32_j6 at H
          refine PO.nx ?_
          refine WP.seq (by kernel_rfl) ?_
          refine WP.block (id := 3) (by kernel_rfl) ?_
          refine WP.seq (by kernel_rfl) ?_
          refine WP.reg (by kernel_rfl) ?_
          refine U.seg 3 [1, 44] [] (fun K => K [(1, Value.pointer (some ⟨b8, 0, none⟩)), (44, Value.bool (decide (x89 > 12)))] ((1, Ent.blk b8 47 [Value.int .i64 x1, Value.int .i64 x2, Value.slice a4 (List.length x3) c5]) :: fr)) (fun K => by kernel_rfl) 3 (by kernel_rfl) ?_
          refine WO.done (by kernel_rfl) ?_
          refine PO.nx ?_
          rcases cond_some H with ⟨h90, H⟩ | ⟨h90, H⟩
          · refine U.asW (t := 44) (congrArg Value.bool h90) (by kernel_rfl) ?_
            refine WP.condT (by kernel_rfl) ?_
            refine WP.seq (by kernel_rfl) ?_
            refine WP.reg (by kernel_rfl) ?_
            refine U.seg 1 [2] [] (fun K => K [(2, Value.int .i64 3)] ((1, Ent.blk b8 47 [Value.int .i64 x1, Value.int .i64 x2, Value.slice a4 (List.length x3) c5]) :: fr)) (fun K => by kernel_rfl) 1 (by kernel_rfl) ?_
            refine WO.done (by kernel_rfl) ?_
            refine PO.nx ?_
            refine WP.ret (by kernel_rfl) ?_
            refine PO.blk_ret ?_
            refine PO.nx_ret ?_
            have hr := Option.some.inj H
            subst hr
            refine PO.body [Value.int .i64 3] ((1, Ent.blk b8 47 [Value.int .i64 x1, Value.int .i64 x2, Value.slice a4 (List.length x3) c5]) :: fr) rfl (Res.tmp (by kernel_rfl) Res.nil) ?_
            exact fun w hw => Ret.mk () trivial rfl (okNT 1 [] (by kernel_rfl) rfl hw)
          · refine U.asW (t := 44) (congrArg Value.bool h90) (by kernel_rfl) ?_
            refine WP.condF (by kernel_rfl) ?_
            refine WP.seq (by kernel_rfl) ?_
            refine WP.reg (by kernel_rfl) ?_
            refine U.seg 3 [49, 50] [(1, .ld 1)] (fun K => (b8 = b8) ∧ (K [(49, Value.slice a4 (List.length x3) c5), (50, Value.func (.func 73) #[] #[Value.pointer (some ⟨b8, 0, none⟩)])] ((1, Ent.blk b8 47 [Value.int .i64 x1, Value.int .i64 x2, Value.slice a4 (List.length x3) c5]) :: fr))) (fun K => by kernel_rfl) 3 (by kernel_rfl) ?_
            refine ⟨rfl, ?_⟩
            obtain ⟨x91, h92, H⟩ := bnd_some H
            refine U.step 4 (by kernel_rfl) (U.call (dst := some 51) (fun w hw => c_f72 kk x3 x1 x2 x3 b8 a4 c5 a4 c5 h7 h7 h92 (okNT 1 [(1, 0)] (by kernel_rfl) rfl hw)) (by kernel_rfl) (enters_of Try.func72 (by kernel_rfl) rfl)) ?_
            rintro _ _
            refine U.seg 1 [47] [] (fun K => K [(47, Value.bool x91)] ((1, Ent.blk b8 47 [Value.int .i64 x1, Value.int .i64 x2, Value.slice a4 (List.length x3) c5]) :: fr)) (fun K => by kernel_rfl) 5 (by kernel_rfl) ?_
            refine WO.done (by kernel_rfl) ?_
            refine PO.nx ?_
            rcases cond_some H with ⟨h94, H⟩ | ⟨h94, H⟩
            · refine U.asW (t := 47) (congrArg Value.bool h94) (by kernel_rfl) ?_
              refine WP.condT (by kernel_rfl) ?_
              refine WP.seq (by kernel_rfl) ?_
              refine WP.reg (by kernel_rfl) ?_
              refine U.seg 1 [2] [] (fun K => K [(2, Value.int .i64 9)] ((1, Ent.blk b8 47 [Value.int .i64 x1, Value.int .i64 x2, Value.slice a4 (List.length x3) c5]) :: fr)) (fun K => by kernel_rfl) 1 (by kernel_rfl) ?_
              refine WO.done (by kernel_rfl) ?_
              refine PO.nx ?_
              refine WP.ret (by kernel_rfl) ?_
              refine PO.blk_ret ?_
              refine PO.nx_ret ?_
              have hr := Option.some.inj H
              subst hr
              refine PO.body [Value.int .i64 9] ((1, Ent.blk b8 47 [Value.int .i64 x1, Value.int .i64 x2, Value.slice a4 (List.length x3) c5]) :: fr) rfl (Res.tmp (by kernel_rfl) Res.nil) ?_
              exact fun w hw => Ret.mk () trivial rfl (okNT 1 [] (by kernel_rfl) rfl hw)
            · refine U.asW (t := 47) (congrArg Value.bool h94) (by kernel_rfl) ?_
              refine WP.condF (by kernel_rfl) ?_
              refine WP.skip (by kernel_rfl) ?_
              refine PO.blk_normal ?_
              refine PO.nx ?_
              refine WP.seq (by kernel_rfl) ?_
              refine WP.reg (by kernel_rfl) ?_
              refine U.seg 1 [2] [] (fun K => K [(2, Value.int .i64 0)] ((1, Ent.blk b8 47 [Value.int .i64 x1, Value.int .i64 x2, Value.slice a4 (List.length x3) c5]) :: fr)) (fun K => by kernel_rfl) 1 (by kernel_rfl) ?_
              refine WO.done (by kernel_rfl) ?_
              refine PO.nx ?_
              refine WP.ret (by kernel_rfl) ?_
              have hr := Option.some.inj H
              subst hr
              refine PO.body [Value.int .i64 0] ((1, Ent.blk b8 47 [Value.int .i64 x1, Value.int .i64 x2, Value.slice a4 (List.length x3) c5]) :: fr) rfl (Res.tmp (by kernel_rfl) Res.nil) ?_
              exact fun w hw => Ret.mk () trivial rfl (okNT 1 [] (by kernel_rfl) rfl hw)

set_option maxRecDepth 100000 in
theorem c_f38 (kk : Nat) (x1 : Int) (x2 : Int) (x3 : (List (Int × Int))) (a4 : Option Addr) (c5 : Nat) {g : GH} (h7 : Sl (Kd.pair (Kd.int .i64) (Kd.int .i64)) g a4 (List.length x3) c5 x3) {r : (List Int)} (H : m_f38 kk x1 x2 x3 = some r) {fr : Hs} {w : World} (hw : Ok g (fr) w) :
    Calls Try.prog 38 (List.toArray [Value.agg #[Value.int .i64 x1, Value.int .i64 x2, Value.slice a4 (List.length x3) c5]]) w (Ret (fun _ : Unit => List.length r = 8) (fun _ => Value.agg ((arrC 8 .i64 r)).toArray) (fun _ => g) (fun _ => (fr))) := by
  refine fn_wp (args := [Value.agg #[Value.int .i64 x1, Value.int .i64 x2, Value.slice a4 (List.length x3) c5]]) (c := C_38) Try.func38 (by kernel_rfl) Try.ntmps38 (by kernel_rfl) ?_ hw
  unfold m_f38 at H
  refine WP.seq (by kernel_rfl) ?_
  refine WP.reg (by kernel_rfl) ?_
  refine U.seg 2 [1, 2] [(0, .al 1), (1, .al 2)] (fun K => ∀ b8 : Nat, ∀ b9 : Nat, K [(1, Value.pointer (some ⟨b8, 0, none⟩)), (2, Value.pointer (some ⟨b9, 0, none⟩))] ((2, Ent.blk b9 112 (arrC 8 .i64 (List.replicate 8 (0 : Int)))) :: (1, Ent.blk b8 47 [Value.int .i64 x1, Value.int .i64 x2, Value.slice a4 (List.length x3) c5]) :: fr)) (fun K => by kernel_rfl) 2 (by kernel_rfl) ?_
  intro b8
  intro b9
  refine WO.done (by kernel_rfl) ?_
  refine PO.nx ?_
  refine WP.seq (by kernel_rfl) ?_
  refine WP.reg (by kernel_rfl) ?_
  refine U.seg 1 [1, 2, 3] [(0, .al 3)] (fun K => ∀ b10 : Nat, K [(1, Value.pointer (some ⟨b8, 0, none⟩)), (2, Value.pointer (some ⟨b9, 0, none⟩)), (3, Value.pointer (some ⟨b10, 0, none⟩))] ((3, Ent.blk b10 112 (arrC 8 .i64 (List.replicate 8 (0 : Int)))) :: (2, Ent.blk b9 112 (arrC 8 .i64 (List.replicate 8 (0 : Int)))) :: (1, Ent.blk b8 47 [Value.int .i64 x1, Value.int .i64 x2, Value.slice a4 (List.length x3) c5]) :: fr)) (fun K => by kernel_rfl) 1 (by kernel_rfl) ?_
  intro b10
  refine WO.done (by kernel_rfl) ?_
  refine PO.nx ?_
  refine WP.seq (by kernel_rfl) ?_
  refine WP.seq (by kernel_rfl) ?_
  refine WP.reg (by kernel_rfl) ?_
  refine U.seg 4 [2, 3, 7, 8, 9] [(1, .ld 1)] (fun K => (b8 = b8) ∧ (K [(2, Value.pointer (some ⟨b9, 0, none⟩)), (3, Value.pointer (some ⟨b10, 0, none⟩)), (7, Value.slice a4 (List.length x3) c5), (8, Value.int .i64 ((List.length x3) : Int)), (9, Value.int .i64 0)] ((3, Ent.blk b10 112 (arrC 8 .i64 (List.replicate 8 (0 : Int)))) :: (2, Ent.blk b9 112 (arrC 8 .i64 (List.replicate 8 (0 : Int)))) :: (1, Ent.blk b8 47 [Value.int .i64 x1, Value.int .i64 x2, Value.slice a4 (List.length x3) c5]) :: fr))) (fun K => by kernel_rfl) 4 (by kernel_rfl) ?_
  refine ⟨rfl, ?_⟩
  refine WO.done (by kernel_rfl) ?_
  refine PO.nx ?_
  refine WP.join (fun s => ∃ (x68 : (List Int)), x68.length = 8 ∧ f38_j2 kk x68 = some r ∧ s = { n := 20, e := [(2, Value.pointer (some ⟨b9, 0, none⟩)), (3, Value.pointer (some ⟨b10, 0, none⟩))], d := [], g := g, h := ((2, Ent.blk b9 112 (arrC 8 .i64 (List.replicate 8 (0 : Int)))) :: (3, Ent.blk b10 112 (arrC 8 .i64 x68)) :: fr) }) ?_ ?_
  · refine WP.block (id := 0) (by kernel_rfl) ?_
    obtain ⟨o45, h67, h48⟩ := bnd_some H
    refine WP.loopW (by kernel_rfl) (fun n s => ∃ (x42 : Int) (x43 : (List Int)), x43.length = 8 ∧ iter (fun y : (Int × (List Int)) => f38_l1 kk y.1 y.2 x3) n (x42, x43) = some o45 ∧ s = { n := 20, e := [(2, Value.pointer (some ⟨b9, 0, none⟩)), (3, Value.pointer (some ⟨b10, 0, none⟩)), (7, Value.slice a4 (List.length x3) c5), (8, Value.int .i64 ((List.length x3) : Int)), (9, Value.int .i64 x42)], d := [], g := g, h := ((2, Ent.blk b9 112 (arrC 8 .i64 (List.replicate 8 (0 : Int)))) :: (3, Ent.blk b10 112 (arrC 8 .i64 x43)) :: fr) }) (k := kk) ⟨0, (List.replicate 8 (0 : Int)), (List.length_replicate ..), h67, rfl⟩ (St.ok.to [2, 3, 7, 8, 9] 3 [(2, 1), (3, 0)] (by kernel_rfl) rfl (by kernel_rfl) rfl rfl (by kernel_rfl)) ?_
    intro n62 s
    rintro ⟨x42, x43, h44, h63, rfl⟩
    obtain ⟨n49, q46, h65, h66, h47⟩ := iter_some h63
    subst h65
    have H : f38_l1 kk x42 x43 x3 = some q46 := h66
    unfold f38_l1 at H
    refine WP.seq (by kernel_rfl) ?_
    refine WP.reg (by kernel_rfl) ?_
    refine U.seg 1 [2, 3, 7, 8, 9, 10] [] (fun K => K [(2, Value.pointer (some ⟨b9, 0, none⟩)), (3, Value.pointer (some ⟨b10, 0, none⟩)), (7, Value.slice a4 (List.length x3) c5), (8, Value.int .i64 ((List.length x3) : Int)), (9, Value.int .i64 x42), (10, Value.bool (decide (x42 < ((List.length x3) : Int))))] ((2, Ent.blk b9 112 (arrC 8 .i64 (List.replicate 8 (0 : Int)))) :: (3, Ent.blk b10 112 (arrC 8 .i64 x43)) :: fr)) (fun K => by kernel_rfl) 1 (by kernel_rfl) ?_
    refine WO.done (by kernel_rfl) ?_
    refine PO.nx ?_
    refine WP.seq (by kernel_rfl) ?_
    rcases cond_some H with ⟨h50, H⟩ | ⟨h50, H⟩
    · refine U.asW (t := 10) (congrArg Value.bool h50) (by kernel_rfl) ?_
      refine WP.condT (by kernel_rfl) ?_
      refine WP.skip (by kernel_rfl) ?_
      refine PO.nx ?_
      refine WP.seq (by kernel_rfl) ?_
      refine WP.block (id := 1) (by kernel_rfl) ?_
      refine WP.seq (by kernel_rfl) ?_
      refine WP.reg (by kernel_rfl) ?_
      obtain ⟨x51, h52, H⟩ := bnd_some H
      obtain ⟨h53, s54, h55, h56⟩ := Sl.at' (d := (Kd.pair (Kd.int .i64) (Kd.int .i64))) h7 h52
      obtain ⟨_, _, rfl, rfl, rfl⟩ := h55
      refine U.seg 6 [2, 3, 4, 5, 7, 8, 9] [(1, .s), (2, .lg (Value.agg #[Value.int .i64 x51.1, Value.int .i64 x51.2])), (3, .al 6), (5, .st 6)] (fun K => ((0 : Int) ≤ x42 ∧ x42 < ((List.length x3) : Nat) ∧ FlatA a4 (List.length x3)) ∧ ((GLoad g ⟨ab a4, ao a4 + (Int.toNat (x42)) * 2, none⟩ true 2 (Value.agg #[Value.int .i64 x51.1, Value.int .i64 x51.2])) ∧ (∀ b57 : Nat, (b57 = b57) ∧ (K [(2, Value.pointer (some ⟨b9, 0, none⟩)), (3, Value.pointer (some ⟨b10, 0, none⟩)), (4, Value.int .i64 x42), (5, Value.pointer (some ⟨b57, 0, none⟩)), (7, Value.slice a4 (List.length x3) c5), (8, Value.int .i64 ((List.length x3) : Int)), (9, Value.int .i64 x42)] ((6, Ent.blk b57 44 [Value.int .i64 x51.1, Value.int .i64 x51.2]) :: (2, Ent.blk b9 112 (arrC 8 .i64 (List.replicate 8 (0 : Int)))) :: (3, Ent.blk b10 112 (arrC 8 .i64 x43)) :: fr))))) (fun K => by kernel_rfl) 6 (by kernel_rfl) ?_
      refine ⟨h53, ?_⟩
      refine ⟨(h56 _ 0 _ _ _ rfl rfl rfl (OwnRead.agg rfl rfl)), ?_⟩
      intro b57
      refine ⟨rfl, ?_⟩
      refine WO.done (by kernel_rfl) ?_
      refine PO.nx ?_
      refine WP.reg (by kernel_rfl) ?_
      obtain ⟨h58, H⟩ := grd_some H
      refine U.seg 5 [2, 3, 7, 8, 9] [(2, .ld 6), (3, .s), (4, .sv 3 (arrC 8 .i64 (setA 8 x43 x42 x51.2)))] (fun K => (b57 = b57) ∧ (((0 : Int) ≤ x42 ∧ x42 < ((8 : Nat) : Int) ∧ (⟨b10, 0, none⟩ : Addr).spot = none) ∧ ((b10 = b10 ∧ [Value.int .i64 x51.2].length = 1 ∧ 0 + (Int.toNat (x42)) * 1 + [Value.int .i64 x51.2].length ≤ (arrC 8 .i64 x43).length ∧ (∀ u ∈ [Value.int .i64 x51.2], u.oneCell' = true) ∧ splice (arrC 8 .i64 x43) (0 + (Int.toNat (x42)) * 1) [Value.int .i64 x51.2] = (arrC 8 .i64 (setA 8 x43 x42 x51.2))) ∧ (K [(2, Value.pointer (some ⟨b9, 0, none⟩)), (3, Value.pointer (some ⟨b10, 0, none⟩)), (7, Value.slice a4 (List.length x3) c5), (8, Value.int .i64 ((List.length x3) : Int)), (9, Value.int .i64 x42)] ((6, Ent.blk b57 44 [Value.int .i64 x51.1, Value.int .i64 x51.2]) :: (2, Ent.blk b9 112 (arrC 8 .i64 (List.replicate 8 (0 : Int)))) :: (3, Ent.blk b10 112 (arrC 8 .i64 (setA 8 x43 x42 x51.2))) :: fr))))) (fun K => by kernel_rfl) 5 (by kernel_rfl) ?_
      refine ⟨rfl, ?_⟩
      refine ⟨⟨h58.1, h58.2, rfl⟩, ?_⟩
      refine ⟨⟨rfl, rfl, arr_put (xs := x43) [] [] h58.1 h58.2 (by simp) (by simp) rfl⟩, ?_⟩
      refine WO.done (by kernel_rfl) ?_
      refine PO.blk_normal ?_
      refine PO.nx ?_
      refine WP.reg (by kernel_rfl) ?_
      refine U.seg 2 [2, 3, 7, 8, 9] [] (fun K => K [(2, Value.pointer (some ⟨b9, 0, none⟩)), (3, Value.pointer (some ⟨b10, 0, none⟩)), (7, Value.slice a4 (List.length x3) c5), (8, Value.int .i64 ((List.length x3) : Int)), (9, Value.int .i64 (w64 (x42 + 1)))] ((6, Ent.blk b57 44 [Value.int .i64 x51.1, Value.int .i64 x51.2]) :: (2, Ent.blk b9 112 (arrC 8 .i64 (List.replicate 8 (0 : Int)))) :: (3, Ent.blk b10 112 (arrC 8 .i64 (setA 8 x43 x42 x51.2))) :: fr)) (fun K => by kernel_rfl) 2 (by kernel_rfl) ?_
      refine WO.done (by kernel_rfl) ?_
      have hq := Option.some.inj H
      subst hq
      refine PO.againW ⟨(w64 (x42 + 1)), (setA 8 x43 x42 x51.2), (by simp [setA]), h47, rfl⟩ ?_ (Nat.lt_succ_self _)
      exact (St.ok.to [2, 3, 7, 8, 9] 3 [(2, 1), (3, 2)] (by kernel_rfl) rfl (by kernel_rfl) rfl rfl (by kernel_rfl))
    · refine U.asW (t := 10) (congrArg Value.bool h50) (by kernel_rfl) ?_
      refine WP.condF (by kernel_rfl) ?_
      refine WP.exit (id := 0) (by kernel_rfl) ?_
      refine PO.nx_exit ?_
      refine PO.lp_exit ?_
      refine PO.blk_exit ?_
      have hq := Option.some.inj H
      subst hq
      have H := h48
      rw [← (show _ = o45 from h47)] at H
      have H : f38_j2 kk x43 = some r := H
      refine PO.jn ⟨x43, h44, H, rfl⟩ ?_
      exact (St.ok.to [2, 3] 2 [(2, 0), (3, 1)] (by kernel_rfl) rfl (by kernel_rfl) rfl rfl (by kernel_rfl))
  · rintro _ ⟨x68, h69, H, rfl⟩
    unfold f38_j2 at H
    refine PO.nx ?_
    refine WP.seq (by kernel_rfl) ?_
    refine WP.reg (by kernel_rfl) ?_
    refine U.seg 2 [2] [(0, .ld 3), (1, .st 2)] (fun K => (b10 = b10) ∧ ((b9 = b9) ∧ (K [(2, Value.pointer (some ⟨b9, 0, none⟩))] ((2, Ent.blk b9 112 (arrC 8 .i64 x68)) :: (3, Ent.blk b10 112 (arrC 8 .i64 x68)) :: fr)))) (fun K => by kernel_rfl) 2 (by kernel_rfl) ?_
    refine ⟨rfl, ?_⟩
    refine ⟨rfl, ?_⟩
    refine WO.done (by kernel_rfl) ?_
    refine PO.nx ?_
    refine WP.ret (by kernel_rfl) ?_
    have hr := Option.some.inj H
    subst hr
    refine PO.body [Value.agg ((arrC 8 .i64 x68)).toArray] ((2, Ent.blk b9 112 (arrC 8 .i64 x68)) :: (3, Ent.blk b10 112 (arrC 8 .i64 x68)) :: fr) rfl (Res.cell b9 0 2 (Ent.blk b9 112 (arrC 8 .i64 x68)) (arrC 8 .i64 x68) true 8 (by kernel_rfl) (by kernel_rfl) (by kernel_rfl) (by kernel_rfl) (by kernel_rfl) (OwnRead.agg rfl rfl) Res.nil) ?_
    exact fun w hw => Ret.mk () h69 rfl (okNT 2 [] (by kernel_rfl) rfl hw)

set_option maxRecDepth 100000 in
theorem c_f77 (kk : Nat) (x2 : (List Int)) (x3 : (List Int)) (b1 : Nat) (a4 : Option Addr) (c5 : Nat) {g : GH} (h7 : x2.length = 8) (h8 : Sl (Kd.int .i64) g a4 (List.length x3) c5 x3) {r : Int} (H : m_f77 kk x2 x3 = some r) {fr : Hs} {w : World} (hw : Ok g ((1, Ent.blk b1 53 [Value.slice a4 (List.length x3) c5]) :: fr) w) :
    Calls Try.prog 77 (List.toArray [Value.agg ((arrC 8 .i64 x2)).toArray, Value.pointer (some ⟨b1, 0, none⟩)]) w (Ret (fun _ : Unit => True) (fun _ => Value.int .i64 r) (fun _ => g) (fun _ => ((1, Ent.blk b1 53 [Value.slice a4 (List.length x3) c5]) :: fr))) := by
  refine fn_wp (args := [Value.agg ((arrC 8 .i64 x2)).toArray, Value.pointer (some ⟨b1, 0, none⟩)]) (c := C_77) Try.func77 (by kernel_rfl) Try.ntmps77 (by kernel_rfl) ?_ hw
  unfold m_f77 at H
  refine WP.seq (by kernel_rfl) ?_
  refine WP.reg (by kernel_rfl) ?_
  refine U.seg 2 [1, 2] [(0, .al 2)] (fun K => ∀ b9 : Nat, K [(1, Value.pointer (some ⟨b1, 0, none⟩)), (2, Value.pointer (some ⟨b9, 0, none⟩))] ((2, Ent.blk b9 112 (arrC 8 .i64 x2)) :: (1, Ent.blk b1 53 [Value.slice a4 (List.length x3) c5]) :: fr)) (fun K => by kernel_rfl) 2 (by kernel_rfl) ?_
  intro b9
  refine WO.done (by kernel_rfl) ?_
  refine PO.nx ?_
  refine WP.seq (by kernel_rfl) ?_
  refine WP.reg (by kernel_rfl) ?_
  refine U.seg 1 [1, 2, 4] [] (fun K => K [(1, Value.pointer (some ⟨b1, 0, none⟩)), (2, Value.pointer (some ⟨b9, 0, none⟩)), (4, Value.int .i64 0)] ((2, Ent.blk b9 112 (arrC 8 .i64 x2)) :: (1, Ent.blk b1 53 [Value.slice a4 (List.length x3) c5]) :: fr)) (fun K => by kernel_rfl) 1 (by kernel_rfl) ?_
  refine WO.done (by kernel_rfl) ?_
  refine PO.nx ?_
  refine WP.seq (by kernel_rfl) ?_
  refine WP.seq (by kernel_rfl) ?_
  refine WP.reg (by kernel_rfl) ?_
  refine U.seg 3 [2, 4, 7, 8, 9] [(0, .ld 1)] (fun K => (b1 = b1) ∧ (K [(2, Value.pointer (some ⟨b9, 0, none⟩)), (4, Value.int .i64 0), (7, Value.slice a4 (List.length x3) c5), (8, Value.int .i64 ((List.length x3) : Int)), (9, Value.int .i64 0)] ((2, Ent.blk b9 112 (arrC 8 .i64 x2)) :: (1, Ent.blk b1 53 [Value.slice a4 (List.length x3) c5]) :: fr))) (fun K => by kernel_rfl) 3 (by kernel_rfl) ?_
  refine ⟨rfl, ?_⟩
  refine WO.done (by kernel_rfl) ?_
  refine PO.nx ?_
  refine WP.join (fun s => ∃ (x61 : Int), f77_j2 kk x61 = some r ∧ s = { n := 23, e := [(4, Value.int .i64 x61)], d := [], g := g, h := ((1, Ent.blk b1 53 [Value.slice a4 (List.length x3) c5]) :: fr) }) ?_ ?_
  · refine WP.block (id := 0) (by kernel_rfl) ?_
    obtain ⟨o40, h60, h43⟩ := bnd_some H
    refine WP.loopW (by kernel_rfl) (fun n s => ∃ (x38 : Int) (x39 : Int), iter (fun y : (Int × Int) => f77_l1 kk y.1 y.2 x3 x2) n (x38, x39) = some o40 ∧ s = { n := 23, e := [(2, Value.pointer (some ⟨b9, 0, none⟩)), (4, Value.int .i64 x38), (7, Value.slice a4 (List.length x3) c5), (8, Value.int .i64 ((List.length x3) : Int)), (9, Value.int .i64 x39)], d := [], g := g, h := ((1, Ent.blk b1 53 [Value.slice a4 (List.length x3) c5]) :: (2, Ent.blk b9 112 (arrC 8 .i64 x2)) :: fr) }) (k := kk) ⟨0, 0, h60, rfl⟩ (St.ok.to [2, 4, 7, 8, 9] 2 [(1, 1), (2, 0)] (by kernel_rfl) rfl (by kernel_rfl) rfl rfl (by kernel_rfl)) ?_
    intro n55 s
    rintro ⟨x38, x39, h56, rfl⟩
    obtain ⟨n44, q41, h58, h59, h42⟩ := iter_some h56
    subst h58
    have H : f77_l1 kk x38 x39 x3 x2 = some q41 := h59
    unfold f77_l1 at H
    refine WP.seq (by kernel_rfl) ?_
    refine WP.reg (by kernel_rfl) ?_
    refine U.seg 1 [2, 4, 7, 8, 9, 10] [] (fun K => K [(2, Value.pointer (some ⟨b9, 0, none⟩)), (4, Value.int .i64 x38), (7, Value.slice a4 (List.length x3) c5), (8, Value.int .i64 ((List.length x3) : Int)), (9, Value.int .i64 x39), (10, Value.bool (decide (x39 < ((List.length x3) : Int))))] ((1, Ent.blk b1 53 [Value.slice a4 (List.length x3) c5]) :: (2, Ent.blk b9 112 (arrC 8 .i64 x2)) :: fr)) (fun K => by kernel_rfl) 1 (by kernel_rfl) ?_
    refine WO.done (by kernel_rfl) ?_
    refine PO.nx ?_
    refine WP.seq (by kernel_rfl) ?_
    rcases cond_some H with ⟨h45, H⟩ | ⟨h45, H⟩
    · refine U.asW (t := 10) (congrArg Value.bool h45) (by kernel_rfl) ?_
      refine WP.condT (by kernel_rfl) ?_
      refine WP.skip (by kernel_rfl) ?_
      refine PO.nx ?_
      refine WP.seq (by kernel_rfl) ?_
      refine WP.block (id := 1) (by kernel_rfl) ?_
      refine WP.seq (by kernel_rfl) ?_
      refine WP.reg (by kernel_rfl) ?_
      obtain ⟨x46, h47, H⟩ := bnd_some H
      obtain ⟨h48, s49, h50, h51⟩ := Sl.at' (d := (Kd.int .i64)) h8 h47
      obtain rfl := h50
      refine U.seg 5 [2, 4, 5, 6, 7, 8, 9] [(1, .s), (2, .lg (Value.int .i64 x46))] (fun K => ((0 : Int) ≤ x39 ∧ x39 < ((List.length x3) : Nat) ∧ FlatA a4 (List.length x3)) ∧ ((GLoad g ⟨ab a4, ao a4 + (Int.toNat (x39)) * 1, none⟩ false 1 (Value.int .i64 x46)) ∧ (K [(2, Value.pointer (some ⟨b9, 0, none⟩)), (4, Value.int .i64 x38), (5, Value.int .i64 x39), (6, Value.int .i64 x46), (7, Value.slice a4 (List.length x3) c5), (8, Value.int .i64 ((List.length x3) : Int)), (9, Value.int .i64 x39)] ((1, Ent.blk b1 53 [Value.slice a4 (List.length x3) c5]) :: (2, Ent.blk b9 112 (arrC 8 .i64 x2)) :: fr)))) (fun K => by kernel_rfl) 5 (by kernel_rfl) ?_
      refine ⟨h48, ?_⟩
      refine ⟨(h51 _ 0 _ _ _ rfl rfl rfl (OwnRead.one rfl)), ?_⟩
      refine WO.done (by kernel_rfl) ?_
      refine PO.nx ?_
      refine WP.reg (by kernel_rfl) ?_
      obtain ⟨h52, H⟩ := grd_some H
      refine U.seg 8 [2, 4, 7, 8, 9] [(3, .s), (4, .lv 2 (Value.int .i64 (List.getD x2 (Int.toNat (x39)) 0)))] (fun K => ((0 : Int) ≤ x39 ∧ x39 < ((8 : Nat) : Int) ∧ (⟨b9, 0, none⟩ : Addr).spot = none) ∧ ((b9 = b9 ∧ OwnRead (arrC 8 .i64 x2) (0 + (Int.toNat (x39)) * 1) false 1 (Value.int .i64 (List.getD x2 (Int.toNat (x39)) 0))) ∧ (K [(2, Value.pointer (some ⟨b9, 0, none⟩)), (4, Value.int .i64 (w64 (x38 + (w64 (x46 * (List.getD x2 (Int.toNat (x39)) 0)))))), (7, Value.slice a4 (List.length x3) c5), (8, Value.int .i64 ((List.length x3) : Int)), (9, Value.int .i64 x39)] ((1, Ent.blk b1 53 [Value.slice a4 (List.length x3) c5]) :: (2, Ent.blk b9 112 (arrC 8 .i64 x2)) :: fr)))) (fun K => by kernel_rfl) 8 (by kernel_rfl) ?_
      refine ⟨⟨h52.1, h52.2, rfl⟩, ?_⟩
      refine ⟨⟨rfl, (arr_read (k := .i64) (xs := x2) [] [] h52.1 h52.2 (by simp) rfl)⟩, ?_⟩
      refine WO.done (by kernel_rfl) ?_
      refine PO.blk_normal ?_
      refine PO.nx ?_
      refine WP.reg (by kernel_rfl) ?_
      refine U.seg 2 [2, 4, 7, 8, 9] [] (fun K => K [(2, Value.pointer (some ⟨b9, 0, none⟩)), (4, Value.int .i64 (w64 (x38 + (w64 (x46 * (List.getD x2 (Int.toNat (x39)) 0)))))), (7, Value.slice a4 (List.length x3) c5), (8, Value.int .i64 ((List.length x3) : Int)), (9, Value.int .i64 (w64 (x39 + 1)))] ((1, Ent.blk b1 53 [Value.slice a4 (List.length x3) c5]) :: (2, Ent.blk b9 112 (arrC 8 .i64 x2)) :: fr)) (fun K => by kernel_rfl) 2 (by kernel_rfl) ?_
      refine WO.done (by kernel_rfl) ?_
      have hq := Option.some.inj H
      subst hq
      refine PO.againW ⟨(w64 (x38 + (w64 (x46 * (List.getD x2 (Int.toNat (x39)) 0))))), (w64 (x39 + 1)), h42, rfl⟩ ?_ (Nat.lt_succ_self _)
      exact (St.ok.to [2, 4, 7, 8, 9] 2 [(1, 0), (2, 1)] (by kernel_rfl) rfl (by kernel_rfl) rfl rfl (by kernel_rfl))
    · refine U.asW (t := 10) (congrArg Value.bool h45) (by kernel_rfl) ?_
      refine WP.condF (by kernel_rfl) ?_
      refine WP.exit (id := 0) (by kernel_rfl) ?_
      refine PO.nx_exit ?_
      refine PO.lp_exit ?_
      refine PO.blk_exit ?_
      have hq := Option.some.inj H
      subst hq
      have H := h43
      rw [← (show _ = o40 from h42)] at H
      have H : f77_j2 kk x38 = some r := H
      refine PO.jn ⟨x38, H, rfl⟩ ?_
      exact (St.ok.to [4] 2 [(1, 0)] (by kernel_rfl) rfl (by kernel_rfl) rfl rfl (by kernel_rfl))
  · rintro _ ⟨x61, H, rfl⟩
    unfold f77_j2 at H
    refine PO.nx ?_
    refine WP.seq (by kernel_rfl) ?_
    refine WP.reg (by kernel_rfl) ?_
    refine U.seg 2 [3] [] (fun K => K [(3, Value.int .i64 x61)] ((1, Ent.blk b1 53 [Value.slice a4 (List.length x3) c5]) :: fr)) (fun K => by kernel_rfl) 2 (by kernel_rfl) ?_
    refine WO.done (by kernel_rfl) ?_
    refine PO.nx ?_
    refine WP.ret (by kernel_rfl) ?_
    have hr := Option.some.inj H
    subst hr
    refine PO.body [Value.int .i64 x61] ((1, Ent.blk b1 53 [Value.slice a4 (List.length x3) c5]) :: fr) rfl (Res.tmp (by kernel_rfl) Res.nil) ?_
    exact fun w hw => Ret.mk () trivial rfl (okNT 1 [(1, 0)] (by kernel_rfl) rfl hw)

set_option maxRecDepth 100000 in
theorem c_f36 (kk : Nat) (x1 : Int) (x2 : Int) (x3 : (List (Int × Int))) (x7 : (List Int)) (a4 : Option Addr) (c5 : Nat) {g : GH} (h8 : Sl (Kd.pair (Kd.int .i64) (Kd.int .i64)) g a4 (List.length x3) c5 x3) (h9 : x7.length = 8) {r : (Int × Int × (List (Int × Int)) × (List Int))} (H : m_f36 kk x1 x2 x3 x7 = some r) {fr : Hs} {w : World} (hw : Ok g (fr) w) :
    Calls Try.prog 36 (List.toArray [Value.agg #[Value.int .i64 x1, Value.int .i64 x2, Value.slice a4 (List.length x3) c5], Value.agg ((arrC 8 .i64 x7)).toArray]) w (Ret (fun y : (GH) × (Nat) × (Nat) × (Option Addr) × (Nat) => GH.le g y.1 ∧ Sl (Kd.pair (Kd.int .i64) (Kd.int .i64)) y.1 y.2.2.2.1 (List.length r.2.2.1) y.2.2.2.2 r.2.2.1 ∧ List.length r.2.2.2 = 8) (fun y => Value.func (.func 74) #[] #[Value.pointer (some ⟨y.2.1, 0, none⟩), Value.pointer (some ⟨y.2.2.1, 0, none⟩)]) (fun y => y.1) (fun y => ((1, Ent.blk y.2.1 47 [Value.int .i64 r.1, Value.int .i64 r.2.1, Value.slice y.2.2.2.1 (List.length r.2.2.1) y.2.2.2.2]) :: (2, Ent.blk y.2.2.1 112 (arrC 8 .i64 r.2.2.2)) :: fr))) := by
  refine fn_wp (args := [Value.agg #[Value.int .i64 x1, Value.int .i64 x2, Value.slice a4 (List.length x3) c5], Value.agg ((arrC 8 .i64 x7)).toArray]) (c := C_36) Try.func36 (by kernel_rfl) Try.ntmps36 (by kernel_rfl) ?_ hw
  unfold m_f36 at H
  refine WP.seq (by kernel_rfl) ?_
  refine WP.reg (by kernel_rfl) ?_
  refine U.seg 3 [2, 3] [(0, .al 1), (1, .al 2)] (fun K => ∀ b10 : Nat, ∀ b11 : Nat, K [(2, Value.pointer (some ⟨b10, 0, none⟩)), (3, Value.pointer (some ⟨b11, 0, none⟩))] ((2, Ent.blk b11 112 (arrC 8 .i64 x7)) :: (1, Ent.blk b10 47 [Value.int .i64 x1, Value.int .i64 x2, Value.slice a4 (List.length x3) c5]) :: fr)) (fun K => by kernel_rfl) 3 (by kernel_rfl) ?_
  intro b10
  intro b11
  refine WO.done (by kernel_rfl) ?_
  refine PO.nx ?_
  refine WP.seq (by kernel_rfl) ?_
  refine WP.reg (by kernel_rfl) ?_
  refine U.seg 2 [4] [] (fun K => K [(4, Value.func (.func 74) #[] #[Value.pointer (some ⟨b10, 0, none⟩), Value.pointer (some ⟨b11, 0, none⟩)])] ((2, Ent.blk b11 112 (arrC 8 .i64 x7)) :: (1, Ent.blk b10 47 [Value.int .i64 x1, Value.int .i64 x2, Value.slice a4 (List.length x3) c5]) :: fr)) (fun K => by kernel_rfl) 2 (by kernel_rfl) ?_
  refine WO.done (by kernel_rfl) ?_
  refine PO.nx ?_
  refine WP.ret (by kernel_rfl) ?_
  have hr := Option.some.inj H
  subst hr
  refine PO.body [Value.func (.func 74) #[] #[Value.pointer (some ⟨b10, 0, none⟩), Value.pointer (some ⟨b11, 0, none⟩)]] ((2, Ent.blk b11 112 (arrC 8 .i64 x7)) :: (1, Ent.blk b10 47 [Value.int .i64 x1, Value.int .i64 x2, Value.slice a4 (List.length x3) c5]) :: fr) rfl (Res.tmp (by kernel_rfl) Res.nil) ?_
  exact fun w hw => Ret.mk (g, b10, b11, a4, c5) ⟨(GH.le_refl _), h8, h9⟩ rfl (okNT 2 [(1, 1), (2, 0)] (by kernel_rfl) rfl hw)

set_option maxRecDepth 100000 in
theorem c_f43r0 (kk : Nat) (x5 : (List Int)) (x9 : Int) (x10 : (List Int)) (b1 : Nat) (b2 : Nat) (b3 : Nat) (b4 : Nat) (b6 : Nat) (T7 : Array Value) (b8 : Nat) (a11 : Option Addr) (c12 : Nat) {g : GH} (h14 : x5.length = 8) (h15 : EnvA 32 [(5, Value.pointer (some ⟨b2, 0, none⟩)), (7, Value.pointer (some ⟨b3, 0, none⟩))] T7) (h16 : Sl (Kd.int .i64) g a11 (List.length x10) c12 x10) {r : (Bool × Int)} (H : m_f43r0 kk x5 x9 x10 = some r) {fr : Hs} {w : World} (hw : Ok g ((1, Ent.ob b1 (.loop (lrec b6 T7 #[20] (C_43.r.r.r.r.r.l.r.l.l) (C_43.r.r.r.r.r.l.r.l.r) b8 [] 0))) :: (2, Ent.blk b2 179 ([Value.func (.func 77) #[] #[Value.pointer (some ⟨b4, 0, none⟩)]])) :: (3, Ent.blk b3 3 [Value.int .i64 x9]) :: (4, Ent.blk b4 53 [Value.slice a11 (List.length x10) c12]) :: fr) w) :
    RoundC Try.prog b1 b6 (((#[20] : Array Tmp).zip (List.toArray [Value.agg ((arrC 8 .i64 x5)).toArray])).foldl (fun T (t, v) => T.setIfInBounds t v) T7) (C_43.r.r.r.r.r.l.r.l.l) (C_43.r.r.r.r.r.l.r.l.r) w (Ret (fun _ : Unit => True) (fun _ => Value.bool r.1) (fun _ => g) (fun _ => ((1, Ent.ob b1 (.loop (lrec b6 T7 #[20] (C_43.r.r.r.r.r.l.r.l.l) (C_43.r.r.r.r.r.l.r.l.r) b8 [] 0))) :: (2, Ent.blk b2 179 ([Value.func (.func 77) #[] #[Value.pointer (some ⟨b4, 0, none⟩)]])) :: (3, Ent.blk b3 3 [Value.int .i64 r.2]) :: (4, Ent.blk b4 53 [Value.slice a11 (List.length x10) c12]) :: fr))) := by
  unfold m_f43r0 at H
  refine round_wp (args := [Value.agg ((arrC 8 .i64 x5)).toArray]) (e2 := [(20, Value.agg ((arrC 8 .i64 x5)).toArray), (5, Value.pointer (some ⟨b2, 0, none⟩)), (7, Value.pointer (some ⟨b3, 0, none⟩))]) h15 (by kernel_rfl) rfl ?_ hw
  refine WP.reg (by kernel_rfl) ?_
  refine U.seg 2 [5, 7, 8] [(0, .al 5), (1, .st 5)] (fun K => ∀ b17 : Nat, (b17 = b17) ∧ (K [(5, Value.pointer (some ⟨b2, 0, none⟩)), (7, Value.pointer (some ⟨b3, 0, none⟩)), (8, Value.pointer (some ⟨b17, 0, none⟩))] ((5, Ent.blk b17 112 (arrC 8 .i64 x5)) :: (1, Ent.ob b1 (.loop (lrec b6 T7 #[20] (C_43.r.r.r.r.r.l.r.l.l) (C_43.r.r.r.r.r.l.r.l.r) b8 [] 0))) :: (2, Ent.blk b2 179 ([Value.func (.func 77) #[] #[Value.pointer (some ⟨b4, 0, none⟩)]])) :: (3, Ent.blk b3 3 [Value.int .i64 x9]) :: (4, Ent.blk b4 53 [Value.slice a11 (List.length x10) c12]) :: fr))) (fun K => by kernel_rfl) 2 (by kernel_rfl) ?_
  intro b17
  refine ⟨rfl, ?_⟩
  refine WO.done (by kernel_rfl) ?_
  refine PO.rd_begin' (t := 1) (js := []) ((5, Ent.blk b17 112 (arrC 8 .i64 x5)) :: (1, Ent.ob b1 (.loop (lbusy b6 T7 #[20] (C_43.r.r.r.r.r.l.r.l.l) (C_43.r.r.r.r.r.l.r.l.r) b8))) :: (2, Ent.blk b2 179 ([Value.func (.func 77) #[] #[Value.pointer (some ⟨b4, 0, none⟩)]])) :: (3, Ent.blk b3 3 [Value.int .i64 x9]) :: (4, Ent.blk b4 53 [Value.slice a11 (List.length x10) c12]) :: fr) (by kernel_rfl) rfl ?_
  refine WP.block (id := 1) (by kernel_rfl) ?_
  refine U.draw [5] g [(5, Ent.blk b17 112 (arrC 8 .i64 x5)), (1, Ent.ob b1 (.loop (lbusy b6 T7 #[20] (C_43.r.r.r.r.r.l.r.l.l) (C_43.r.r.r.r.r.l.r.l.r) b8))), (2, Ent.blk b2 179 ([Value.func (.func 77) #[] #[Value.pointer (some ⟨b4, 0, none⟩)]])), (3, Ent.blk b3 3 [Value.int .i64 x9]), (4, Ent.blk b4 53 [Value.slice a11 (List.length x10) c12])] (by kernel_rfl) (by kernel_rfl) 6 (by kernel_rfl) (fun w hw => Ok.pickTo [(5, 0), (1, 1), (2, 2), (3, 3), (4, 4)] (by kernel_rfl) (by kernel_rfl) (GH.le_refl _) hw) ?_
  refine U.take 3 [0, 1, 2] [5, 7, 21, 22, 23] [2, 1, 0] [(0, .ld 3), (1, .ld 2), (2, .ld 5)] (fun K => (b3 = b3) ∧ ((b2 = b2) ∧ ((b17 = b17) ∧ (K [(5, Value.pointer (some ⟨b2, 0, none⟩)), (7, Value.pointer (some ⟨b3, 0, none⟩)), (21, Value.int .i64 x9), (22, Value.func (.func 77) #[] #[Value.pointer (some ⟨b4, 0, none⟩)]), (23, Value.agg ((arrC 8 .i64 x5)).toArray)])))) (fun K => by kernel_rfl) (by kernel_rfl) (by kernel_rfl) (by kernel_rfl) ?_
  refine ⟨rfl, ?_⟩
  refine ⟨rfl, ?_⟩
  refine ⟨rfl, ?_⟩
  obtain ⟨x21, h22, H⟩ := bnd_some H
  refine U.force 2 3 (by kernel_rfl) (by kernel_rfl) (U.call (dst := some 24) (fun w hw => c_f77 kk x5 x10 b4 a11 c12 h14 h16 h22 (okNT 5 [(1, 4), (5, 0), (1, 1), (2, 2), (3, 3)] (by kernel_rfl) rfl hw)) (by kernel_rfl) (enters_of Try.func77 (by kernel_rfl) rfl)) ?_
  rintro _ _
  refine ⟨(fun w hw => .inr (Ok.pickTo [(5, 1), (1, 2), (2, 3), (3, 4), (4, 0)] (by kernel_rfl) (by kernel_rfl) (GH.le_refl _) hw)), ?_⟩
  refine U.pickD  5 [(4, 0), (5, 1), (1, 2), (2, 3), (3, 4)] ((4, Ent.blk b4 53 [Value.slice a11 (List.length x10) c12]) :: (5, Ent.blk b17 112 (arrC 8 .i64 x5)) :: (1, Ent.ob b1 (.loop (lbusy b6 T7 #[20] (C_43.r.r.r.r.r.l.r.l.l) (C_43.r.r.r.r.r.l.r.l.r) b8))) :: (2, Ent.blk b2 179 ([Value.func (.func 77) #[] #[Value.pointer (some ⟨b4, 0, none⟩)]])) :: (3, Ent.blk b3 3 [Value.int .i64 x9]) :: fr) (by kernel_rfl) rfl ?_
  refine U.take 1 [4] [5, 7, 25] [4, 3, 2, 1, 0] [] (fun K => K [(5, Value.pointer (some ⟨b2, 0, none⟩)), (7, Value.pointer (some ⟨b3, 0, none⟩)), (25, Value.int .i64 (imax x9 x21))]) (fun K => by kernel_rfl) (by kernel_rfl) (by kernel_rfl) (by kernel_rfl) ?_
  refine U.one 0 5 [5, 7] [(5, .st 3)] (fun K => (b3 = b3) ∧ (K [(5, Value.pointer (some ⟨b2, 0, none⟩)), (7, Value.pointer (some ⟨b3, 0, none⟩))] ((4, Ent.blk b4 53 [Value.slice a11 (List.length x10) c12]) :: (5, Ent.blk b17 112 (arrC 8 .i64 x5)) :: (1, Ent.ob b1 (.loop (lbusy b6 T7 #[20] (C_43.r.r.r.r.r.l.r.l.l) (C_43.r.r.r.r.r.l.r.l.r) b8))) :: (2, Ent.blk b2 179 ([Value.func (.func 77) #[] #[Value.pointer (some ⟨b4, 0, none⟩)]])) :: (3, Ent.blk b3 3 [Value.int .i64 (imax x9 x21)]) :: fr))) (fun K => by kernel_rfl) (by kernel_rfl) (by kernel_rfl) ?_
  refine ⟨rfl, ?_⟩
  refine ⟨(fun w hw => .inl (by kernel_rfl)), ?_⟩
  refine WD.done (by kernel_rfl) ?_
  refine PO.blk_normal ?_
  have hr := Option.some.inj H
  subst hr
  refine U.rd_end (t := 1) [] ((4, Ent.blk b4 53 [Value.slice a11 (List.length x10) c12]) :: (5, Ent.blk b17 112 (arrC 8 .i64 x5)) :: (1, Ent.ob b1 (.loop (lrec b6 T7 #[20] (C_43.r.r.r.r.r.l.r.l.l) (C_43.r.r.r.r.r.l.r.l.r) b8 [] 0))) :: (2, Ent.blk b2 179 ([Value.func (.func 77) #[] #[Value.pointer (some ⟨b4, 0, none⟩)]])) :: (3, Ent.blk b3 3 [Value.int .i64 (imax x9 x21)]) :: fr) (by kernel_rfl) rfl ?_
  exact fun w hw => Ret.mk () trivial rfl (okNT 5 [(1, 2), (2, 3), (3, 4), (4, 0)] (by kernel_rfl) rfl hw)

end Go.Proofs.Ytmkjcahdjphimaa
