/- What a call is lent, what it gives back: the heap put in another order; a yield; states told in other words. -/
import Derived.Test.YtmkjcahdjphimaaE10
namespace Go.Eng
open Go

theorem okNT {g : GH} {h h' : Hs} {w : World} (m : Nat) (is : List (Nat × Nat)) (hn : (is.map (·.2)).all (fun i => (is.map (·.2)).count i == 1) = true) (hh : pickNT m h is = h') (hw : Ok g h w) : Ok g h' w := by
  subst hh; exact hw.pickNT m is hn

section
variable {P : Program} {ρ : Option Nat} {c : Code} {Q : Post} {n : Nat} {e : Env} {d : List Deferred} {g : GH} {h : Hs}
theorem U.pickW (m : Nat) (is : List (Nat × Nat)) (h' : Hs) (hn : (is.map (·.2)).all (fun i => (is.map (·.2)).count i == 1) = true) (hh : pickNT m h is = h') (k : WP P ρ c Q ⟨n, e, d, g, h'⟩) : WP P ρ c Q ⟨n, e, d, g, h⟩ :=
  WP.weak (fun a w hs => by have := hs.pickT m is hn; subst hh; exact this) k
theorem U.pickP {x : Exit} (m : Nat) (is : List (Nat × Nat)) (h' : Hs) (hn : (is.map (·.2)).all (fun i => (is.map (·.2)).count i == 1) = true) (hh : pickNT m h is = h') (k : PO Q x ⟨n, e, d, g, h'⟩) : PO Q x ⟨n, e, d, g, h⟩ :=
  PO.weak (fun a w hs => by have := hs.pickT m is hn; subst hh; exact this) k
theorem U.eqS {i : Nat} (e' : Env) (h' : Hs) (he : e = e') (hh : h = h') (k : WO P ρ c Q i ⟨n, e', d, g, h'⟩) : WO P ρ c Q i ⟨n, e, d, g, h⟩ := by subst he; subst hh; exact k
theorem U.eqSD {C : Cls} {N : Nat} {ls : List Nat} (e' : Env) (h' : Hs) (he : e = e') (hh : h = h') (k : WD P ρ c Q C N ls ⟨n, e', d, g, h'⟩) : WD P ρ c Q C N ls ⟨n, e, d, g, h⟩ := by subst he; subst hh; exact k
theorem U.eqW (e' : Env) (h' : Hs) (he : e = e') (hh : h = h') (k : WP P ρ c Q ⟨n, e', d, g, h'⟩) : WP P ρ c Q ⟨n, e, d, g, h⟩ := by subst he; subst hh; exact k
theorem U.eqP {x : Exit} (e' : Env) (h' : Hs) (he : e = e') (hh : h = h') (k : PO Q x ⟨n, e', d, g, h'⟩) : PO Q x ⟨n, e, d, g, h⟩ := by subst he; subst hh; exact k
/-- The temporaries that are told from here on. -/
theorem U.selW (ts : List Nat) (e' : Env) (he : selE e ts = e') (k : WP P ρ c Q ⟨n, e', d, g, h⟩) : WP P ρ c Q ⟨n, e, d, g, h⟩ := fun a w hs => by subst he; exact k a w (hs.sel ts)
theorem U.yield {i l t fn D : Nat} {T : Array Value} {ps : Array Tmp} {assign body : Code} {js : List Code} {args : List Value} {dst : Option Tmp} {α : Type} {p : α → Prop} {v : α → Value} {g' : α → GH} {h' : α → Hs}
    (hcon : ∀ w, Ok g h w → RoundC P l fn ((ps.zip args.toArray).foldl (fun T (t, v) => T.setIfInBounds t v) T) assign body w (Ret p v g' h'))
    (hc : yieldAt (opsOf c) i n e = some (l, args, dst)) (hf : findE h t = some (.ob l (.loop (lrec fn T ps assign body D js 0)))) (hsz : args.length = ps.size) :
    Stp P ρ (opsOf c) i ⟨n, e, d, g, h⟩ p (fun x => ⟨n, putE e dst (v x), d, g' x, h' x⟩) := Stp.yield (s := ⟨n, e, d, g, h⟩) hc hf hsz hcon
theorem U.makeN {i T el sz : Nat} {dst : Option Tmp} {t : Nat} {k k' : IntKind} {z : Int} (n' : Nat) (hn : z.toNat = n') (ha : makeAt (opsOf c) i n e = some (T, .int k z, .int k' z, dst)) (hel : elOk P T el sz = true) (h0 : 0 ≤ z) (hb : z ≤ 16777216) :
    Stp P ρ (opsOf c) i ⟨n, e, d, g, h⟩ (fun _ : Nat => True) (fun b => ⟨n, putE e dst (.slice (some ⟨b, 0, none⟩) n' n'), d, g, (t, .sl (some ⟨b, 0, none⟩) n' n' el sz (List.replicate z.toNat (zeroOf P el)).flatten) :: h⟩) := by
  subst hn; exact Stp.make (s := ⟨n, e, d, g, h⟩) ha hel h0 hb
theorem PO.rd_begin' {l t fn D : Nat} {T : Array Value} {ps : Array Tmp} {assign body : Code} {js : List Code} {R : Ending → World → Prop} (h' : Hs) (hf : findE h t = some (.ob l (.loop (lrec fn T ps assign body D js 0)))) (hh : updE h t (.ob l (.loop (lbusy fn T ps assign body D))) = h')
    (k : WP P (some l) body (roundPost P l R) ⟨n, e, d, g, h'⟩) : PO (RdA P l body R) .normal ⟨n, e, d, g, h⟩ := by
  subst hh; exact PO.rd_begin (s := ⟨n, e, d, g, h⟩) hf k
theorem U.rd_end {l t fn D : Nat} {T : Array Value} {ps : Array Tmp} {assign body : Code} {R : Ending → World → Prop} (js : List Code) (h' : Hs) (hf : findE h t = some (.ob l (.loop (lbusy fn T ps assign body D)))) (hh : updE h t (.ob l (.loop (lrec fn T ps assign body D js 0))) = h')
    (hR : ∀ w, Ok g h' w → R (.returned (.bool true)) w) : PO (roundPost P l R) .normal ⟨n, e, d, g, h⟩ := by
  subst hh; exact PO.rd_end (s := ⟨n, e, d, g, h⟩) hf js hR
theorem U.rd_ret {l t fn D : Nat} {T : Array Value} {ps : Array Tmp} {assign body : Code} {R : Ending → World → Prop} (js : List Code) (j : Int) (h' : Hs) (hf : findE h t = some (.ob l (.loop (lbusy fn T ps assign body D)))) (hh : updE h t (.ob l (.loop (lrec fn T ps assign body D js j))) = h') (hj : jumpOf js j = some .ret) (h0 : j ≠ 0)
    (hR : ∀ w, Ok g h' w → R (.returned (.bool false)) w) : PO (roundPost P l R) .ret ⟨n, e, d, g, h⟩ := by
  subst hh; exact PO.rd_ret (s := ⟨n, e, d, g, h⟩) hf js j hj h0 hR
theorem U.rd_exit {l t fn D id : Nat} {T : Array Value} {ps : Array Tmp} {assign body : Code} {R : Ending → World → Prop} (js : List Code) (j : Int) (h' : Hs) (hf : findE h t = some (.ob l (.loop (lbusy fn T ps assign body D)))) (hh : updE h t (.ob l (.loop (lrec fn T ps assign body D js j))) = h') (hj : jumpOf js j = some (.exit id)) (h0 : j ≠ 0)
    (hR : ∀ w, Ok g h' w → R (.returned (.bool false)) w) : PO (roundPost P l R) (.exit id) ⟨n, e, d, g, h⟩ := by
  subst hh; exact PO.rd_exit (s := ⟨n, e, d, g, h⟩) hf js j hj h0 hR
/-- A range over a function, its contract given. -/
theorem U.range {K : Nat} {first cap : List Value} {ps : Array Tmp} (js : List Code) (tl td tl2 : Nat) (hc : rangeAt c e = some (K, first, cap, ps)) (he : ∀ args w, (callFunc K args).run P w = .ok (.enter K args) w)
    (k : ∀ fn T D l, EnvA n e T → ∃ (α : Type) (p : α → Prop) (v : α → Value) (g' : α → GH) (h' : α → Hs),
      (∀ w, Ok g ((tl, .ob l (.loop (lrec fn T ps c.l c.r D js 0))) :: (td, .ob D (.deferred (some []))) :: h) w → Calls P K (first ++ yv l :: cap).toArray w (Ret p v g' h')) ∧
      ∀ x, p x → ∃ j, findE (h' x) tl2 = some (.ob l (.loop (lrec fn T ps c.l c.r D js j))) ∧
        PJ P none js Q j { n := n, e := e, d := { target := .collected D, args := #[] } :: d, g := g' x, h := rmE (h' x) tl2 }) : WP P none c Q ⟨n, e, d, g, h⟩ := WP.range js tl td tl2 hc he k
theorem U.pickJ {js : List Code} {j : Int} (m : Nat) (is : List (Nat × Nat)) (h' : Hs) (hn : (is.map (·.2)).all (fun i => (is.map (·.2)).count i == 1) = true) (hh : pickNT m h is = h') (k : PJ P ρ js Q j ⟨n, e, d, g, h'⟩) : PJ P ρ js Q j ⟨n, e, d, g, h⟩ := by
  unfold PJ at *
  split at k
  · exact U.pickP m is h' hn hh k
  · exact U.pickW m is h' hn hh k
end
end Go.Eng
