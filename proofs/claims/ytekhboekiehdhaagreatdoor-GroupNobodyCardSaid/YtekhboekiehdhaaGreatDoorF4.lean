/- A world that holds the listed variables; GroupNobody's run. -/
import Derived.Test.YtekhboekiehdhaaGreatDoorF3
import Derived.Test.YtekhboekiehdhaaGreatDoorRows
import Derived.Lib.LaidIn
set_option linter.unusedVariables false
namespace Go.Proofs.YtekhboekiehdhaaGreatDoor
open Ev Go.RowKit Go.Lib
theorem own : ownKnob Tryz.prog.godebug = none := by kernel_rfl
theorem laid_out : laidOutB Tryz.prog = true := by kernel_rfl
/-- All ways of a call come to true. -/
def allTrue (r : Option Outs) : Bool := match r with
  | some (l, _) => l.all fun o => match o.1 with
    | .lit (.bool true) => true
    | _ => false
  | none => false
/-- A call whose arguments name nothing of the call's own. -/
theorem run_openN {P : Program} (hP : NoCount P) (hm : P.follows .mixedOrders = true) {ext : Caller} (hext : ∀ base k args H nx out, ext k args H nx = some out → CallOK P base k args H nx out) {M : List Ent} (hM : ∀ base, ∀ e ∈ M, EntOK P base e) {cf d : Nat} {k : FuncId} (hk : enters P k = true) {args : List SV} {vals : List Value} (hd : denL (fun _ => none) args = some vals) (h : allTrue (evN P ext (memo M) cf d k args .nil 0) = true) (w : World) :
    Calls P k vals.toArray w fun e w' => e = .returned (.bool true) ∧ Below w.heap.size w w' := by
  cases hc : evN P ext (memo M) cf d k args .nil 0 with
  | none => rw [hc] at h; cases h
  | some r =>
    rw [hc] at h
    obtain ⟨l, hi⟩ := r
    simp only [allTrue] at h
    obtain ⟨_, _, h3⟩ := evN_ok (base := w.heap.size) hP hm ext (hext _) (memo M) (memo_ok M (hM _)) cf d k args .nil 0 _ hc
    rcases h3 (fun _ => none) vals w hd ⟨Nat.le_refl _, fun n s e => (by cases e), fun n m s t p q e => (by cases e)⟩ (fun _ _ _ => rfl) with ⟨_, g⟩ | ⟨out, _, ρ', v, w', g, _⟩
    · refine g.mono ?_
      rintro e w' ⟨out, ho, ρ', u, rfl, g1, g2, g3, g4⟩
      have := List.all_eq_true.1 h out ho
      split at this
      · rename_i e
        rw [e] at g2
        simp [den] at g2
        subst g2
        exact ⟨rfl, g4.os, g4.tape, g4.output, g4.size, fun b hb => g4.block b hb fun n s p e => (by cases e)⟩
      · cases this
    · rw [run_callFunc hP hk] at g
      injection g with g
      cases g
theorem nobody_run (a : Option Addr) (n c : Nat) (b : Option Addr) (m k : Nat) : allTrue (evN Tryz.prog (evExt Tryz.prog xs) (memo m22) 3000 60 5 [.agg [.lit (.slice a n c), .lit (.slice b m k)]] .nil 0) = true := by kernel_rfl
theorem nobody_any (a : Option Addr) (n c : Nat) (b : Option Addr) (m k : Nat) (w : World) : Calls Tryz.prog 5 #[.agg #[.slice a n c, .slice b m k]] w fun e w' => e = .returned (.bool true) ∧ Below w.heap.size w w' :=
  run_openN no_count follows ext_all E22 (by kernel_rfl) (vals := [.agg #[.slice a n c, .slice b m k]]) (by simp [denL, den]) (nobody_run a n c b m k) w

/-- The listed variables. -/
def laidSmall : List (String × DataW Unit) := [("math/bits.deBruijn32tab", Rows.laid_math_bits_deBruijn32tab), ("math/bits.deBruijn64tab", Rows.laid_math_bits_deBruijn64tab), ("internal/strconv.uint64pow10", Rows.laid_internal_strconv_uint64pow10), ("unicode/utf8.acceptRanges", Rows.laid_unicode_utf8_acceptRanges)]
def laidAll : List (String × DataW Unit) := laidSmall ++ [("unicode/utf8.first", Rows.laid_unicode_utf8_first)]
/-- The cells of a datum. -/
def flat : Nat → DataW Unit → List Value
  | 0, _ => []
  | f + 1, d => match d with
    | .lit (.int k n) => [.int k n]
    | .agg l => l.flatMap (flat f)
    | _ => []
/-- A world for the witness: the settled one, the listed variables holding what their initialisers lay. -/
noncomputable def laidWorld (os : Os) : World :=
  let w0 := World.holding Tryz.prog os ⟨#[], #[], []⟩
  let put (h : Array Obj) (g : Nat) (cs : Array Value) : Array Obj := h.modify g fun
    | .cells _ t frozen => .cells cs t frozen
    | o => o
  let h2 := put w0.heap 0 (flat 4 Rows.laid_unicode_utf8_first).toArray
  let h3 := put h2 1 (flat 4 Rows.laid_unicode_utf8_acceptRanges).toArray
  let h7 := put h3 5 (flat 4 Rows.laid_internal_strconv_uint64pow10).toArray
  let h8 := put h7 6 (flat 4 Rows.laid_math_bits_deBruijn32tab).toArray
  let h9 := put h8 7 (flat 4 Rows.laid_math_bits_deBruijn64tab).toArray
  { w0 with heap := h9 }
noncomputable abbrev mem (os : Os) (args : Array Value) : World := ((laidWorld os).forCall (fun _ _ => 0) ⟨#[], args, []⟩).memory
theorem piece_small (os : Os) (args : Array Value) : LaidIn Tryz.prog (mem os args) laidSmall [6, 7, 5, 1] :=
  LaidIn.of_run [6, 7, 5, 1] 10 (by kernel_rfl) (by kernel_rfl) (by kernel_rfl) (by kernel_rfl)
theorem piece_first (os : Os) (args : Array Value) : LaidIn Tryz.prog (mem os args) [("unicode/utf8.first", Rows.laid_unicode_utf8_first)] [0] :=
  LaidIn.of_run [0] 10 (by kernel_rfl) (by kernel_rfl) (by kernel_rfl) (by kernel_rfl)
/-- **The witness' world holds what the rows list.** -/
theorem laid_met (os : Os) (args : Array Value) : laidMet Tryz.prog laidAll (mem os args) :=
  ((piece_small os args).append (piece_first os args) (by kernel_rfl)).met
end Go.Proofs.YtekhboekiehdhaaGreatDoor
