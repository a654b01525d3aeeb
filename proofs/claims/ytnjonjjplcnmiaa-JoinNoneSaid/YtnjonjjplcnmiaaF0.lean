/- ViewsNobody and JoinNone run to true, whatever the arguments, in every world. -/
import Derived.Test.YtnjonjjplcnmiaaEA
import Derived.Test.YtnjonjjplcnmiaaChecked
set_option linter.unusedVariables false
namespace Go.Proofs.Ytnjonjjplcnmiaa
open Ev Go.RowKit
theorem follows : Try.prog.follows .mixedOrders = true := by kernel_rfl
theorem no_count_all : Try.prog.funcs.toList.all (fun fn => fn.body.isNone || !(fn.name == "runtime.NumGoroutine")) = true := by kernel_rfl
theorem no_count : NoCount Try.prog := fun fn h => List.all_eq_true.1 no_count_all fn h
/-- A call whose arguments name nothing of the call's own. -/
theorem run_open {P : Program} (hP : NoCount P) (hm : P.follows .mixedOrders = true) {cf d : Nat} {k : FuncId} {args : List SV} {vals : List Value} {v : Value} (hd : denL (fun _ => none) args = some vals) (h : (evCall P cf d k args .nil 0).map (fun o => plain o.1) = some (some v)) (w : World) :
    Calls P k vals.toArray w fun e w' => e = .returned v ∧ Below w.heap.size w w' := by
  cases hc : evCall P cf d k args .nil 0 with
  | none => rw [hc] at h; cases h
  | some out =>
    rw [hc] at h
    simp only [Option.map_some, Option.some.injEq] at h
    obtain ⟨_, _, h3⟩ := call_ok (base := w.heap.size) hP hm cf d k args .nil 0 out hc
    refine (h3 (fun _ => none) vals w hd ⟨Nat.le_refl _, fun n s e => (by cases e), fun n m s t p q e => (by cases e)⟩ (fun _ _ _ => rfl)).mono ?_
    rintro e w' ⟨ρ', u, rfl, g1, g2, g3, g4⟩
    have := plain_den h ρ'
    rw [g2] at this
    injection this with this
    subst this
    exact ⟨rfl, g4.os, g4.tape, g4.output, g4.size, fun b hb => g4.block b hb fun n s p e => (by cases e)⟩
theorem nobody_run (s t : Int) (a : Option Addr) (n c : Nat) : (evCall Try.prog 3000 60 3 [.agg [.lit (.int .i64 s), .lit (.int .i64 t), .lit (.slice a n c)]] .nil 0).map (fun o => plain o.1) = some (some (.bool true)) := by kernel_rfl
theorem nobody_any (s t : Int) (a : Option Addr) (n c : Nat) (w : World) : Calls Try.prog 3 #[.agg #[.int .i64 s, .int .i64 t, .slice a n c]] w fun e w' => e = .returned (.bool true) ∧ Below w.heap.size w w' :=
  run_open no_count follows (vals := [.agg #[.int .i64 s, .int .i64 t, .slice a n c]]) (by simp [denL, den]) (nobody_run s t a n c) w
theorem none_run (s t : Int) (a : Option Addr) (n c : Nat) (side now : Int) : (evCall Try.prog 3000 60 7 [.agg [.lit (.int .i64 s), .lit (.int .i64 t), .lit (.slice a n c)], .lit (.int .i64 side), .lit (.int .i64 now)] .nil 0).map (fun o => plain o.1) = some (some (.bool true)) := by kernel_rfl
theorem none_any (s t : Int) (a : Option Addr) (n c : Nat) (side now : Int) (w : World) : Calls Try.prog 7 #[.agg #[.int .i64 s, .int .i64 t, .slice a n c], .int .i64 side, .int .i64 now] w fun e w' => e = .returned (.bool true) ∧ Below w.heap.size w w' :=
  run_open no_count follows (vals := [.agg #[.int .i64 s, .int .i64 t, .slice a n c], .int .i64 side, .int .i64 now]) (by simp [denL, den]) (none_run s t a n c side now) w
end Go.Proofs.Ytnjonjjplcnmiaa
