/- GroupNobody runs to true, whatever the arguments, in every world: what the machine's own functions do. -/
import Derived.Test.YtekhboekiehdhaaGreatDoorEX
import Derived.Test.YtekhboekiehdhaaGreatDoorEN
import Derived.Test.YtekhboekiehdhaaGreatDoorChecked
set_option linter.unusedVariables false
namespace Go.Proofs.YtekhboekiehdhaaGreatDoor
open Ev Go.RowKit
theorem follows : Tryz.prog.follows .mixedOrders = true := by kernel_rfl
theorem no_count_all : Tryz.prog.funcs.toList.all (fun fn => fn.body.isNone || !(fn.name == "runtime.NumGoroutine")) = true := by kernel_rfl
theorem no_count : NoCount Tryz.prog := fun fn h => List.all_eq_true.1 no_count_all fn h
/-- The machine's own functions here. -/
def xs : List (FuncId × XK) := [(94, .valueOf), (96, .len), (95, .swapper [(1, 137), (2, 138), (3, 139), (4, 140), (5, 141), (6, 142), (7, 143), (8, 144), (9, 145)]), (139, .swap true), (140, .swap true), (141, .swap true), (142, .swap true), (143, .swap true), (144, .swap true), (145, .swap false)]
theorem x94 (args : Array Value) (w : World) : (callFunc 94 args).run Tryz.prog w = ((fun args => Extern.ReflectliteValue.unpack (args.getD 0 (.tuple #[]))) args |>.run Tryz.prog w).andThen fun v w' => .ok (.value v) w' :=
  run_callFunc_extern Tryz.func94 (by kernel_rfl) (by kernel_rfl) (by kernel_rfl) (e := fun args => Extern.ReflectliteValue.unpack (args.getD 0 (.tuple #[]))) (by kernel_rfl) args w
theorem x95 (args : Array Value) (w : World) : (callFunc 95 args).run Tryz.prog w = ((Extern.ReflectliteSwapper.swapper "internal/reflectlite" (Extern.ReflectliteValue.valueError "Swapper")) args |>.run Tryz.prog w).andThen fun v w' => .ok (.value v) w' :=
  run_callFunc_extern Tryz.func95 (by kernel_rfl) (by kernel_rfl) (by kernel_rfl) (e := Extern.ReflectliteSwapper.swapper "internal/reflectlite" (Extern.ReflectliteValue.valueError "Swapper")) (by kernel_rfl) args w
theorem x96 (args : Array Value) (w : World) : (callFunc 96 args).run Tryz.prog w = ((Extern.ReflectliteValue.method (Extern.ReflectliteValue.valueError "reflectlite.Value.Len" 0) Extern.ReflectliteValue.len) args |>.run Tryz.prog w).andThen fun v w' => .ok (.value v) w' :=
  run_callFunc_extern Tryz.func96 (by kernel_rfl) (by kernel_rfl) (by kernel_rfl) (e := Extern.ReflectliteValue.method (Extern.ReflectliteValue.valueError "reflectlite.Value.Len" 0) Extern.ReflectliteValue.len) (by kernel_rfl) args w
theorem x139 (args : Array Value) (w : World) : (callFunc 139 args).run Tryz.prog w = ((Extern.ReflectliteSwapper.swap true) args |>.run Tryz.prog w).andThen fun v w' => .ok (.value v) w' :=
  run_callFunc_extern Tryz.func139 (by kernel_rfl) (by kernel_rfl) (by kernel_rfl) (e := Extern.ReflectliteSwapper.swap true) (by kernel_rfl) args w
theorem x140 (args : Array Value) (w : World) : (callFunc 140 args).run Tryz.prog w = ((Extern.ReflectliteSwapper.swap true) args |>.run Tryz.prog w).andThen fun v w' => .ok (.value v) w' :=
  run_callFunc_extern Tryz.func140 (by kernel_rfl) (by kernel_rfl) (by kernel_rfl) (e := Extern.ReflectliteSwapper.swap true) (by kernel_rfl) args w
theorem x141 (args : Array Value) (w : World) : (callFunc 141 args).run Tryz.prog w = ((Extern.ReflectliteSwapper.swap true) args |>.run Tryz.prog w).andThen fun v w' => .ok (.value v) w' :=
  run_callFunc_extern Tryz.func141 (by kernel_rfl) (by kernel_rfl) (by kernel_rfl) (e := Extern.ReflectliteSwapper.swap true) (by kernel_rfl) args w
theorem x142 (args : Array Value) (w : World) : (callFunc 142 args).run Tryz.prog w = ((Extern.ReflectliteSwapper.swap true) args |>.run Tryz.prog w).andThen fun v w' => .ok (.value v) w' :=
  run_callFunc_extern Tryz.func142 (by kernel_rfl) (by kernel_rfl) (by kernel_rfl) (e := Extern.ReflectliteSwapper.swap true) (by kernel_rfl) args w
theorem x143 (args : Array Value) (w : World) : (callFunc 143 args).run Tryz.prog w = ((Extern.ReflectliteSwapper.swap true) args |>.run Tryz.prog w).andThen fun v w' => .ok (.value v) w' :=
  run_callFunc_extern Tryz.func143 (by kernel_rfl) (by kernel_rfl) (by kernel_rfl) (e := Extern.ReflectliteSwapper.swap true) (by kernel_rfl) args w
theorem x144 (args : Array Value) (w : World) : (callFunc 144 args).run Tryz.prog w = ((Extern.ReflectliteSwapper.swap true) args |>.run Tryz.prog w).andThen fun v w' => .ok (.value v) w' :=
  run_callFunc_extern Tryz.func144 (by kernel_rfl) (by kernel_rfl) (by kernel_rfl) (e := Extern.ReflectliteSwapper.swap true) (by kernel_rfl) args w
theorem x145 (args : Array Value) (w : World) : (callFunc 145 args).run Tryz.prog w = ((Extern.ReflectliteSwapper.swap false) args |>.run Tryz.prog w).andThen fun v w' => .ok (.value v) w' :=
  run_callFunc_extern Tryz.func145 (by kernel_rfl) (by kernel_rfl) (by kernel_rfl) (e := Extern.ReflectliteSwapper.swap false) (by kernel_rfl) args w
theorem l1 : Tryz.prog.funcs.findIdx? (·.name == "internal/reflectlite" ++ ".Swapper$" ++ toString 1) = some 137 := by kernel_rfl
theorem l2 : Tryz.prog.funcs.findIdx? (·.name == "internal/reflectlite" ++ ".Swapper$" ++ toString 2) = some 138 := by kernel_rfl
theorem l3 : Tryz.prog.funcs.findIdx? (·.name == "internal/reflectlite" ++ ".Swapper$" ++ toString 3) = some 139 := by kernel_rfl
theorem l4 : Tryz.prog.funcs.findIdx? (·.name == "internal/reflectlite" ++ ".Swapper$" ++ toString 4) = some 140 := by kernel_rfl
theorem l5 : Tryz.prog.funcs.findIdx? (·.name == "internal/reflectlite" ++ ".Swapper$" ++ toString 5) = some 141 := by kernel_rfl
theorem l6 : Tryz.prog.funcs.findIdx? (·.name == "internal/reflectlite" ++ ".Swapper$" ++ toString 6) = some 142 := by kernel_rfl
theorem l7 : Tryz.prog.funcs.findIdx? (·.name == "internal/reflectlite" ++ ".Swapper$" ++ toString 7) = some 143 := by kernel_rfl
theorem l8 : Tryz.prog.funcs.findIdx? (·.name == "internal/reflectlite" ++ ".Swapper$" ++ toString 8) = some 144 := by kernel_rfl
theorem l9 : Tryz.prog.funcs.findIdx? (·.name == "internal/reflectlite" ++ ".Swapper$" ++ toString 9) = some 145 := by kernel_rfl
theorem xok : XOK Tryz.prog xs where
  sem := by
    intro k kd h args w
    simp only [xs, List.mem_cons, List.not_mem_nil, or_false, Prod.mk.injEq] at h
    rcases h with ⟨rfl, rfl⟩ | ⟨rfl, rfl⟩ | ⟨rfl, rfl⟩ | ⟨rfl, rfl⟩ | ⟨rfl, rfl⟩ | ⟨rfl, rfl⟩ | ⟨rfl, rfl⟩ | ⟨rfl, rfl⟩ | ⟨rfl, rfl⟩ | ⟨rfl, rfl⟩
    · exact x94 args w
    · exact x96 args w
    · exact x95 args w
    · exact x139 args w
    · exact x140 args w
    · exact x141 args w
    · exact x142 args w
    · exact x143 args w
    · exact x144 args w
    · exact x145 args w
  lits := by
    intro k fs h q f hq
    simp only [xs, List.mem_cons, List.not_mem_nil, or_false, Prod.mk.injEq, reduceCtorEq, and_false, false_or, XK.swapper.injEq] at h
    obtain ⟨rfl, rfl⟩ := h
    simp only [List.mem_cons, List.not_mem_nil, or_false, Prod.mk.injEq] at hq
    rcases hq with ⟨rfl, rfl⟩ | ⟨rfl, rfl⟩ | ⟨rfl, rfl⟩ | ⟨rfl, rfl⟩ | ⟨rfl, rfl⟩ | ⟨rfl, rfl⟩ | ⟨rfl, rfl⟩ | ⟨rfl, rfl⟩ | ⟨rfl, rfl⟩
    · exact l1
    · exact l2
    · exact l3
    · exact l4
    · exact l5
    · exact l6
    · exact l7
    · exact l8
    · exact l9
theorem ext_all : ∀ base k args H nx out, evExt Tryz.prog xs k args H nx = some out → CallOK Tryz.prog base k args H nx out := fun base k args H nx out h => ext_ok xok h
end Go.Proofs.YtekhboekiehdhaaGreatDoor
