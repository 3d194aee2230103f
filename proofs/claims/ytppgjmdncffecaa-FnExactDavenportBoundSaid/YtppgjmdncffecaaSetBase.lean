/-
  The setup: types, what is laid aside at loops (printed by gen.py).
-/
import Derived.Test.YtppgjmdncffecaaShal
import Derived.Test.YtppgjmdncffecaaRows
import Derived.WalkKit
namespace Go.Proofs.Ytppgjmdncffecaa.Base
open Go Ev
def B0E : Env := { sl := [(22, 3, .n .i64 0)], gr := [(28, 22), (31, 22)], sc := [3, 4, 5, 9, 21, 57], bl := [4], ik := [(3, .i64), (5, .u8), (21, .i32), (57, .u32)], st := [9] }
def B0K : List (FuncId × List (Nat × List Nat × List Nat × List Nat)) := [
  (10, [(0, ([1, 2, 5, 6, 7, 8, 9, 10, 11, 12, 13, 14, 15, 16, 17, 18, 19, 20, 21], [0, 1, 2, 4, 5, 6, 7, 8, 9, 10, 11, 12, 13, 14, 15, 16, 17, 18, 19, 20, 21], [0, 1, 3, 4, 5, 6, 7, 8, 9, 10, 11, 12, 13, 14, 15, 16, 17, 18, 19, 20, 21]))])]
def B0kl (f : FuncId) (id : Nat) : List Nat × List Nat × List Nat := match Ev.look B0K f with
  | some l => match Ev.look l id with
    | some x => x
    | none => ([], [], [])
  | none => ([], [], [])
noncomputable def B0 : Setup := { P := Try.prog, E := B0E, kl := B0kl, ext := fun _ _ => none }
theorem B0env : okEnv Try.prog B0E = true := by kernel_rfl
theorem B0ok : SetupOk B0 := ⟨(okEnv_spec B0env).1, (okEnv_spec B0env).2, fun f args rs h => by cases h⟩
end Go.Proofs.Ytppgjmdncffecaa.Base
