/-
  The closed run, in pieces. Written by a program (gen3.py).
-/
import Derived.Test.YtagogibgoknncaaGreatDoorCF
import Derived.Test.YtagogibgoknncaaGreatDoorTab
import Derived.Test.YtagogibgoknncaaGreatDoorNop
import Derived.KernelRfl
set_option maxRecDepth 100000
namespace Go.Proofs.YtagogibgoknncaaGreatDoor
open Go Go.B
def F329 : Fact := ⟨27, [.ag [.ns, .sl 379 0 5 1 none]], 393, [(379, .c false [.s 1 102, .ns, .sl 389 0 3 1 none, .sl 390 0 3 2 none, .sl 385 0 13 3 none]), (382, .c false [.s 1 97]), (383, .c false [.s 1 100]), (384, .c false [.s 1 98]), (385, .c false [.i .i64 1, .sl 382 0 1 1 none, .i .i64 2, .i .i64 0, .i .i64 0, .i .i64 0, .s 1 98, .ns, .i .i64 0, .s 0 0, .ns, .s 0 0, .ns, .i .i64 2, .sl 383 0 1 1 none, .i .i64 2, .i .i64 0, .i .i64 0, .i .i64 0, .s 1 97, .ns, .i .i64 0, .s 0 0, .ns, .s 0 0, .ns, .i .i64 1, .sl 384 0 1 1 none, .i .i64 2, .i .i64 0, .i .i64 0, .i .i64 0, .s 1 100, .ns, .i .i64 0, .s 0 0, .ns, .s 0 0, .ns]), (389, .c false [.s 1 97, .i .i64 2, .ns]), (390, .c false [.s 1 98, .i .i64 2, .ns, .s 1 100, .i .i64 2, .ns])], .w (.i .i64 0), [], 2519⟩
theorem F329_ok : F329.ok Tryz.prog := fact_run tab_ok nop_ok (l := []) (okn) (fuel := 5000) (n := 80) (by kernel_rfl)
def F0 : Fact := ⟨5, [], 0, [], .w (.b true), [], 2801⟩
theorem F0_ok : F0.ok Tryz.prog := fact_run tab_ok nop_ok (l := [F329]) (okc F329_ok (okn)) (fuel := 5000) (n := 80) (by kernel_rfl)
end Go.Proofs.YtagogibgoknncaaGreatDoor
