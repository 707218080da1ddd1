/-
  Abstract codes of the functions of the cut, printed by program (gen.py).
-/
import Derived.Test.YtpfocppjojgooaaAbsT
set_option maxRecDepth 100000
namespace Go.Proofs.Ytpfocppjojgooaa
open Go.Abs
/-- synchrony/synchronylaw20.SimpFolds -/
def c3 : AF := { nt := 30, res := [.s 2], body := (.seq (.reg [⟨none, .bxv 1 (.s 0)⟩,
   ⟨none, .set 2 (.mov (.k (.b false)))⟩])
  (.seq (.seq (.reg [⟨none, .set 4 (.ldb 1 0 6 true)⟩,
   ⟨none, .pc 5 5 [.s 4, .k (.i .i64 301)] 0⟩,
   ⟨none, .set 6 (.bin .gtr (.s 5) (.k (.i .i64 300)))⟩])
  (.cond (.s 6) (.seq (.reg [⟨none, .pc 7 6 [] 0⟩,
    ⟨none, .set 2 (.mov (.s 7))⟩])
   .ret)
   .skip))
  (.seq (.reg [⟨none, .set 8 (.ldb 1 0 6 true)⟩,
   ⟨none, .pc 9 7 [.s 8] 0⟩,
   ⟨none, .bxn 3 [.i .i64 0, .i .i64 0, .i .i64 0, .i .i64 0, .s [], .ns]⟩,
   ⟨none, .stb 3 0 6 (.s 9)⟩])
  (.seq (.drw [⟨none, .set 10 (.ldb 3 0 6 true)⟩,
   ⟨none, .set 11 (.ldb 1 0 6 true)⟩,
   ⟨none, .pc 12 9 [.s 11] 0⟩,
   ⟨none, .pc 13 8 [.s 10, .s 12] 0⟩,
   ⟨none, .set 14 (.mov (.s 13))⟩,
   ⟨some (14, true), .set 15 (.ldb 3 0 6 true)⟩,
   ⟨some (14, true), .pc 16 10 [.s 15] 0⟩,
   ⟨some (14, true), .set 17 (.ldb 1 0 6 true)⟩,
   ⟨some (14, true), .pc 18 10 [.s 17] 0⟩,
   ⟨some (14, true), .set 19 (.bin .leq (.s 16) (.s 18))⟩,
   ⟨none, .set 20 (.pick (.s 14) (.s 19) (.k (.b false)))⟩,
   ⟨none, .set 21 (.mov (.s 20))⟩,
   ⟨some (21, true), .set 22 (.ldb 3 0 6 true)⟩,
   ⟨some (21, true), .pc 23 7 [.s 22] 0⟩,
   ⟨some (21, true), .set 24 (.ldb 3 0 6 true)⟩,
   ⟨some (21, true), .pc 25 8 [.s 23, .s 24] 0⟩,
   ⟨none, .set 26 (.pick (.s 21) (.s 25) (.k (.b false)))⟩,
   ⟨none, .set 27 (.mov (.s 26))⟩,
   ⟨some (27, true), .pc 28 6 [] 0⟩,
   ⟨none, .set 29 (.pick (.s 27) (.s 28) (.k (.b false)))⟩,
   ⟨none, .set 2 (.mov (.s 29))⟩])
  .ret)))) }
/-- synchrony/synchronylaw20.SimpValues -/
def c4 : AF := { nt := 101, res := [.s 8], body := (.seq (.reg [⟨none, .set 8 (.mov (.k (.b false)))⟩])
  (.seq (.reg [⟨none, .set 21 (.mov (.s 1))⟩,
   ⟨none, .set 22 (.cnv .i64 (.s 21))⟩,
   ⟨none, .set 23 (.mov (.s 2))⟩,
   ⟨none, .set 24 (.cnv .i64 (.s 23))⟩,
   ⟨none, .set 9 (.mov (.k (.i .i64 2)))⟩,
   ⟨none, .set 10 (.mov (.s 22))⟩,
   ⟨none, .set 11 (.mov (.s 24))⟩])
  (.seq (.seq (.reg [⟨none, .set 25 (.mov (.s 3))⟩])
  (.cond (.s 25) (.reg [⟨none, .set 26 (.mov (.s 10))⟩,
    ⟨none, .set 27 (.bin .and (.s 26) (.k (.i .i64 1)))⟩,
    ⟨none, .set 28 (.mov (.s 11))⟩,
    ⟨none, .set 29 (.bin .and (.s 28) (.k (.i .i64 1)))⟩,
    ⟨none, .set 9 (.mov (.k (.i .i64 1)))⟩,
    ⟨none, .set 10 (.mov (.s 27))⟩,
    ⟨none, .set 11 (.mov (.s 29))⟩])
   .skip))
  (.seq (.reg [⟨none, .set 30 (.mov (.s 9))⟩,
   ⟨none, .set 31 (.mov (.s 10))⟩,
   ⟨none, .set 32 (.bld [.i .i64 0, .i .i64 0, .i .i64 0, .i .i64 0, .s [], .ns] [(0, 1, .k (.i .i64 1)), (2, 1, .s 30), (3, 1, .s 31)])⟩,
   ⟨none, .set 33 (.mov (.s 9))⟩,
   ⟨none, .set 34 (.mov (.s 11))⟩,
   ⟨none, .set 35 (.bld [.i .i64 0, .i .i64 0, .i .i64 0, .i .i64 0, .s [], .ns] [(0, 1, .k (.i .i64 1)), (2, 1, .s 33), (3, 1, .s 34)])⟩,
   ⟨none, .bsl 36 6 [.s 32, .s 35]⟩,
   ⟨none, .mvs 12 36⟩])
  (.seq (.seq (.reg [⟨none, .set 37 (.mov (.s 0))⟩,
   ⟨none, .set 38 (.bin .eql (.s 37) (.k (.i .i64 1)))⟩,
   ⟨none, .set 39 (.mov (.s 38))⟩,
   ⟨some (39, false), .set 40 (.mov (.s 0))⟩,
   ⟨some (39, false), .set 41 (.bin .eql (.s 40) (.k (.i .i64 2)))⟩,
   ⟨none, .set 42 (.pick (.s 39) (.k (.b true)) (.s 41))⟩])
  (.cond (.s 42) (.reg [⟨none, .mvs 43 12⟩,
    ⟨none, .set 44 (.ssl false (.s 43) none (some (.k (.i .i64 1))) 6)⟩,
    ⟨none, .mvs 12 44⟩])
   .skip))
  (.seq (.reg [⟨none, .set 45 (.mov (.s 0))⟩,
   ⟨none, .set 46 (.mov (.s 12))⟩,
   ⟨none, .pc 47 11 [.s 45, .s 46] 0⟩,
   ⟨none, .pc 48 7 [.s 47] 0⟩,
   ⟨none, .bxn 13 [.i .i64 0, .i .i64 0, .i .i64 0, .i .i64 0, .s [], .ns]⟩,
   ⟨none, .stb 13 0 6 (.s 48)⟩])
  (.seq (.reg [⟨none, .set 14 (.mov (.k (.ns)))⟩,
   ⟨none, .set 15 (.mov (.k (.ns)))⟩])
  (.seq (.seq (.reg [⟨none, .set 16 (.mov (.k (.i .i64 0)))⟩])
  (.block 0 (.loop [true, false, false, false, false, false, false, false, false, true, false, false, true, true, true, true, true, false, false, false, false, false, false, false, false, false, false, false, false, false, false, false, false, false, false, false, false, false, false, false, false, false, false, false, false, false, false, false, false, false, false, false, false, false, false, false, false, false, false, false, false, false, false, false, false, false, false, false, false, false, false, false, false, false, false, false, false, false, false, false, false, false, false, false, false, false, false, false, false, false, false, false, false, false, false, false, false, false, false, false, false] (.seq (.seq (.reg [⟨none, .set 49 (.mov (.s 16))⟩,
     ⟨none, .set 50 (.mov (.s 12))⟩,
     ⟨none, .set 51 (.len false (.s 50))⟩,
     ⟨none, .set 52 (.bin .lss (.s 49) (.s 51))⟩])
    (.cond (.s 52) .skip
     (.exit 0)))
    (.seq (.block 1 (.seq (.reg [⟨none, .mvs 55 14⟩,
      ⟨none, .set 56 (.mov (.s 9))⟩,
      ⟨none, .bsl 57 1 [.s 56]⟩,
      ⟨none, .app 58 55 none (.s 57) 1 8 true⟩,
      ⟨none, .mvs 14 58⟩])
     (.reg [⟨none, .mvs 59 15⟩,
      ⟨none, .set 60 (.mov (.s 12))⟩,
      ⟨none, .set 61 (.mov (.s 16))⟩,
      ⟨none, .set 62 (.iad (.s 60) (.s 61) 6)⟩,
      ⟨none, .set 63 (.fad (.s 62) 3)⟩,
      ⟨none, .set 64 (.ld (.s 63) 1 false)⟩,
      ⟨none, .bsl 65 1 [.s 64]⟩,
      ⟨none, .app 66 59 none (.s 65) 1 8 true⟩,
      ⟨none, .mvs 15 66⟩])))
    (.reg [⟨none, .set 53 (.mov (.s 16))⟩,
     ⟨none, .set 54 (.bin .add (.s 53) (.k (.i .i64 1)))⟩,
     ⟨none, .set 16 (.mov (.s 54))⟩]))))))
  (.seq (.reg [⟨none, .set 68 (.mov (.s 0))⟩,
   ⟨none, .mvs 69 14⟩,
   ⟨none, .pc 70 12 [.s 68, .s 69] 0⟩,
   ⟨none, .mvs 67 70⟩,
   ⟨none, .ext 71 67 0⟩,
   ⟨none, .ext 72 67 1⟩,
   ⟨none, .set 17 (.mov (.s 71))⟩,
   ⟨none, .set 18 (.mov (.s 72))⟩])
  (.seq (.reg [⟨none, .set 74 (.mov (.s 0))⟩,
   ⟨none, .mvs 75 15⟩,
   ⟨none, .pc 76 13 [.s 74, .s 75] 0⟩,
   ⟨none, .mvs 73 76⟩,
   ⟨none, .ext 77 73 0⟩,
   ⟨none, .ext 78 73 1⟩,
   ⟨none, .set 19 (.mov (.s 77))⟩,
   ⟨none, .set 20 (.mov (.s 78))⟩])
  (.seq (.seq (.reg [⟨none, .set 79 (.mov (.s 18))⟩,
   ⟨none, .set 80 (.bin .eql (.s 79) (.k (.i .i64 0)))⟩,
   ⟨none, .set 81 (.mov (.s 80))⟩,
   ⟨some (81, true), .set 82 (.mov (.s 20))⟩,
   ⟨some (81, true), .set 83 (.bin .eql (.s 82) (.k (.i .i64 0)))⟩,
   ⟨none, .set 84 (.pick (.s 81) (.s 83) (.k (.b false)))⟩])
  (.cond (.s 84) (.seq (.reg [⟨none, .set 85 (.ldb 13 0 6 true)⟩,
    ⟨none, .set 86 (.mov (.s 17))⟩,
    ⟨none, .set 87 (.mov (.s 19))⟩,
    ⟨none, .pc 88 14 [.s 85, .s 86, .s 87] 0⟩,
    ⟨none, .set 89 (.mov (.s 88))⟩,
    ⟨some (89, true), .pc 90 6 [] 0⟩,
    ⟨none, .set 91 (.pick (.s 89) (.s 90) (.k (.b false)))⟩,
    ⟨none, .set 8 (.mov (.s 91))⟩])
   .ret)
   .skip))
  (.seq (.drw [⟨none, .set 92 (.ldb 13 0 6 true)⟩,
   ⟨none, .set 93 (.mov (.s 0))⟩,
   ⟨none, .mvs 94 12⟩,
   ⟨none, .pc 95 11 [.s 93, .s 94] 0⟩,
   ⟨none, .pc 96 9 [.s 95] 0⟩,
   ⟨none, .pc 97 8 [.s 92, .s 96] 0⟩,
   ⟨none, .set 98 (.mov (.s 97))⟩,
   ⟨some (98, true), .pc 99 6 [] 0⟩,
   ⟨none, .set 100 (.pick (.s 98) (.s 99) (.k (.b false)))⟩,
   ⟨none, .set 8 (.mov (.s 100))⟩])
  .ret)))))))))))) }
/-- synchrony/synchronyref06.Weigh -/
def c5 : AF := { nt := 33, res := [.s 4], body := (.seq (.reg [⟨none, .bxv 2 (.s 0)⟩,
   ⟨none, .set 4 (.mov (.k (.i .i64 0)))⟩])
  (.seq (.reg [⟨none, .set 5 (.mov (.k (.i .i64 1)))⟩])
  (.seq (.seq (.reg [⟨none, .set 6 (.mov (.k (.i .i64 0)))⟩])
  (.block 0 (.loop [false, true, true, false, false, true, true, false, false, false, false, false, false, false, false, false, false, false, false, false, false, false, false, false, false, false, false, false, false, false, false, false, false] (.seq (.seq (.reg [⟨none, .set 7 (.mov (.s 6))⟩,
     ⟨none, .fp 8 2 5⟩,
     ⟨none, .set 9 (.ldb 2 5 1 false)⟩,
     ⟨none, .set 10 (.len false (.s 9))⟩,
     ⟨none, .set 11 (.bin .lss (.s 7) (.s 10))⟩,
     ⟨none, .set 12 (.mov (.s 11))⟩,
     ⟨some (12, true), .set 13 (.mov (.s 5))⟩,
     ⟨some (12, true), .set 14 (.mov (.s 1))⟩,
     ⟨some (12, true), .set 15 (.bin .lss (.s 13) (.s 14))⟩,
     ⟨none, .set 16 (.pick (.s 12) (.s 15) (.k (.b false)))⟩])
    (.cond (.s 16) .skip
     (.exit 0)))
    (.seq (.block 1 (.reg [⟨none, .set 19 (.mov (.s 5))⟩,
      ⟨none, .fp 20 2 5⟩,
      ⟨none, .set 21 (.ldb 2 5 1 false)⟩,
      ⟨none, .set 22 (.mov (.s 6))⟩,
      ⟨none, .set 23 (.iad (.s 21) (.s 22) 6)⟩,
      ⟨none, .set 24 (.ld (.s 23) 6 true)⟩,
      ⟨none, .set 25 (.mov (.s 1))⟩,
      ⟨none, .set 26 (.mov (.s 5))⟩,
      ⟨none, .set 27 (.bin .sub (.s 25) (.s 26))⟩,
      ⟨none, .pc 28 5 [.s 24, .s 27] 0⟩,
      ⟨none, .set 29 (.bin .add (.s 19) (.s 28))⟩,
      ⟨none, .set 5 (.mov (.s 29))⟩]))
    (.reg [⟨none, .set 17 (.mov (.s 6))⟩,
     ⟨none, .set 18 (.bin .add (.s 17) (.k (.i .i64 1)))⟩,
     ⟨none, .set 6 (.mov (.s 18))⟩]))))))
  (.seq (.reg [⟨none, .set 30 (.mov (.s 5))⟩,
   ⟨none, .set 31 (.mov (.s 1))⟩,
   ⟨none, .set 32 (.mn (.s 30) (.s 31))⟩,
   ⟨none, .set 4 (.mov (.s 32))⟩])
  .ret)))) }
/-- synchrony/synchronylaw20.lives -/
def c6 : AF := { nt := 63, res := [.s 0], body := (.seq (.reg [⟨none, .set 0 (.mov (.k (.b false)))⟩])
  (.seq (.reg [⟨none, .pc 5 15 [.k (.s [120])] 0⟩,
   ⟨none, .pc 6 16 [.k (.i .i64 0)] 0⟩,
   ⟨none, .bsl 7 6 [.s 5, .s 6]⟩,
   ⟨none, .pc 8 11 [.k (.i .i64 6), .s 7] 0⟩,
   ⟨none, .pc 9 16 [.k (.i .i64 2)] 0⟩,
   ⟨none, .pc 10 16 [.k (.i .i64 1)] 0⟩,
   ⟨none, .bsl 11 6 [.s 9, .s 10]⟩,
   ⟨none, .pc 12 11 [.k (.i .i64 7), .s 11] 0⟩,
   ⟨none, .bsl 13 6 [.s 8, .s 12]⟩,
   ⟨none, .pc 14 11 [.k (.i .i64 8), .s 13] 0⟩,
   ⟨none, .pc 15 7 [.s 14] 0⟩,
   ⟨none, .bxn 1 [.i .i64 0, .i .i64 0, .i .i64 0, .i .i64 0, .s [], .ns]⟩,
   ⟨none, .stb 1 0 6 (.s 15)⟩])
  (.seq (.reg [⟨none, .set 16 (.bld [.s [], .i .i64 0, .ns] [(0, 1, .k (.s [121])), (1, 1, .k (.i .i64 2))])⟩,
   ⟨none, .bsl 17 3 [.s 16]⟩,
   ⟨none, .set 18 (.bld [.s [], .i .i64 0, .ns] [(0, 1, .k (.s [120])), (1, 1, .k (.i .i64 2))])⟩,
   ⟨none, .bsl 19 3 [.s 18]⟩,
   ⟨none, .pc 20 16 [.k (.i .i64 2)] 0⟩,
   ⟨none, .pc 21 17 [.k (.s [120]), .s 20] 0⟩,
   ⟨none, .pc 22 15 [.k (.s [120])] 0⟩,
   ⟨none, .pc 23 16 [.k (.i .i64 1)] 0⟩,
   ⟨none, .bsl 24 6 [.s 22, .s 23]⟩,
   ⟨none, .pc 25 11 [.k (.i .i64 6), .s 24] 0⟩,
   ⟨none, .pc 26 17 [.k (.s [121]), .s 25] 0⟩,
   ⟨none, .bsl 27 13 [.s 21, .s 26]⟩,
   ⟨none, .set 28 (.bld [.s [], .ns, .ns, .ns, .ns] [(0, 1, .k (.s [102])), (2, 1, .s 17), (3, 1, .s 19), (4, 1, .s 27)])⟩,
   ⟨none, .bxn 2 [.s [], .ns, .ns, .ns, .ns]⟩,
   ⟨none, .stb 2 0 5 (.s 28)⟩])
  (.seq (.reg [⟨none, .set 29 (.ldb 2 0 5 true)⟩,
   ⟨none, .pc 30 18 [.s 29] 0⟩,
   ⟨none, .bxn 3 [.s [], .ns, .ns, .ns, .ns]⟩,
   ⟨none, .stb 3 0 5 (.s 30)⟩])
  (.seq (.reg [⟨none, .set 31 (.ldb 3 0 5 true)⟩,
   ⟨none, .pc 32 19 [.s 31] 0⟩,
   ⟨none, .bxn 4 [.s [], .ns, .ns, .ns, .ns]⟩,
   ⟨none, .stb 4 0 5 (.s 32)⟩])
  (.seq (.drw [⟨none, .set 33 (.ldb 1 0 6 true)⟩,
   ⟨none, .pc 34 15 [.k (.s [120])] 0⟩,
   ⟨none, .pc 35 8 [.s 33, .s 34] 0⟩,
   ⟨none, .set 36 (.mov (.s 35))⟩,
   ⟨some (36, true), .fp 37 3 4⟩,
   ⟨some (36, true), .set 38 (.ldb 3 4 1 false)⟩,
   ⟨some (36, true), .set 39 (.len false (.s 38))⟩,
   ⟨some (36, true), .set 40 (.bin .eql (.s 39) (.k (.i .i64 2)))⟩,
   ⟨none, .set 41 (.pick (.s 36) (.s 40) (.k (.b false)))⟩,
   ⟨none, .set 42 (.mov (.s 41))⟩,
   ⟨some (42, true), .fp 43 3 4⟩,
   ⟨some (42, true), .set 44 (.ldb 3 4 1 false)⟩,
   ⟨some (42, true), .set 45 (.iad (.s 44) (.k (.i .i64 1)) 13)⟩,
   ⟨some (42, true), .set 46 (.fad (.s 45) 2)⟩,
   ⟨some (42, true), .set 47 (.ld (.s 46) 6 true)⟩,
   ⟨some (42, true), .pc 48 16 [.k (.i .i64 3)] 0⟩,
   ⟨some (42, true), .pc 49 8 [.s 47, .s 48] 0⟩,
   ⟨none, .set 50 (.pick (.s 42) (.s 49) (.k (.b false)))⟩,
   ⟨none, .set 51 (.mov (.s 50))⟩,
   ⟨some (51, true), .fp 52 4 4⟩,
   ⟨some (51, true), .set 53 (.ldb 4 4 1 false)⟩,
   ⟨some (51, true), .set 54 (.len false (.s 53))⟩,
   ⟨some (51, true), .set 55 (.bin .eql (.s 54) (.k (.i .i64 1)))⟩,
   ⟨none, .set 56 (.pick (.s 51) (.s 55) (.k (.b false)))⟩,
   ⟨none, .set 57 (.mov (.s 56))⟩,
   ⟨some (57, true), .fp 58 4 3⟩,
   ⟨some (57, true), .set 59 (.ldb 4 3 1 false)⟩,
   ⟨some (57, true), .set 60 (.len false (.s 59))⟩,
   ⟨some (57, true), .set 61 (.bin .eql (.s 60) (.k (.i .i64 0)))⟩,
   ⟨none, .set 62 (.pick (.s 57) (.s 61) (.k (.b false)))⟩,
   ⟨none, .set 0 (.mov (.s 62))⟩])
  .ret)))))) }
/-- synchrony/simp.Fold -/
def c7 : AF := { nt := 18, res := [.c 2 6 true], body := (.seq (.reg [⟨none, .bxv 1 (.s 0)⟩,
   ⟨none, .bxn 2 [.i .i64 0, .i .i64 0, .i .i64 0, .i .i64 0, .s [], .ns]⟩])
  (.seq (.reg [⟨none, .fp 5 1 5⟩,
   ⟨none, .set 6 (.ldb 1 5 1 false)⟩,
   ⟨none, .pc 7 20 [.s 6, .k (.fn 7 [])] 0⟩,
   ⟨none, .fp 8 1 5⟩,
   ⟨none, .stb 1 5 1 (.s 7)⟩])
  (.block 0 (.loop [false, true, true, false, false, false, false, false, false, false, false, false, false, false, false, false, false, false] (.block 1 (.seq (.reg [⟨none, .set 10 (.ldb 1 0 6 true)⟩,
      ⟨none, .pc 11 21 [.s 10] 0⟩,
      ⟨none, .mvs 9 11⟩,
      ⟨none, .ext 12 9 0⟩,
      ⟨none, .ext 13 9 1⟩,
      ⟨none, .bxn 3 [.i .i64 0, .i .i64 0, .i .i64 0, .i .i64 0, .s [], .ns]⟩,
      ⟨none, .stb 3 0 6 (.s 12)⟩,
      ⟨none, .set 4 (.mov (.s 13))⟩])
     (.seq (.seq (.reg [⟨none, .set 14 (.mov (.s 4))⟩,
      ⟨none, .set 15 (.un .not (.s 14))⟩])
     (.cond (.s 15) (.seq (.reg [⟨none, .set 16 (.ldb 1 0 6 true)⟩,
       ⟨none, .stb 2 0 6 (.s 16)⟩])
      .ret)
      .skip))
     (.reg [⟨none, .set 17 (.ldb 3 0 6 true)⟩,
      ⟨none, .stb 1 0 6 (.s 17)⟩])))))))) }
/-- synchrony/synchronyref06.Same -/
def c8 : AF := { nt := 67, res := [.s 4], body := (.seq (.reg [⟨none, .bxv 2 (.s 0)⟩,
   ⟨none, .bxv 3 (.s 1)⟩,
   ⟨none, .set 4 (.mov (.k (.b false)))⟩])
  (.seq (.seq (.reg [⟨none, .fp 6 2 0⟩,
   ⟨none, .set 7 (.ldb 2 0 1 false)⟩,
   ⟨none, .fp 8 3 0⟩,
   ⟨none, .set 9 (.ldb 3 0 1 false)⟩,
   ⟨none, .set 10 (.bin .neq (.s 7) (.s 9))⟩,
   ⟨none, .set 11 (.mov (.s 10))⟩,
   ⟨some (11, false), .fp 12 2 1⟩,
   ⟨some (11, false), .set 13 (.ldb 2 1 1 false)⟩,
   ⟨some (11, false), .fp 14 3 1⟩,
   ⟨some (11, false), .set 15 (.ldb 3 1 1 false)⟩,
   ⟨some (11, false), .set 16 (.bin .neq (.s 13) (.s 15))⟩,
   ⟨none, .set 17 (.pick (.s 11) (.k (.b true)) (.s 16))⟩,
   ⟨none, .set 18 (.mov (.s 17))⟩,
   ⟨some (18, false), .fp 19 2 2⟩,
   ⟨some (18, false), .set 20 (.ldb 2 2 1 false)⟩,
   ⟨some (18, false), .fp 21 3 2⟩,
   ⟨some (18, false), .set 22 (.ldb 3 2 1 false)⟩,
   ⟨some (18, false), .set 23 (.bin .neq (.s 20) (.s 22))⟩,
   ⟨none, .set 24 (.pick (.s 18) (.k (.b true)) (.s 23))⟩,
   ⟨none, .set 25 (.mov (.s 24))⟩,
   ⟨some (25, false), .fp 26 2 3⟩,
   ⟨some (25, false), .set 27 (.ldb 2 3 1 false)⟩,
   ⟨some (25, false), .fp 28 3 3⟩,
   ⟨some (25, false), .set 29 (.ldb 3 3 1 false)⟩,
   ⟨some (25, false), .set 30 (.bin .neq (.s 27) (.s 29))⟩,
   ⟨none, .set 31 (.pick (.s 25) (.k (.b true)) (.s 30))⟩,
   ⟨none, .set 32 (.mov (.s 31))⟩,
   ⟨some (32, false), .fp 33 2 4⟩,
   ⟨some (32, false), .set 34 (.ldb 2 4 1 false)⟩,
   ⟨some (32, false), .fp 35 3 4⟩,
   ⟨some (32, false), .set 36 (.ldb 3 4 1 false)⟩,
   ⟨some (32, false), .set 37 (.bin .neq (.s 34) (.s 36))⟩,
   ⟨none, .set 38 (.pick (.s 32) (.k (.b true)) (.s 37))⟩,
   ⟨none, .set 39 (.mov (.s 38))⟩,
   ⟨some (39, false), .fp 40 2 5⟩,
   ⟨some (39, false), .set 41 (.ldb 2 5 1 false)⟩,
   ⟨some (39, false), .set 42 (.len false (.s 41))⟩,
   ⟨some (39, false), .fp 43 3 5⟩,
   ⟨some (39, false), .set 44 (.ldb 3 5 1 false)⟩,
   ⟨some (39, false), .set 45 (.len false (.s 44))⟩,
   ⟨some (39, false), .set 46 (.bin .neq (.s 42) (.s 45))⟩,
   ⟨none, .set 47 (.pick (.s 39) (.k (.b true)) (.s 46))⟩])
  (.cond (.s 47) (.seq (.reg [⟨none, .set 4 (.mov (.k (.b false)))⟩])
   .ret)
   .skip))
  (.seq (.seq (.reg [⟨none, .set 5 (.mov (.k (.i .i64 0)))⟩])
  (.block 0 (.loop [false, false, true, true, false, true, false, false, false, false, false, false, false, false, false, false, false, false, false, false, false, false, false, false, false, false, false, false, false, false, false, false, false, false, false, false, false, false, false, false, false, false, false, false, false, false, false, false, false, false, false, false, false, false, false, false, false, false, false, false, false, false, false, false, false, false, false] (.seq (.seq (.reg [⟨none, .set 48 (.mov (.s 5))⟩,
     ⟨none, .fp 49 2 5⟩,
     ⟨none, .set 50 (.ldb 2 5 1 false)⟩,
     ⟨none, .set 51 (.len false (.s 50))⟩,
     ⟨none, .set 52 (.bin .lss (.s 48) (.s 51))⟩])
    (.cond (.s 52) .skip
     (.exit 0)))
    (.seq (.block 1 (.seq (.drw [⟨none, .fp 55 2 5⟩,
      ⟨none, .set 56 (.ldb 2 5 1 false)⟩,
      ⟨none, .set 57 (.mov (.s 5))⟩,
      ⟨none, .set 58 (.iad (.s 56) (.s 57) 6)⟩,
      ⟨none, .set 59 (.ld (.s 58) 6 true)⟩,
      ⟨none, .fp 60 3 5⟩,
      ⟨none, .set 61 (.ldb 3 5 1 false)⟩,
      ⟨none, .set 62 (.mov (.s 5))⟩,
      ⟨none, .set 63 (.iad (.s 61) (.s 62) 6)⟩,
      ⟨none, .set 64 (.ld (.s 63) 6 true)⟩,
      ⟨none, .pc 65 8 [.s 59, .s 64] 0⟩,
      ⟨none, .set 66 (.un .not (.s 65))⟩])
     (.cond (.s 66) (.seq (.reg [⟨none, .set 4 (.mov (.k (.b false)))⟩])
      .ret)
      .skip)))
    (.reg [⟨none, .set 53 (.mov (.s 5))⟩,
     ⟨none, .set 54 (.bin .add (.s 53) (.k (.i .i64 1)))⟩,
     ⟨none, .set 5 (.mov (.s 54))⟩]))))))
  (.seq (.reg [⟨none, .set 4 (.mov (.k (.b true)))⟩])
  .ret)))) }
/-- synchrony/synchronyref20.Fold -/
def c9 : AF := { nt := 55, res := [.c 2 6 true], body := (.seq (.reg [⟨none, .bxv 1 (.s 0)⟩,
   ⟨none, .bxn 2 [.i .i64 0, .i .i64 0, .i .i64 0, .i .i64 0, .s [], .ns]⟩])
  (.seq (.reg [⟨none, .set 3 (.mov (.k (.ns)))⟩])
  (.seq (.seq (.reg [⟨none, .set 4 (.mov (.k (.i .i64 0)))⟩])
  (.block 0 (.loop [false, true, true, true, true, false, false, false, false, false, false, false, false, false, false, false, false, false, false, false, false, false, false, false, false, false, false, false, false, false, false, false, false, false, false, false, false, false, false, false, false, false, false, false, false, false, false, false, false, false, false, false, false, false, false] (.seq (.seq (.reg [⟨none, .set 7 (.mov (.s 4))⟩,
     ⟨none, .fp 8 1 5⟩,
     ⟨none, .set 9 (.ldb 1 5 1 false)⟩,
     ⟨none, .set 10 (.len false (.s 9))⟩,
     ⟨none, .set 11 (.bin .lss (.s 7) (.s 10))⟩])
    (.cond (.s 11) .skip
     (.exit 0)))
    (.seq (.block 1 (.reg [⟨none, .mvs 14 3⟩,
      ⟨none, .fp 15 1 5⟩,
      ⟨none, .set 16 (.ldb 1 5 1 false)⟩,
      ⟨none, .set 17 (.mov (.s 4))⟩,
      ⟨none, .set 18 (.iad (.s 16) (.s 17) 6)⟩,
      ⟨none, .set 19 (.ld (.s 18) 6 true)⟩,
      ⟨none, .pc 20 9 [.s 19] 0⟩,
      ⟨none, .bsl 21 6 [.s 20]⟩,
      ⟨none, .app 22 14 none (.s 21) 6 72 true⟩,
      ⟨none, .mvs 3 22⟩]))
    (.reg [⟨none, .set 12 (.mov (.s 4))⟩,
     ⟨none, .set 13 (.bin .add (.s 12) (.k (.i .i64 1)))⟩,
     ⟨none, .set 4 (.mov (.s 13))⟩]))))))
  (.seq (.reg [⟨none, .mvs 23 3⟩,
   ⟨none, .fp 24 1 5⟩,
   ⟨none, .stb 1 5 1 (.s 23)⟩])
  (.block 2 (.loop [false, true, true, false, false, false, false, false, false, false, false, false, false, false, false, false, false, false, false, false, false, false, false, false, false, false, false, false, false, false, false, false, false, false, false, false, false, false, false, false, false, false, false, false, false, false, false, false, false, false, false, false, false, false, false] (.block 3 (.seq (.reg [⟨none, .set 26 (.ldb 1 0 6 true)⟩,
      ⟨none, .pc 27 22 [.s 26] 0⟩,
      ⟨none, .mvs 25 27⟩,
      ⟨none, .ext 28 25 0⟩,
      ⟨none, .ext 29 25 1⟩,
      ⟨none, .bxn 5 [.i .i64 0, .i .i64 0, .i .i64 0, .i .i64 0, .s [], .ns]⟩,
      ⟨none, .stb 5 0 6 (.s 28)⟩,
      ⟨none, .set 6 (.mov (.s 29))⟩])
     (.seq (.seq (.reg [⟨none, .set 30 (.mov (.s 6))⟩,
      ⟨none, .set 31 (.un .not (.s 30))⟩])
     (.cond (.s 31) (.reg [⟨none, .set 33 (.ldb 1 0 6 true)⟩,
       ⟨none, .pc 34 23 [.s 33] 0⟩,
       ⟨none, .mvs 32 34⟩,
       ⟨none, .ext 35 32 0⟩,
       ⟨none, .ext 36 32 1⟩,
       ⟨none, .stb 5 0 6 (.s 35)⟩,
       ⟨none, .set 6 (.mov (.s 36))⟩])
      .skip))
     (.seq (.seq (.reg [⟨none, .set 37 (.mov (.s 6))⟩,
      ⟨none, .set 38 (.un .not (.s 37))⟩])
     (.cond (.s 38) (.reg [⟨none, .set 40 (.ldb 1 0 6 true)⟩,
       ⟨none, .pc 41 24 [.s 40] 0⟩,
       ⟨none, .mvs 39 41⟩,
       ⟨none, .ext 42 39 0⟩,
       ⟨none, .ext 43 39 1⟩,
       ⟨none, .stb 5 0 6 (.s 42)⟩,
       ⟨none, .set 6 (.mov (.s 43))⟩])
      .skip))
     (.seq (.seq (.reg [⟨none, .set 44 (.mov (.s 6))⟩,
      ⟨none, .set 45 (.un .not (.s 44))⟩])
     (.cond (.s 45) (.reg [⟨none, .set 47 (.ldb 1 0 6 true)⟩,
       ⟨none, .pc 48 25 [.s 47] 0⟩,
       ⟨none, .mvs 46 48⟩,
       ⟨none, .ext 49 46 0⟩,
       ⟨none, .ext 50 46 1⟩,
       ⟨none, .stb 5 0 6 (.s 49)⟩,
       ⟨none, .set 6 (.mov (.s 50))⟩])
      .skip))
     (.seq (.seq (.reg [⟨none, .set 51 (.mov (.s 6))⟩,
      ⟨none, .set 52 (.un .not (.s 51))⟩])
     (.cond (.s 52) (.seq (.reg [⟨none, .set 53 (.ldb 1 0 6 true)⟩,
       ⟨none, .stb 2 0 6 (.s 53)⟩])
      .ret)
      .skip))
     (.reg [⟨none, .set 54 (.ldb 5 0 6 true)⟩,
      ⟨none, .stb 1 0 6 (.s 54)⟩]))))))))))))) }
/-- synchrony/synchronyref06.Size -/
def c10 : AF := { nt := 21, res := [.s 2], body := (.seq (.reg [⟨none, .bxv 1 (.s 0)⟩,
   ⟨none, .set 2 (.mov (.k (.i .i64 0)))⟩])
  (.seq (.reg [⟨none, .set 3 (.mov (.k (.i .i64 1)))⟩])
  (.seq (.seq (.reg [⟨none, .set 4 (.mov (.k (.i .i64 0)))⟩])
  (.block 0 (.loop [false, true, false, true, true, false, false, false, false, false, false, false, false, false, false, false, false, false, false, false, false] (.seq (.seq (.reg [⟨none, .set 5 (.mov (.s 4))⟩,
     ⟨none, .fp 6 1 5⟩,
     ⟨none, .set 7 (.ldb 1 5 1 false)⟩,
     ⟨none, .set 8 (.len false (.s 7))⟩,
     ⟨none, .set 9 (.bin .lss (.s 5) (.s 8))⟩])
    (.cond (.s 9) .skip
     (.exit 0)))
    (.seq (.block 1 (.reg [⟨none, .set 12 (.mov (.s 3))⟩,
      ⟨none, .fp 13 1 5⟩,
      ⟨none, .set 14 (.ldb 1 5 1 false)⟩,
      ⟨none, .set 15 (.mov (.s 4))⟩,
      ⟨none, .set 16 (.iad (.s 14) (.s 15) 6)⟩,
      ⟨none, .set 17 (.ld (.s 16) 6 true)⟩,
      ⟨none, .pc 18 10 [.s 17] 0⟩,
      ⟨none, .set 19 (.bin .add (.s 12) (.s 18))⟩,
      ⟨none, .set 3 (.mov (.s 19))⟩]))
    (.reg [⟨none, .set 10 (.mov (.s 4))⟩,
     ⟨none, .set 11 (.bin .add (.s 10) (.k (.i .i64 1)))⟩,
     ⟨none, .set 4 (.mov (.s 11))⟩]))))))
  (.seq (.reg [⟨none, .set 20 (.mov (.s 3))⟩,
   ⟨none, .set 2 (.mov (.s 20))⟩])
  .ret)))) }
/-- synchrony/synchronylaw20.op -/
def c11 : AF := { nt := 8, res := [.c 4 6 true], body := (.seq (.reg [⟨none, .bxn 4 [.i .i64 0, .i .i64 0, .i .i64 0, .i .i64 0, .s [], .ns]⟩])
  (.seq (.reg [⟨none, .set 5 (.mov (.s 0))⟩,
   ⟨none, .mvs 6 1⟩,
   ⟨none, .set 7 (.bld [.i .i64 0, .i .i64 0, .i .i64 0, .i .i64 0, .s [], .ns] [(0, 1, .k (.i .i64 3)), (1, 1, .s 5), (5, 1, .s 6)])⟩,
   ⟨none, .stb 4 0 6 (.s 7)⟩])
  .ret)) }
/-- synchrony/value.Result -/
def c12 : AF := { nt := 50, res := [.s 4, .s 5], body := (.seq (.reg [⟨none, .set 4 (.mov (.k (.i .i64 0)))⟩,
   ⟨none, .set 5 (.mov (.k (.i .i64 0)))⟩])
  (.seq (.reg [⟨none, .set 11 (.mov (.s 0))⟩,
   ⟨none, .pc 12 26 [.s 11] 0⟩,
   ⟨none, .mvs 10 12⟩,
   ⟨none, .ext 13 10 0⟩,
   ⟨none, .ext 14 10 1⟩,
   ⟨none, .set 6 (.mov (.s 13))⟩,
   ⟨none, .set 7 (.mov (.s 14))⟩])
  (.seq (.block 0 (.seq (.reg [⟨none, .set 16 (.mov (.s 6))⟩,
    ⟨none, .set 17 (.bin .eql (.s 16) (.k (.i .i64 0)))⟩,
    ⟨none, .set 15 (.mov (.s 17))⟩])
   (.cond (.s 15) (.seq (.reg [⟨none, .set 4 (.mov (.k (.i .i64 0)))⟩,
     ⟨none, .set 5 (.mov (.k (.i .i64 2)))⟩])
    .ret)
    (.seq (.reg [⟨none, .set 19 (.mov (.s 1))⟩,
     ⟨none, .set 20 (.len false (.s 19))⟩,
     ⟨none, .set 21 (.mov (.s 7))⟩,
     ⟨none, .set 22 (.bin .neq (.s 20) (.s 21))⟩,
     ⟨none, .set 18 (.mov (.s 22))⟩])
    (.cond (.s 18) (.seq (.reg [⟨none, .set 4 (.mov (.k (.i .i64 0)))⟩,
      ⟨none, .set 5 (.mov (.k (.i .i64 9)))⟩])
     .ret)
     .skip)))))
  (.seq (.seq (.reg [⟨none, .set 23 (.mov (.s 1))⟩,
   ⟨none, .set 24 (.len false (.s 23))⟩,
   ⟨none, .set 25 (.mov (.k (.i .i64 0)))⟩])
  (.block 1 (.loop [false, true, false, false, false, false, true, false, false, false, false, false, false, false, false, false, false, false, false, false, false, false, false, true, true, true, false, false, false, false, false, false, false, false, false, false, false, false, false, false, false, false, false, false, false, false, false, false, false, false] (.seq (.reg [⟨none, .set 26 (.bin .lss (.s 25) (.s 24))⟩])
    (.seq (.cond (.s 26) .skip
     (.exit 1))
    (.seq (.block 2 (.seq (.reg [⟨none, .set 27 (.iad (.s 23) (.s 25) 1)⟩,
      ⟨none, .set 28 (.ld (.s 27) 1 false)⟩,
      ⟨none, .set 9 (.mov (.s 28))⟩])
     (.seq (.reg [⟨none, .set 29 (.mov (.s 6))⟩])
     (.block 3 (.seq (.reg [⟨none, .set 33 (.bin .eql (.s 29) (.k (.i .i64 1)))⟩,
       ⟨none, .set 32 (.mov (.s 33))⟩])
      (.cond (.s 32) (.seq (.reg [⟨none, .set 34 (.mov (.s 9))⟩,
        ⟨none, .set 35 (.bin .neq (.s 34) (.k (.i .i64 1)))⟩])
       (.cond (.s 35) (.seq (.reg [⟨none, .set 4 (.mov (.k (.i .i64 0)))⟩,
         ⟨none, .set 5 (.mov (.k (.i .i64 10)))⟩])
        .ret)
        .skip))
       (.seq (.reg [⟨none, .set 37 (.bin .eql (.s 29) (.k (.i .i64 3)))⟩,
        ⟨none, .set 36 (.mov (.s 37))⟩])
       (.cond (.s 36) (.seq (.reg [⟨none, .set 38 (.mov (.s 9))⟩,
         ⟨none, .set 39 (.mov (.s 1))⟩,
         ⟨none, .set 40 (.iad (.s 39) (.k (.i .i64 0)) 1)⟩,
         ⟨none, .set 41 (.ld (.s 40) 1 false)⟩,
         ⟨none, .set 42 (.bin .neq (.s 38) (.s 41))⟩,
         ⟨none, .set 43 (.mov (.s 42))⟩,
         ⟨some (43, false), .set 44 (.mov (.s 9))⟩,
         ⟨some (43, false), .set 45 (.bin .lss (.s 44) (.k (.i .i64 1)))⟩,
         ⟨none, .set 46 (.pick (.s 43) (.k (.b true)) (.s 45))⟩])
        (.cond (.s 46) (.seq (.reg [⟨none, .set 4 (.mov (.k (.i .i64 0)))⟩,
          ⟨none, .set 5 (.mov (.k (.i .i64 10)))⟩])
         .ret)
         .skip))
        (.seq (.reg [⟨none, .set 30 (.mov (.s 9))⟩,
         ⟨none, .set 31 (.bin .neq (.s 30) (.k (.i .i64 2)))⟩])
        (.cond (.s 31) (.seq (.reg [⟨none, .set 4 (.mov (.k (.i .i64 0)))⟩,
          ⟨none, .set 5 (.mov (.k (.i .i64 10)))⟩])
         .ret)
         .skip))))))))))
    (.reg [⟨none, .set 47 (.bin .add (.s 25) (.k (.i .i64 1)))⟩,
     ⟨none, .set 25 (.mov (.s 47))⟩])))))))
  (.seq (.seq (.reg [⟨none, .set 48 (.mov (.s 6))⟩,
   ⟨none, .set 49 (.bin .eql (.s 48) (.k (.i .i64 2)))⟩])
  (.cond (.s 49) (.seq (.reg [⟨none, .set 4 (.mov (.k (.i .i64 2)))⟩,
    ⟨none, .set 5 (.mov (.k (.i .i64 0)))⟩])
   .ret)
   .skip))
  (.seq (.reg [⟨none, .set 4 (.mov (.k (.i .i64 1)))⟩,
   ⟨none, .set 5 (.mov (.k (.i .i64 0)))⟩])
  .ret)))))) }
/-- synchrony/value.Apply -/
def c13 : AF := { nt := 74, res := [.s 4, .s 5], body := (.seq (.reg [⟨none, .set 4 (.mov (.k (.i .i64 0)))⟩,
   ⟨none, .set 5 (.mov (.k (.i .i64 0)))⟩])
  (.seq (.reg [⟨none, .set 13 (.mov (.s 0))⟩,
   ⟨none, .pc 14 26 [.s 13] 0⟩,
   ⟨none, .mvs 12 14⟩,
   ⟨none, .ext 15 12 0⟩,
   ⟨none, .ext 16 12 1⟩,
   ⟨none, .set 6 (.mov (.s 15))⟩,
   ⟨none, .set 7 (.mov (.s 16))⟩])
  (.seq (.block 0 (.seq (.reg [⟨none, .set 18 (.mov (.s 6))⟩,
    ⟨none, .set 19 (.bin .eql (.s 18) (.k (.i .i64 0)))⟩,
    ⟨none, .set 17 (.mov (.s 19))⟩])
   (.cond (.s 17) (.seq (.reg [⟨none, .set 4 (.mov (.k (.i .i64 0)))⟩,
     ⟨none, .set 5 (.mov (.k (.i .i64 2)))⟩])
    .ret)
    (.seq (.reg [⟨none, .set 21 (.mov (.s 1))⟩,
     ⟨none, .set 22 (.len false (.s 21))⟩,
     ⟨none, .set 23 (.mov (.s 7))⟩,
     ⟨none, .set 24 (.bin .neq (.s 22) (.s 23))⟩,
     ⟨none, .set 20 (.mov (.s 24))⟩])
    (.cond (.s 20) (.seq (.reg [⟨none, .set 4 (.mov (.k (.i .i64 0)))⟩,
      ⟨none, .set 5 (.mov (.k (.i .i64 9)))⟩])
     .ret)
     .skip)))))
  (.seq (.seq (.reg [⟨none, .set 25 (.mov (.s 1))⟩,
   ⟨none, .set 26 (.len false (.s 25))⟩,
   ⟨none, .set 27 (.mov (.k (.i .i64 0)))⟩])
  (.block 1 (.loop [true, true, false, false, false, false, true, true, false, false, false, false, false, false, false, false, false, false, false, false, false, false, false, false, false, true, true, true, false, false, false, false, false, false, false, false, false, false, false, false, false, false, false, false, false, false, false, false, false, false, false, false, false, false, false, false, false, false, false, false, false, false, false, false, false, false, false, false, false, false, false, false, false, false] (.seq (.reg [⟨none, .set 28 (.bin .lss (.s 27) (.s 26))⟩])
    (.seq (.cond (.s 28) .skip
     (.exit 1))
    (.seq (.block 2 (.seq (.reg [⟨none, .set 29 (.iad (.s 25) (.s 27) 1)⟩,
      ⟨none, .set 30 (.ld (.s 29) 1 false)⟩,
      ⟨none, .set 9 (.mov (.s 30))⟩])
     (.seq (.reg [⟨none, .set 31 (.mov (.s 6))⟩,
      ⟨none, .set 32 (.bin .eql (.s 31) (.k (.i .i64 1)))⟩,
      ⟨none, .set 33 (.mov (.s 32))⟩,
      ⟨some (33, true), .set 34 (.mov (.s 9))⟩,
      ⟨some (33, true), .set 35 (.bin .neq (.s 34) (.k (.i .i64 0)))⟩,
      ⟨none, .set 36 (.pick (.s 33) (.s 35) (.k (.b false)))⟩,
      ⟨none, .set 37 (.mov (.s 36))⟩,
      ⟨some (37, true), .set 38 (.mov (.s 9))⟩,
      ⟨some (37, true), .set 39 (.bin .neq (.s 38) (.k (.i .i64 1)))⟩,
      ⟨none, .set 40 (.pick (.s 37) (.s 39) (.k (.b false)))⟩,
      ⟨none, .set 41 (.mov (.s 40))⟩,
      ⟨some (41, false), .set 42 (.mov (.s 6))⟩,
      ⟨some (41, false), .set 43 (.bin .eql (.s 42) (.k (.i .i64 2)))⟩,
      ⟨some (41, false), .set 44 (.mov (.s 43))⟩,
      ⟨some (44, false), .set 45 (.mov (.s 6))⟩,
      ⟨some (44, false), .set 46 (.bin .eql (.s 45) (.k (.i .i64 4)))⟩,
      ⟨some (41, false), .set 47 (.pick (.s 44) (.k (.b true)) (.s 46))⟩,
      ⟨some (41, false), .set 48 (.mov (.s 47))⟩,
      ⟨some (48, true), .set 49 (.mov (.s 9))⟩,
      ⟨some (48, true), .pc 50 27 [.s 49] 0⟩,
      ⟨some (48, true), .set 51 (.un .not (.s 50))⟩,
      ⟨some (41, false), .set 52 (.pick (.s 48) (.s 51) (.k (.b false)))⟩,
      ⟨none, .set 53 (.pick (.s 41) (.k (.b true)) (.s 52))⟩])
     (.cond (.s 53) (.seq (.reg [⟨none, .set 4 (.mov (.k (.i .i64 0)))⟩,
       ⟨none, .set 5 (.mov (.k (.i .i64 14)))⟩])
      .ret)
      .skip))))
    (.reg [⟨none, .set 54 (.bin .add (.s 27) (.k (.i .i64 1)))⟩,
     ⟨none, .set 27 (.mov (.s 54))⟩])))))))
  (.seq (.drw [⟨none, .set 55 (.mov (.s 1))⟩,
   ⟨none, .set 56 (.iad (.s 55) (.k (.i .i64 0)) 1)⟩,
   ⟨none, .set 57 (.ld (.s 56) 1 false)⟩,
   ⟨none, .set 58 (.mov (.s 1))⟩,
   ⟨none, .set 59 (.mov (.s 7))⟩,
   ⟨none, .set 60 (.bin .sub (.s 59) (.k (.i .i64 1)))⟩,
   ⟨none, .set 61 (.iad (.s 58) (.s 60) 1)⟩,
   ⟨none, .set 62 (.ld (.s 61) 1 false)⟩,
   ⟨none, .set 10 (.mov (.s 57))⟩,
   ⟨none, .set 11 (.mov (.s 62))⟩])
  (.seq (.seq (.reg [⟨none, .set 63 (.mov (.s 6))⟩,
   ⟨none, .set 64 (.bin .eql (.s 63) (.k (.i .i64 2)))⟩])
  (.cond (.s 64) (.seq (.reg [⟨none, .set 65 (.mov (.s 0))⟩,
    ⟨none, .set 66 (.mov (.s 10))⟩,
    ⟨none, .set 67 (.mov (.s 11))⟩,
    ⟨none, .pc 68 28 [.s 65, .s 66, .s 67] 0⟩,
    ⟨none, .set 4 (.mov (.s 68))⟩,
    ⟨none, .set 5 (.mov (.k (.i .i64 0)))⟩])
   .ret)
   .skip))
  (.seq (.reg [⟨none, .set 69 (.mov (.s 0))⟩,
   ⟨none, .set 70 (.mov (.s 10))⟩,
   ⟨none, .set 71 (.mov (.s 11))⟩,
   ⟨none, .pc 72 30 [.s 69, .s 70, .s 71] 0⟩,
   ⟨none, .pc 73 29 [.s 72] 0⟩,
   ⟨none, .set 4 (.mov (.s 73))⟩,
   ⟨none, .set 5 (.mov (.k (.i .i64 0)))⟩])
  .ret))))))) }
/-- synchrony/synchronyref20.Is -/
def c14 : AF := { nt := 22, res := [.s 6], body := (.seq (.reg [⟨none, .bxv 3 (.s 0)⟩,
   ⟨none, .set 6 (.mov (.k (.b false)))⟩])
  (.seq (.reg [⟨none, .fp 7 3 0⟩,
   ⟨none, .set 8 (.ldb 3 0 1 false)⟩,
   ⟨none, .set 9 (.bin .eql (.s 8) (.k (.i .i64 1)))⟩,
   ⟨none, .set 10 (.mov (.s 9))⟩,
   ⟨some (10, true), .fp 11 3 2⟩,
   ⟨some (10, true), .set 12 (.ldb 3 2 1 false)⟩,
   ⟨some (10, true), .set 13 (.mov (.s 1))⟩,
   ⟨some (10, true), .set 14 (.bin .eql (.s 12) (.s 13))⟩,
   ⟨none, .set 15 (.pick (.s 10) (.s 14) (.k (.b false)))⟩,
   ⟨none, .set 16 (.mov (.s 15))⟩,
   ⟨some (16, true), .fp 17 3 3⟩,
   ⟨some (16, true), .set 18 (.ldb 3 3 1 false)⟩,
   ⟨some (16, true), .set 19 (.mov (.s 2))⟩,
   ⟨some (16, true), .set 20 (.bin .eql (.s 18) (.s 19))⟩,
   ⟨none, .set 21 (.pick (.s 16) (.s 20) (.k (.b false)))⟩,
   ⟨none, .set 6 (.mov (.s 21))⟩])
  .ret)) }
/-- synchrony/synchronylaw20.variable -/
def c15 : AF := { nt := 5, res := [.c 2 6 true], body := (.seq (.reg [⟨none, .bxn 2 [.i .i64 0, .i .i64 0, .i .i64 0, .i .i64 0, .s [], .ns]⟩])
  (.seq (.reg [⟨none, .set 3 (.mov (.s 0))⟩,
   ⟨none, .set 4 (.bld [.i .i64 0, .i .i64 0, .i .i64 0, .i .i64 0, .s [], .ns] [(0, 1, .k (.i .i64 2)), (4, 1, .s 3)])⟩,
   ⟨none, .stb 2 0 6 (.s 4)⟩])
  .ret)) }
/-- synchrony/synchronylaw20.number -/
def c16 : AF := { nt := 5, res := [.c 2 6 true], body := (.seq (.reg [⟨none, .bxn 2 [.i .i64 0, .i .i64 0, .i .i64 0, .i .i64 0, .s [], .ns]⟩])
  (.seq (.reg [⟨none, .set 3 (.mov (.s 0))⟩,
   ⟨none, .set 4 (.bld [.i .i64 0, .i .i64 0, .i .i64 0, .i .i64 0, .s [], .ns] [(0, 1, .k (.i .i64 1)), (2, 1, .k (.i .i64 2)), (3, 1, .s 3)])⟩,
   ⟨none, .stb 2 0 6 (.s 4)⟩])
  .ret)) }
/-- synchrony/synchronylaw20.def -/
def c17 : AF := { nt := 9, res := [.c 4 13 true], body := (.seq (.reg [⟨none, .bxv 3 (.s 1)⟩,
   ⟨none, .bxn 4 [.i .i64 0, .ns, .i .i64 0, .i .i64 0, .i .i64 0, .i .i64 0, .s [], .ns, .i .i64 0, .s [], .ns, .s [], .ns]⟩])
  (.seq (.reg [⟨none, .set 5 (.mov (.s 0))⟩,
   ⟨none, .bsl 6 1 [.s 5]⟩,
   ⟨none, .set 7 (.ldb 3 0 6 true)⟩,
   ⟨none, .set 8 (.bld [.i .i64 0, .ns, .i .i64 0, .i .i64 0, .i .i64 0, .i .i64 0, .s [], .ns, .i .i64 0, .s [], .ns, .s [], .ns] [(0, 1, .k (.i .i64 1)), (1, 1, .s 6), (2, 6, .s 7)])⟩,
   ⟨none, .stb 4 0 13 (.s 8)⟩])
  .ret)) }
/-- synchrony/simp.Consts -/
def c18 : AF := { nt := 56, res := [.c 2 5 true], body := (.seq (.reg [⟨none, .bxv 1 (.s 0)⟩,
   ⟨none, .bxn 2 [.s [], .ns, .ns, .ns, .ns]⟩])
  (.seq (.reg [⟨none, .set 6 (.ldb 1 0 5 true)⟩,
   ⟨none, .pc 7 31 [.s 6] 0⟩,
   ⟨none, .stb 1 0 5 (.s 7)⟩])
  (.block 0 (.loop [false, true, true, false, false, false, false, false, false, false, false, false, false, false, false, false, false, false, false, false, false, false, false, false, false, false, false, false, false, false, false, false, false, false, false, false, false, false, false, false, false, false, false, false, false, false, false, false, false, false, false, false, false, false, false, false] (.block 1 (.seq (.reg [⟨none, .set 8 (.ldb 1 0 5 true)⟩,
      ⟨none, .pc 9 32 [.s 8, .k (.fn 7 [])] 0⟩,
      ⟨none, .bxn 3 [.s [], .ns, .ns, .ns, .ns]⟩,
      ⟨none, .stb 3 0 5 (.s 9)⟩])
     (.seq (.seq (.reg [⟨none, .fp 10 3 4⟩,
      ⟨none, .set 11 (.ldb 3 4 1 false)⟩,
      ⟨none, .set 12 (.len false (.s 11))⟩,
      ⟨none, .set 13 (.mov (.k (.i .i64 0)))⟩])
     (.block 2 (.loop [false, true, true, true, false, false, false, false, false, false, false, true, true, true, false, false, false, false, false, false, false, false, false, false, false, false, false, false, false, false, false, false, false, false, false, false, false, false, false, false, false, false, false, false, false, false, false, false, false, false, false, false, false, false, false, false] (.seq (.reg [⟨none, .set 14 (.bin .lss (.s 13) (.s 12))⟩])
       (.seq (.cond (.s 14) .skip
        (.exit 2))
       (.seq (.block 3 (.seq (.reg [⟨none, .set 15 (.mov (.s 13))⟩,
         ⟨none, .set 16 (.iad (.s 11) (.s 13) 13)⟩,
         ⟨none, .set 17 (.ld (.s 16) 13 true)⟩,
         ⟨none, .bxn 5 [.i .i64 0, .ns, .i .i64 0, .i .i64 0, .i .i64 0, .i .i64 0, .s [], .ns, .i .i64 0, .s [], .ns, .s [], .ns]⟩,
         ⟨none, .set 4 (.mov (.s 15))⟩,
         ⟨none, .stb 5 0 13 (.s 17)⟩])
        (.seq (.reg [⟨none, .fp 18 5 0⟩,
         ⟨none, .set 19 (.ldb 5 0 1 false)⟩,
         ⟨none, .set 20 (.bin .eql (.s 19) (.k (.i .i64 2)))⟩,
         ⟨none, .set 21 (.mov (.s 20))⟩,
         ⟨some (21, true), .fp 22 5 2⟩,
         ⟨some (21, true), .fp 23 5 2⟩,
         ⟨some (21, true), .set 24 (.ldb 5 2 1 false)⟩,
         ⟨some (21, true), .set 25 (.bin .eql (.s 24) (.k (.i .i64 1)))⟩,
         ⟨none, .set 26 (.pick (.s 21) (.s 25) (.k (.b false)))⟩,
         ⟨none, .set 27 (.mov (.s 26))⟩,
         ⟨some (27, true), .fp 28 5 2⟩,
         ⟨some (27, true), .fp 29 5 5⟩,
         ⟨some (27, true), .set 30 (.ldb 5 5 1 false)⟩,
         ⟨some (27, true), .fp 31 5 8⟩,
         ⟨some (27, true), .set 32 (.ldb 5 8 1 false)⟩,
         ⟨some (27, true), .set 33 (.bin .eql (.s 30) (.s 32))⟩,
         ⟨none, .set 34 (.pick (.s 27) (.s 33) (.k (.b false)))⟩])
        (.cond (.s 34) (.drw [⟨none, .fp 35 3 4⟩,
          ⟨none, .set 36 (.ldb 3 4 1 false)⟩,
          ⟨none, .set 37 (.mov (.s 4))⟩,
          ⟨none, .fp 38 3 4⟩,
          ⟨none, .set 39 (.ldb 3 4 1 false)⟩,
          ⟨none, .set 40 (.mov (.s 4))⟩,
          ⟨none, .set 41 (.iad (.s 36) (.s 37) 13)⟩,
          ⟨none, .set 42 (.fad (.s 41) 0)⟩,
          ⟨none, .stp (.s 42) 1 (.k (.i .i64 1))⟩,
          ⟨none, .set 43 (.iad (.s 39) (.s 40) 13)⟩,
          ⟨none, .set 44 (.fad (.s 43) 8)⟩,
          ⟨none, .stp (.s 44) 1 (.k (.i .i64 0))⟩])
         .skip))))
       (.reg [⟨none, .set 45 (.bin .add (.s 13) (.k (.i .i64 1)))⟩,
        ⟨none, .set 13 (.mov (.s 45))⟩])))))))
     (.seq (.drw [⟨none, .set 46 (.ldb 3 0 5 true)⟩,
      ⟨none, .set 47 (.ldb 3 0 5 true)⟩,
      ⟨none, .tc 48 34 [.s 47, .k (.fn 35 [])] none 2⟩,
      ⟨none, .tc 49 33 [.s 48] none 2⟩,
      ⟨none, .tc 50 32 [.s 46, .s 49] none 0⟩,
      ⟨none, .stb 3 0 5 (.s 50)⟩])
     (.seq (.seq (.reg [⟨none, .set 51 (.ldb 3 0 5 true)⟩,
      ⟨none, .set 52 (.ldb 1 0 5 true)⟩,
      ⟨none, .pc 53 36 [.s 51, .s 52] 0⟩])
     (.cond (.s 53) (.seq (.reg [⟨none, .set 54 (.ldb 3 0 5 true)⟩,
       ⟨none, .stb 2 0 5 (.s 54)⟩])
      .ret)
      .skip))
     (.reg [⟨none, .set 55 (.ldb 3 0 5 true)⟩,
      ⟨none, .stb 1 0 5 (.s 55)⟩])))))))))) }
/-- synchrony/simp.Dead -/
def c19 : AF := { nt := 137, res := [.c 2 5 true], body := (.seq (.reg [⟨none, .bxv 1 (.s 0)⟩,
   ⟨none, .bxn 2 [.s [], .ns, .ns, .ns, .ns]⟩])
  (.seq (.reg [⟨none, .set 23 (.ldb 1 0 5 true)⟩,
   ⟨none, .pc 24 31 [.s 23] 0⟩,
   ⟨none, .stb 1 0 5 (.s 24)⟩])
  (.seq (.reg [⟨none, .mkm 25⟩,
   ⟨none, .hpn 3 [.nm]⟩,
   ⟨none, .stp (.s 3) 1 (.s 25)⟩])
  (.seq (.seq (.reg [⟨none, .fp 26 1 2⟩,
   ⟨none, .set 27 (.ldb 1 2 1 false)⟩,
   ⟨none, .set 28 (.len false (.s 27))⟩,
   ⟨none, .set 29 (.mov (.k (.i .i64 0)))⟩])
  (.block 0 (.loop [false, true, true, true, false, false, false, false, false, false, false, false, false, false, false, false, false, false, false, false, false, false, false, false, false, false, false, true, true, true, false, false, false, false, false, false, false, false, false, false, false, false, false, false, false, false, false, false, false, false, false, false, false, false, false, false, false, false, false, false, false, false, false, false, false, false, false, false, false, false, false, false, false, false, false, false, false, false, false, false, false, false, false, false, false, false, false, false, false, false, false, false, false, false, false, false, false, false, false, false, false, false, false, false, false, false, false, false, false, false, false, false, false, false, false, false, false, false, false, false, false, false, false, false, false, false, false, false, false, false, false, false, false, false, false, false, false] (.seq (.reg [⟨none, .set 30 (.bin .lss (.s 29) (.s 28))⟩])
    (.seq (.cond (.s 30) .skip
     (.exit 0))
    (.seq (.block 1 (.seq (.reg [⟨none, .set 31 (.iad (.s 27) (.s 29) 3)⟩,
      ⟨none, .set 32 (.ld (.s 31) 3 true)⟩,
      ⟨none, .bxn 5 [.s [], .i .i64 0, .ns]⟩,
      ⟨none, .stb 5 0 3 (.s 32)⟩])
     (.reg [⟨none, .set 33 (.ld (.s 3) 1 false)⟩,
      ⟨none, .fp 34 5 0⟩,
      ⟨none, .set 35 (.ldb 5 0 1 false)⟩,
      ⟨none, .mst (.s 33) (.s 35) (.k (.b true)) .s⟩])))
    (.reg [⟨none, .set 36 (.bin .add (.s 29) (.k (.i .i64 1)))⟩,
     ⟨none, .set 29 (.mov (.s 36))⟩])))))))
  (.seq (.reg [⟨none, .set 37 (.mkf 37 [.s 3])⟩,
   ⟨none, .set 6 (.mov (.s 37))⟩])
  (.seq (.reg [⟨none, .fp 38 1 4⟩,
   ⟨none, .set 39 (.ldb 1 4 1 false)⟩,
   ⟨none, .set 40 (.len false (.s 39))⟩,
   ⟨none, .mks 41 (.s 40) 1 1 [.b false]⟩,
   ⟨none, .mvs 7 41⟩])
  (.seq (.seq (.reg [⟨none, .set 8 (.mov (.k (.b true)))⟩])
  (.block 2 (.loop [false, true, true, true, false, false, true, true, true, false, false, false, false, false, false, false, false, false, false, false, false, false, false, false, false, false, false, false, false, false, false, false, false, false, false, false, false, false, false, false, false, false, false, false, false, false, false, false, false, false, false, false, false, false, false, false, false, false, false, false, false, false, false, false, false, false, false, false, false, false, false, false, false, false, false, false, false, false, false, false, false, false, false, false, false, false, false, false, false, false, false, false, false, false, false, false, false, false, false, false, false, false, false, false, false, false, false, false, false, false, false, false, false, false, false, false, false, false, false, false, false, false, false, false, false, false, false, false, false, false, false, false, false, false, false, false, false] (.seq (.seq (.reg [⟨none, .set 42 (.mov (.s 8))⟩])
    (.cond (.s 42) .skip
     (.exit 2)))
    (.block 3 (.seq (.reg [⟨none, .set 8 (.mov (.k (.b false)))⟩])
     (.seq (.reg [⟨none, .fp 43 1 4⟩,
      ⟨none, .set 44 (.ldb 1 4 1 false)⟩,
      ⟨none, .set 45 (.len false (.s 44))⟩,
      ⟨none, .set 46 (.mov (.k (.i .i64 0)))⟩])
     (.block 4 (.loop [false, true, true, true, false, false, true, true, true, false, false, false, false, false, false, false, false, false, false, false, false, false, false, false, false, false, false, false, false, false, false, false, false, false, false, false, false, false, false, false, false, false, false, false, true, true, true, false, false, false, false, false, false, false, false, false, false, false, false, false, false, false, false, false, false, false, false, false, false, false, false, false, false, false, false, false, false, false, false, false, false, false, false, false, false, false, false, false, false, false, false, false, false, false, false, false, false, false, false, false, false, false, false, false, false, false, false, false, false, false, false, false, false, false, false, false, false, false, false, false, false, false, false, false, false, false, false, false, false, false, false, false, false, false, false, false, false] (.seq (.reg [⟨none, .set 47 (.bin .lss (.s 46) (.s 45))⟩])
       (.seq (.cond (.s 47) .skip
        (.exit 4))
       (.seq (.block 5 (.seq (.reg [⟨none, .set 48 (.mov (.s 46))⟩,
         ⟨none, .set 49 (.iad (.s 44) (.s 46) 13)⟩,
         ⟨none, .set 50 (.ld (.s 49) 13 true)⟩,
         ⟨none, .bxn 10 [.i .i64 0, .ns, .i .i64 0, .i .i64 0, .i .i64 0, .i .i64 0, .s [], .ns, .i .i64 0, .s [], .ns, .s [], .ns]⟩,
         ⟨none, .set 9 (.mov (.s 48))⟩,
         ⟨none, .stb 10 0 13 (.s 50)⟩])
        (.seq (.seq (.reg [⟨none, .set 51 (.mov (.s 7))⟩,
         ⟨none, .set 52 (.mov (.s 9))⟩,
         ⟨none, .set 53 (.iad (.s 51) (.s 52) 1)⟩,
         ⟨none, .set 54 (.ld (.s 53) 1 false)⟩,
         ⟨none, .set 55 (.mov (.s 54))⟩,
         ⟨some (55, false), .fp 56 10 1⟩,
         ⟨some (55, false), .set 57 (.ldb 10 1 1 false)⟩,
         ⟨some (55, false), .set 58 (.mov (.s 6))⟩,
         ⟨some (55, false), .tc 59 38 [.s 57, .s 58] none 0⟩,
         ⟨some (55, false), .set 60 (.un .not (.s 59))⟩,
         ⟨none, .set 61 (.pick (.s 55) (.k (.b true)) (.s 60))⟩])
        (.cond (.s 61) (.exit 5)
         .skip))
        (.seq (.reg [⟨none, .set 62 (.mov (.s 7))⟩,
         ⟨none, .set 63 (.mov (.s 9))⟩,
         ⟨none, .set 64 (.iad (.s 62) (.s 63) 1)⟩,
         ⟨none, .stp (.s 64) 1 (.k (.b true))⟩,
         ⟨none, .set 8 (.mov (.k (.b true)))⟩])
        (.seq (.seq (.reg [⟨none, .set 65 (.ldb 10 0 13 true)⟩,
         ⟨none, .pc 66 39 [.s 65] 0⟩,
         ⟨none, .set 67 (.len false (.s 66))⟩,
         ⟨none, .set 68 (.mov (.k (.i .i64 0)))⟩])
        (.block 6 (.loop [false, true, true, true, false, false, true, true, true, false, true, false, false, false, false, false, false, false, false, false, false, false, false, false, false, false, false, false, false, false, false, false, false, false, false, false, false, false, false, false, false, false, false, false, true, true, true, false, false, false, false, false, false, false, false, false, false, false, false, false, false, false, false, false, false, false, true, true, true, false, false, false, false, false, false, false, false, false, false, false, false, false, false, false, false, false, false, false, false, false, false, false, false, false, false, false, false, false, false, false, false, false, false, false, false, false, false, false, false, false, false, false, false, false, false, false, false, false, false, false, false, false, false, false, false, false, false, false, false, false, false, false, false, false, false, false, false] (.seq (.reg [⟨none, .set 69 (.bin .lss (.s 68) (.s 67))⟩])
          (.seq (.cond (.s 69) .skip
           (.exit 6))
          (.seq (.block 7 (.seq (.reg [⟨none, .set 70 (.iad (.s 66) (.s 68) 1)⟩,
            ⟨none, .set 71 (.ld (.s 70) 1 false)⟩,
            ⟨none, .set 12 (.mov (.s 71))⟩])
           (.reg [⟨none, .set 72 (.ld (.s 3) 1 false)⟩,
            ⟨none, .set 73 (.mov (.s 12))⟩,
            ⟨none, .mst (.s 72) (.s 73) (.k (.b true)) .s⟩])))
          (.reg [⟨none, .set 74 (.bin .add (.s 68) (.k (.i .i64 1)))⟩,
           ⟨none, .set 68 (.mov (.s 74))⟩])))))))
        (.seq (.reg [⟨none, .fp 75 1 3⟩,
         ⟨none, .set 76 (.ldb 1 3 1 false)⟩,
         ⟨none, .set 77 (.len false (.s 76))⟩,
         ⟨none, .set 78 (.mov (.k (.i .i64 0)))⟩])
        (.block 8 (.loop [false, true, true, true, false, false, true, true, true, false, true, false, false, false, false, false, false, false, false, false, false, false, false, false, false, false, false, false, false, false, false, false, false, false, false, false, false, false, false, false, false, false, false, false, true, true, true, false, false, false, false, false, false, false, false, false, false, false, false, false, false, false, false, false, false, false, false, false, false, false, false, false, false, false, false, false, true, true, true, false, false, false, false, false, false, false, false, false, false, false, false, false, false, false, false, false, false, false, false, false, false, false, false, false, false, false, false, false, false, false, false, false, false, false, false, false, false, false, false, false, false, false, false, false, false, false, false, false, false, false, false, false, false, false, false, false, false] (.seq (.reg [⟨none, .set 79 (.bin .lss (.s 78) (.s 77))⟩])
          (.seq (.cond (.s 79) .skip
           (.exit 8))
          (.seq (.block 9 (.seq (.reg [⟨none, .set 80 (.iad (.s 76) (.s 78) 3)⟩,
            ⟨none, .set 81 (.ld (.s 80) 3 true)⟩,
            ⟨none, .bxn 14 [.s [], .i .i64 0, .ns]⟩,
            ⟨none, .stb 14 0 3 (.s 81)⟩])
           (.seq (.reg [⟨none, .fp 82 10 1⟩,
            ⟨none, .set 83 (.ldb 10 1 1 false)⟩,
            ⟨none, .fp 84 14 0⟩,
            ⟨none, .set 85 (.ldb 14 0 1 false)⟩,
            ⟨none, .pc 86 40 [.s 83, .s 85] 0⟩])
           (.cond (.s 86) (.seq (.reg [⟨none, .fp 87 14 2⟩,
             ⟨none, .set 88 (.ldb 14 2 1 false)⟩,
             ⟨none, .set 89 (.len false (.s 88))⟩,
             ⟨none, .set 90 (.mov (.k (.i .i64 0)))⟩])
            (.block 10 (.loop [false, true, true, true, false, false, true, true, true, false, true, false, false, false, false, false, false, false, false, false, false, false, false, false, false, false, false, false, false, false, false, false, false, false, false, false, false, false, false, false, false, false, false, false, true, true, true, false, false, false, false, false, false, false, false, false, false, false, false, false, false, false, false, false, false, false, false, false, false, false, false, false, false, false, false, false, true, true, true, false, false, false, false, false, false, false, false, false, true, true, true, false, false, false, false, false, false, false, false, false, false, false, false, false, false, false, false, false, false, false, false, false, false, false, false, false, false, false, false, false, false, false, false, false, false, false, false, false, false, false, false, false, false, false, false, false, false] (.seq (.reg [⟨none, .set 91 (.bin .lss (.s 90) (.s 89))⟩])
              (.seq (.cond (.s 91) .skip
               (.exit 10))
              (.seq (.block 11 (.seq (.reg [⟨none, .set 92 (.iad (.s 88) (.s 90) 3)⟩,
                ⟨none, .set 93 (.ld (.s 92) 3 true)⟩,
                ⟨none, .bxn 16 [.s [], .i .i64 0, .i .i64 0]⟩,
                ⟨none, .stb 16 0 3 (.s 93)⟩])
               (.reg [⟨none, .set 94 (.ld (.s 3) 1 false)⟩,
                ⟨none, .fp 95 16 0⟩,
                ⟨none, .set 96 (.ldb 16 0 1 false)⟩,
                ⟨none, .mst (.s 94) (.s 96) (.k (.b true)) .s⟩])))
              (.reg [⟨none, .set 97 (.bin .add (.s 90) (.k (.i .i64 1)))⟩,
               ⟨none, .set 90 (.mov (.s 97))⟩])))))))
            .skip))))
          (.reg [⟨none, .set 98 (.bin .add (.s 78) (.k (.i .i64 1)))⟩,
           ⟨none, .set 78 (.mov (.s 98))⟩]))))))))))))
       (.reg [⟨none, .set 99 (.bin .add (.s 46) (.k (.i .i64 1)))⟩,
        ⟨none, .set 46 (.mov (.s 99))⟩])))))))))))))
  (.seq (.reg [⟨none, .set 17 (.mov (.k (.ns)))⟩])
  (.seq (.reg [⟨none, .mkm 100⟩,
   ⟨none, .hpn 18 [.nm]⟩,
   ⟨none, .stp (.s 18) 1 (.s 100)⟩])
  (.seq (.seq (.reg [⟨none, .fp 101 1 4⟩,
   ⟨none, .set 102 (.ldb 1 4 1 false)⟩,
   ⟨none, .set 103 (.len false (.s 102))⟩,
   ⟨none, .set 104 (.mov (.k (.i .i64 0)))⟩])
  (.block 12 (.loop [false, true, true, false, false, false, false, true, false, false, false, false, false, false, false, false, false, true, true, false, false, false, false, false, false, false, false, false, false, false, false, false, false, false, false, false, false, false, false, false, false, false, false, false, false, false, false, false, false, false, false, false, false, false, false, false, false, false, false, false, false, false, false, false, false, false, false, false, false, false, false, false, false, false, false, false, false, false, false, false, false, false, false, false, false, false, false, false, false, false, false, false, false, false, false, false, false, false, false, false, false, false, true, true, true, false, false, false, false, false, false, false, false, false, false, false, false, false, false, false, false, false, false, false, false, false, false, false, false, false, false, false, false, false, false, false, false] (.seq (.reg [⟨none, .set 105 (.bin .lss (.s 104) (.s 103))⟩])
    (.seq (.cond (.s 105) .skip
     (.exit 12))
    (.seq (.block 13 (.seq (.reg [⟨none, .set 106 (.mov (.s 104))⟩,
      ⟨none, .set 107 (.iad (.s 102) (.s 104) 13)⟩,
      ⟨none, .set 108 (.ld (.s 107) 13 true)⟩,
      ⟨none, .bxn 20 [.i .i64 0, .ns, .i .i64 0, .i .i64 0, .i .i64 0, .i .i64 0, .s [], .ns, .i .i64 0, .s [], .ns, .s [], .ns]⟩,
      ⟨none, .set 19 (.mov (.s 106))⟩,
      ⟨none, .stb 20 0 13 (.s 108)⟩])
     (.seq (.reg [⟨none, .set 109 (.mov (.s 7))⟩,
      ⟨none, .set 110 (.mov (.s 19))⟩,
      ⟨none, .set 111 (.iad (.s 109) (.s 110) 1)⟩,
      ⟨none, .set 112 (.ld (.s 111) 1 false)⟩])
     (.cond (.s 112) (.seq (.reg [⟨none, .mvs 113 17⟩,
       ⟨none, .set 114 (.ldb 20 0 13 true)⟩,
       ⟨none, .bsl 115 13 [.s 114]⟩,
       ⟨none, .app 116 113 none (.s 115) 13 192 true⟩,
       ⟨none, .mvs 17 116⟩])
      (.seq (.reg [⟨none, .fp 117 20 1⟩,
       ⟨none, .set 118 (.ldb 20 1 1 false)⟩,
       ⟨none, .set 119 (.len false (.s 118))⟩,
       ⟨none, .set 120 (.mov (.k (.i .i64 0)))⟩])
      (.block 14 (.loop [false, true, true, false, false, false, false, true, false, false, false, false, false, false, false, false, false, true, true, false, false, false, false, false, false, false, false, false, false, false, false, false, false, false, false, false, false, false, false, false, false, false, false, false, false, false, false, false, false, false, false, false, false, false, false, false, false, false, false, false, false, false, false, false, false, false, false, false, false, false, false, false, false, false, false, false, false, false, false, false, false, false, false, false, false, false, false, false, false, false, false, false, false, false, false, false, false, false, false, false, false, false, true, true, true, false, false, false, false, false, false, false, false, false, false, false, false, false, true, true, true, false, false, false, false, false, false, false, false, false, false, false, false, false, false, false, false] (.seq (.reg [⟨none, .set 121 (.bin .lss (.s 120) (.s 119))⟩])
        (.seq (.cond (.s 121) .skip
         (.exit 14))
        (.seq (.block 15 (.seq (.reg [⟨none, .set 122 (.iad (.s 118) (.s 120) 1)⟩,
          ⟨none, .set 123 (.ld (.s 122) 1 false)⟩,
          ⟨none, .set 22 (.mov (.s 123))⟩])
         (.reg [⟨none, .set 124 (.ld (.s 18) 1 false)⟩,
          ⟨none, .set 125 (.mov (.s 22))⟩,
          ⟨none, .mst (.s 124) (.s 125) (.k (.b true)) .s⟩])))
        (.reg [⟨none, .set 126 (.bin .add (.s 120) (.k (.i .i64 1)))⟩,
         ⟨none, .set 120 (.mov (.s 126))⟩]))))))))
      .skip))))
    (.reg [⟨none, .set 127 (.bin .add (.s 104) (.k (.i .i64 1)))⟩,
     ⟨none, .set 104 (.mov (.s 127))⟩])))))))
  (.seq (.reg [⟨none, .fp 128 1 3⟩,
   ⟨none, .set 129 (.ldb 1 3 1 false)⟩,
   ⟨none, .tc 130 42 [.s 129] none 3⟩,
   ⟨none, .set 131 (.mkf 43 [.s 18])⟩,
   ⟨none, .tc 132 41 [.s 130, .s 131] none 4⟩,
   ⟨none, .fp 133 1 3⟩,
   ⟨none, .stb 1 3 1 (.s 132)⟩])
  (.seq (.reg [⟨none, .mvs 134 17⟩,
   ⟨none, .fp 135 1 4⟩,
   ⟨none, .stb 1 4 1 (.s 134)⟩])
  (.seq (.reg [⟨none, .set 136 (.ldb 1 0 5 true)⟩,
   ⟨none, .stb 2 0 5 (.s 136)⟩])
  .ret))))))))))))) }
/-- synchrony/simp.list -/
def c20 : AF := { nt := 22, res := [.s 4], body := (.seq (.reg [⟨none, .set 4 (.mov (.k (.ns)))⟩])
  (.seq (.reg [⟨none, .set 5 (.mov (.k (.ns)))⟩])
  (.seq (.seq (.reg [⟨none, .mvs 8 0⟩,
   ⟨none, .set 9 (.len false (.s 8))⟩,
   ⟨none, .set 10 (.mov (.k (.i .i64 0)))⟩])
  (.block 0 (.loop [false, true, false, false, false, true, false, false, true, true, true, false, false, false, false, false, false, false, false, false, false, false] (.seq (.reg [⟨none, .set 11 (.bin .lss (.s 10) (.s 9))⟩])
    (.seq (.cond (.s 11) .skip
     (.exit 0))
    (.seq (.block 1 (.seq (.reg [⟨none, .set 12 (.iad (.s 8) (.s 10) 6)⟩,
      ⟨none, .set 13 (.ld (.s 12) 6 true)⟩,
      ⟨none, .bxn 7 [.i .i64 0, .i .i64 0, .i .i64 0, .i .i64 0, .s [], .ns]⟩,
      ⟨none, .stb 7 0 6 (.s 13)⟩])
     (.reg [⟨none, .mvs 14 5⟩,
      ⟨none, .set 15 (.mov (.s 1))⟩,
      ⟨none, .set 16 (.ldb 7 0 6 true)⟩,
      ⟨none, .ct 17 (.s 15) [.s 16] 0⟩,
      ⟨none, .bsl 18 6 [.s 17]⟩,
      ⟨none, .app 19 14 none (.s 18) 6 72 true⟩,
      ⟨none, .mvs 5 19⟩])))
    (.reg [⟨none, .set 20 (.bin .add (.s 10) (.k (.i .i64 1)))⟩,
     ⟨none, .set 10 (.mov (.s 20))⟩])))))))
  (.seq (.reg [⟨none, .mvs 21 5⟩,
   ⟨none, .mvs 4 21⟩])
  .ret)))) }
/-- synchrony/simp.once -/
def c21 : AF := { nt := 66, res := [.c 2 6 true, .s 3], body := (.seq (.reg [⟨none, .bxv 1 (.s 0)⟩,
   ⟨none, .bxn 2 [.i .i64 0, .i .i64 0, .i .i64 0, .i .i64 0, .s [], .ns]⟩,
   ⟨none, .set 3 (.mov (.k (.b false)))⟩])
  (.seq (.seq (.reg [⟨none, .set 11 (.ldb 1 0 6 true)⟩,
   ⟨none, .pc 12 44 [.s 11] 0⟩,
   ⟨none, .mvs 10 12⟩,
   ⟨none, .ext 13 10 0⟩,
   ⟨none, .ext 14 10 1⟩,
   ⟨none, .bxn 4 [.i .i64 0, .i .i64 0, .i .i64 0, .i .i64 0, .s [], .ns]⟩,
   ⟨none, .stb 4 0 6 (.s 13)⟩,
   ⟨none, .set 5 (.mov (.s 14))⟩])
  (.seq (.reg [⟨none, .set 15 (.mov (.s 5))⟩])
  (.cond (.s 15) (.seq (.reg [⟨none, .set 16 (.ldb 4 0 6 true)⟩,
    ⟨none, .stb 2 0 6 (.s 16)⟩,
    ⟨none, .set 3 (.mov (.k (.b true)))⟩])
   .ret)
   .skip)))
  (.seq (.seq (.reg [⟨none, .set 18 (.ldb 1 0 6 true)⟩,
   ⟨none, .pc 19 45 [.s 18] 0⟩,
   ⟨none, .mvs 17 19⟩,
   ⟨none, .ext 20 17 0⟩,
   ⟨none, .ext 21 17 1⟩,
   ⟨none, .bxn 6 [.i .i64 0, .i .i64 0, .i .i64 0, .i .i64 0, .s [], .ns]⟩,
   ⟨none, .stb 6 0 6 (.s 20)⟩,
   ⟨none, .set 7 (.mov (.s 21))⟩])
  (.seq (.reg [⟨none, .set 22 (.mov (.s 7))⟩])
  (.cond (.s 22) (.seq (.reg [⟨none, .set 23 (.ldb 6 0 6 true)⟩,
    ⟨none, .stb 2 0 6 (.s 23)⟩,
    ⟨none, .set 3 (.mov (.k (.b true)))⟩])
   .ret)
   .skip)))
  (.seq (.seq (.reg [⟨none, .set 25 (.ldb 1 0 6 true)⟩,
   ⟨none, .pc 26 46 [.s 25] 0⟩,
   ⟨none, .mvs 24 26⟩,
   ⟨none, .ext 27 24 0⟩,
   ⟨none, .ext 28 24 1⟩,
   ⟨none, .bxn 8 [.i .i64 0, .i .i64 0, .i .i64 0, .i .i64 0, .s [], .ns]⟩,
   ⟨none, .stb 8 0 6 (.s 27)⟩,
   ⟨none, .set 9 (.mov (.s 28))⟩])
  (.seq (.reg [⟨none, .set 29 (.mov (.s 9))⟩])
  (.cond (.s 29) (.seq (.reg [⟨none, .set 30 (.ldb 8 0 6 true)⟩,
    ⟨none, .stb 2 0 6 (.s 30)⟩,
    ⟨none, .set 3 (.mov (.k (.b true)))⟩])
   .ret)
   .skip)))
  (.seq (.seq (.reg [⟨none, .fp 31 1 0⟩,
   ⟨none, .set 32 (.ldb 1 0 1 false)⟩,
   ⟨none, .set 33 (.bin .eql (.s 32) (.k (.i .i64 8)))⟩,
   ⟨none, .set 34 (.mov (.s 33))⟩,
   ⟨some (34, true), .fp 35 1 5⟩,
   ⟨some (34, true), .set 36 (.ldb 1 5 1 false)⟩,
   ⟨some (34, true), .set 37 (.len false (.s 36))⟩,
   ⟨some (34, true), .set 38 (.bin .eql (.s 37) (.k (.i .i64 1)))⟩,
   ⟨none, .set 39 (.pick (.s 34) (.s 38) (.k (.b false)))⟩,
   ⟨none, .set 40 (.mov (.s 39))⟩,
   ⟨some (40, true), .fp 41 1 5⟩,
   ⟨some (40, true), .set 42 (.ldb 1 5 1 false)⟩,
   ⟨some (40, true), .set 43 (.iad (.s 42) (.k (.i .i64 0)) 6)⟩,
   ⟨some (40, true), .set 44 (.fad (.s 43) 0)⟩,
   ⟨some (40, true), .set 45 (.ld (.s 44) 1 false)⟩,
   ⟨some (40, true), .set 46 (.bin .eql (.s 45) (.k (.i .i64 1)))⟩,
   ⟨none, .set 47 (.pick (.s 40) (.s 46) (.k (.b false)))⟩])
  (.cond (.s 47) (.seq (.reg [⟨none, .fp 48 1 5⟩,
    ⟨none, .set 49 (.ldb 1 5 1 false)⟩,
    ⟨none, .set 50 (.iad (.s 49) (.k (.i .i64 0)) 6)⟩,
    ⟨none, .set 51 (.ld (.s 50) 6 true)⟩,
    ⟨none, .stb 2 0 6 (.s 51)⟩,
    ⟨none, .set 3 (.mov (.k (.b true)))⟩])
   .ret)
   .skip))
  (.seq (.reg [⟨none, .set 52 (.ldb 1 0 6 true)⟩,
   ⟨none, .set 53 (.bld [.i .i64 0, .i .i64 0, .i .i64 0, .b false] [(0, 1, .k (.i .i64 3)), (1, 1, .k (.i .i64 1)), (2, 1, .k (.i .i64 1)), (3, 1, .k (.b true))])⟩,
   ⟨none, .set 54 (.bld [.i .i64 0, .i .i64 0, .i .i64 0, .b false] [(0, 1, .k (.i .i64 4)), (1, 1, .k (.i .i64 1)), (2, 1, .k (.i .i64 0)), (3, 1, .k (.b true))])⟩,
   ⟨none, .set 55 (.bld [.i .i64 0, .i .i64 0, .i .i64 0, .b false] [(0, 1, .k (.i .i64 5)), (1, 1, .k (.i .i64 1)), (2, 1, .k (.i .i64 0)), (3, 1, .k (.b true))])⟩,
   ⟨none, .set 56 (.bld [.i .i64 0, .i .i64 0, .i .i64 0, .b false] [(0, 1, .k (.i .i64 6)), (1, 1, .k (.i .i64 2)), (2, 1, .k (.i .i64 0)), (3, 1, .k (.b true))])⟩,
   ⟨none, .set 57 (.bld [.i .i64 0, .i .i64 0, .i .i64 0, .b false] [(0, 1, .k (.i .i64 8)), (1, 1, .k (.i .i64 2)), (2, 1, .k (.i .i64 1)), (3, 1, .k (.b true))])⟩,
   ⟨none, .set 58 (.bld [.i .i64 0, .i .i64 0, .i .i64 0, .b false] [(0, 1, .k (.i .i64 7)), (1, 1, .k (.i .i64 2)), (2, 1, .k (.i .i64 0)), (3, 1, .k (.b false))])⟩,
   ⟨none, .set 59 (.bld [.i .i64 0, .i .i64 0, .i .i64 0, .b false] [(0, 1, .k (.i .i64 9)), (1, 1, .k (.i .i64 2)), (2, 1, .k (.i .i64 1)), (3, 1, .k (.b false))])⟩,
   ⟨none, .set 60 (.bld [.i .i64 0, .i .i64 0, .i .i64 0, .b false] [(0, 1, .k (.i .i64 11)), (1, 1, .k (.i .i64 1)), (2, 1, .k (.i .i64 1)), (3, 1, .k (.b true))])⟩,
   ⟨none, .set 61 (.bld [.i .i64 0, .i .i64 0, .i .i64 0, .b false] [(0, 1, .k (.i .i64 12)), (1, 1, .k (.i .i64 1)), (2, 1, .k (.i .i64 0)), (3, 1, .k (.b true))])⟩,
   ⟨none, .bsl 62 4 [.s 53, .s 54, .s 55, .s 56, .s 57, .s 58, .s 59, .s 60, .s 61]⟩,
   ⟨none, .pc 63 47 [.s 52, .s 62] 0⟩,
   ⟨none, .ext 64 63 0⟩,
   ⟨none, .ext 65 63 1⟩,
   ⟨none, .stb 2 0 6 (.s 64)⟩,
   ⟨none, .set 3 (.mov (.s 65))⟩])
  .ret)))))) }
/-- synchrony/synchronyref20.constant -/
def c22 : AF := { nt := 72, res := [.c 2 6 true, .s 3], body := (.seq (.reg [⟨none, .bxv 1 (.s 0)⟩,
   ⟨none, .bxn 2 [.i .i64 0, .i .i64 0, .i .i64 0, .i .i64 0, .s [], .ns]⟩,
   ⟨none, .set 3 (.mov (.k (.b false)))⟩])
  (.seq (.seq (.reg [⟨none, .fp 11 1 0⟩,
   ⟨none, .set 12 (.ldb 1 0 1 false)⟩,
   ⟨none, .set 13 (.bin .neq (.s 12) (.k (.i .i64 3)))⟩])
  (.cond (.s 13) (.seq (.reg [⟨none, .set 14 (.ldb 1 0 6 true)⟩,
    ⟨none, .stb 2 0 6 (.s 14)⟩,
    ⟨none, .set 3 (.mov (.k (.b false)))⟩])
   .ret)
   .skip))
  (.seq (.reg [⟨none, .set 4 (.mov (.k (.ns)))⟩,
   ⟨none, .set 5 (.mov (.k (.ns)))⟩])
  (.seq (.seq (.reg [⟨none, .set 6 (.mov (.k (.i .i64 0)))⟩])
  (.block 0 (.loop [false, true, true, false, true, true, true, false, false, false, false, false, false, false, false, false, false, false, false, false, false, false, false, false, false, false, false, false, false, false, false, false, false, false, false, false, false, false, false, false, false, false, false, false, false, false, false, false, false, false, false, false, false, false, false, false, false, false, false, false, false, false, false, false, false, false, false, false, false, false, false, false] (.seq (.seq (.reg [⟨none, .set 15 (.mov (.s 6))⟩,
     ⟨none, .fp 16 1 5⟩,
     ⟨none, .set 17 (.ldb 1 5 1 false)⟩,
     ⟨none, .set 18 (.len false (.s 17))⟩,
     ⟨none, .set 19 (.bin .lss (.s 15) (.s 18))⟩])
    (.cond (.s 19) .skip
     (.exit 0)))
    (.seq (.block 1 (.seq (.seq (.reg [⟨none, .fp 22 1 5⟩,
      ⟨none, .set 23 (.ldb 1 5 1 false)⟩,
      ⟨none, .set 24 (.mov (.s 6))⟩,
      ⟨none, .set 25 (.iad (.s 23) (.s 24) 6)⟩,
      ⟨none, .set 26 (.fad (.s 25) 0)⟩,
      ⟨none, .set 27 (.ld (.s 26) 1 false)⟩,
      ⟨none, .set 28 (.bin .neq (.s 27) (.k (.i .i64 1)))⟩])
     (.cond (.s 28) (.seq (.reg [⟨none, .set 29 (.ldb 1 0 6 true)⟩,
       ⟨none, .stb 2 0 6 (.s 29)⟩,
       ⟨none, .set 3 (.mov (.k (.b false)))⟩])
      .ret)
      .skip))
     (.seq (.reg [⟨none, .mvs 30 4⟩,
      ⟨none, .fp 31 1 5⟩,
      ⟨none, .set 32 (.ldb 1 5 1 false)⟩,
      ⟨none, .set 33 (.mov (.s 6))⟩,
      ⟨none, .set 34 (.iad (.s 32) (.s 33) 6)⟩,
      ⟨none, .set 35 (.fad (.s 34) 2)⟩,
      ⟨none, .set 36 (.ld (.s 35) 1 false)⟩,
      ⟨none, .bsl 37 1 [.s 36]⟩,
      ⟨none, .app 38 30 none (.s 37) 1 8 true⟩,
      ⟨none, .mvs 4 38⟩])
     (.reg [⟨none, .mvs 39 5⟩,
      ⟨none, .fp 40 1 5⟩,
      ⟨none, .set 41 (.ldb 1 5 1 false)⟩,
      ⟨none, .set 42 (.mov (.s 6))⟩,
      ⟨none, .set 43 (.iad (.s 41) (.s 42) 6)⟩,
      ⟨none, .set 44 (.fad (.s 43) 3)⟩,
      ⟨none, .set 45 (.ld (.s 44) 1 false)⟩,
      ⟨none, .bsl 46 1 [.s 45]⟩,
      ⟨none, .app 47 39 none (.s 46) 1 8 true⟩,
      ⟨none, .mvs 5 47⟩]))))
    (.reg [⟨none, .set 20 (.mov (.s 6))⟩,
     ⟨none, .set 21 (.bin .add (.s 20) (.k (.i .i64 1)))⟩,
     ⟨none, .set 6 (.mov (.s 21))⟩]))))))
  (.seq (.reg [⟨none, .fp 49 1 1⟩,
   ⟨none, .set 50 (.ldb 1 1 1 false)⟩,
   ⟨none, .mvs 51 4⟩,
   ⟨none, .pc 52 48 [.s 50, .s 51] 0⟩,
   ⟨none, .mvs 48 52⟩,
   ⟨none, .ext 53 48 0⟩,
   ⟨none, .ext 54 48 1⟩,
   ⟨none, .set 7 (.mov (.s 53))⟩,
   ⟨none, .set 8 (.mov (.s 54))⟩])
  (.seq (.reg [⟨none, .fp 56 1 1⟩,
   ⟨none, .set 57 (.ldb 1 1 1 false)⟩,
   ⟨none, .mvs 58 5⟩,
   ⟨none, .pc 59 49 [.s 57, .s 58] 0⟩,
   ⟨none, .mvs 55 59⟩,
   ⟨none, .ext 60 55 0⟩,
   ⟨none, .ext 61 55 1⟩,
   ⟨none, .set 9 (.mov (.s 60))⟩,
   ⟨none, .set 10 (.mov (.s 61))⟩])
  (.seq (.seq (.reg [⟨none, .set 62 (.mov (.s 8))⟩,
   ⟨none, .set 63 (.bin .neq (.s 62) (.k (.i .i64 0)))⟩,
   ⟨none, .set 64 (.mov (.s 63))⟩,
   ⟨some (64, false), .set 65 (.mov (.s 10))⟩,
   ⟨some (64, false), .set 66 (.bin .neq (.s 65) (.k (.i .i64 0)))⟩,
   ⟨none, .set 67 (.pick (.s 64) (.k (.b true)) (.s 66))⟩])
  (.cond (.s 67) (.seq (.reg [⟨none, .set 68 (.ldb 1 0 6 true)⟩,
    ⟨none, .stb 2 0 6 (.s 68)⟩,
    ⟨none, .set 3 (.mov (.k (.b false)))⟩])
   .ret)
   .skip))
  (.seq (.reg [⟨none, .set 69 (.mov (.s 7))⟩,
   ⟨none, .set 70 (.mov (.s 9))⟩,
   ⟨none, .set 71 (.bld [.i .i64 0, .i .i64 0, .i .i64 0, .i .i64 0, .s [], .ns] [(0, 1, .k (.i .i64 1)), (2, 1, .s 69), (3, 1, .s 70)])⟩,
   ⟨none, .stb 2 0 6 (.s 71)⟩,
   ⟨none, .set 3 (.mov (.k (.b true)))⟩])
  .ret)))))))) }
/-- synchrony/synchronyref20.branch -/
def c23 : AF := { nt := 56, res := [.c 2 6 true, .s 3], body := (.seq (.reg [⟨none, .bxv 1 (.s 0)⟩,
   ⟨none, .bxn 2 [.i .i64 0, .i .i64 0, .i .i64 0, .i .i64 0, .s [], .ns]⟩,
   ⟨none, .set 3 (.mov (.k (.b false)))⟩])
  (.seq (.seq (.reg [⟨none, .fp 7 1 0⟩,
   ⟨none, .set 8 (.ldb 1 0 1 false)⟩,
   ⟨none, .set 9 (.bin .neq (.s 8) (.k (.i .i64 4)))⟩,
   ⟨none, .set 10 (.mov (.s 9))⟩,
   ⟨some (10, false), .fp 11 1 5⟩,
   ⟨some (10, false), .set 12 (.ldb 1 5 1 false)⟩,
   ⟨some (10, false), .set 13 (.len false (.s 12))⟩,
   ⟨some (10, false), .set 14 (.bin .neq (.s 13) (.k (.i .i64 3)))⟩,
   ⟨none, .set 15 (.pick (.s 10) (.k (.b true)) (.s 14))⟩])
  (.cond (.s 15) (.seq (.reg [⟨none, .set 16 (.ldb 1 0 6 true)⟩,
    ⟨none, .stb 2 0 6 (.s 16)⟩,
    ⟨none, .set 3 (.mov (.k (.b false)))⟩])
   .ret)
   .skip))
  (.seq (.drw [⟨none, .fp 17 1 5⟩,
   ⟨none, .set 18 (.ldb 1 5 1 false)⟩,
   ⟨none, .set 19 (.iad (.s 18) (.k (.i .i64 0)) 6)⟩,
   ⟨none, .set 20 (.ld (.s 19) 6 true)⟩,
   ⟨none, .fp 21 1 5⟩,
   ⟨none, .set 22 (.ldb 1 5 1 false)⟩,
   ⟨none, .set 23 (.iad (.s 22) (.k (.i .i64 1)) 6)⟩,
   ⟨none, .set 24 (.ld (.s 23) 6 true)⟩,
   ⟨none, .fp 25 1 5⟩,
   ⟨none, .set 26 (.ldb 1 5 1 false)⟩,
   ⟨none, .set 27 (.iad (.s 26) (.k (.i .i64 2)) 6)⟩,
   ⟨none, .set 28 (.ld (.s 27) 6 true)⟩,
   ⟨none, .bxn 4 [.i .i64 0, .i .i64 0, .i .i64 0, .i .i64 0, .s [], .ns]⟩,
   ⟨none, .bxn 5 [.i .i64 0, .i .i64 0, .i .i64 0, .i .i64 0, .s [], .ns]⟩,
   ⟨none, .bxn 6 [.i .i64 0, .i .i64 0, .i .i64 0, .i .i64 0, .s [], .ns]⟩,
   ⟨none, .stb 4 0 6 (.s 20)⟩,
   ⟨none, .stb 5 0 6 (.s 24)⟩,
   ⟨none, .stb 6 0 6 (.s 28)⟩])
  (.seq (.block 0 (.seq (.reg [⟨none, .set 30 (.ldb 4 0 6 true)⟩,
    ⟨none, .pc 31 14 [.s 30, .k (.i .i64 1), .k (.i .i64 1)] 0⟩,
    ⟨none, .set 29 (.mov (.s 31))⟩])
   (.cond (.s 29) (.seq (.reg [⟨none, .set 32 (.ldb 5 0 6 true)⟩,
     ⟨none, .stb 2 0 6 (.s 32)⟩,
     ⟨none, .set 3 (.mov (.k (.b true)))⟩])
    .ret)
    (.seq (.reg [⟨none, .set 34 (.ldb 4 0 6 true)⟩,
     ⟨none, .pc 35 14 [.s 34, .k (.i .i64 1), .k (.i .i64 0)] 0⟩,
     ⟨none, .set 33 (.mov (.s 35))⟩])
    (.cond (.s 33) (.seq (.reg [⟨none, .set 36 (.ldb 6 0 6 true)⟩,
      ⟨none, .stb 2 0 6 (.s 36)⟩,
      ⟨none, .set 3 (.mov (.k (.b true)))⟩])
     .ret)
     (.seq (.reg [⟨none, .set 38 (.ldb 5 0 6 true)⟩,
      ⟨none, .pc 39 14 [.s 38, .k (.i .i64 1), .k (.i .i64 1)] 0⟩,
      ⟨none, .set 40 (.mov (.s 39))⟩,
      ⟨some (40, true), .set 41 (.ldb 6 0 6 true)⟩,
      ⟨some (40, true), .pc 42 14 [.s 41, .k (.i .i64 1), .k (.i .i64 0)] 0⟩,
      ⟨none, .set 43 (.pick (.s 40) (.s 42) (.k (.b false)))⟩,
      ⟨none, .set 37 (.mov (.s 43))⟩])
     (.cond (.s 37) (.seq (.reg [⟨none, .set 44 (.ldb 4 0 6 true)⟩,
       ⟨none, .stb 2 0 6 (.s 44)⟩,
       ⟨none, .set 3 (.mov (.k (.b true)))⟩])
      .ret)
      (.seq (.reg [⟨none, .set 46 (.ldb 5 0 6 true)⟩,
       ⟨none, .pc 47 14 [.s 46, .k (.i .i64 1), .k (.i .i64 0)] 0⟩,
       ⟨none, .set 48 (.mov (.s 47))⟩,
       ⟨some (48, true), .set 49 (.ldb 6 0 6 true)⟩,
       ⟨some (48, true), .pc 50 14 [.s 49, .k (.i .i64 1), .k (.i .i64 1)] 0⟩,
       ⟨none, .set 51 (.pick (.s 48) (.s 50) (.k (.b false)))⟩,
       ⟨none, .set 45 (.mov (.s 51))⟩])
      (.cond (.s 45) (.seq (.reg [⟨none, .set 52 (.ldb 4 0 6 true)⟩,
        ⟨none, .bsl 53 6 [.s 52]⟩,
        ⟨none, .set 54 (.bld [.i .i64 0, .i .i64 0, .i .i64 0, .i .i64 0, .s [], .ns] [(0, 1, .k (.i .i64 3)), (1, 1, .k (.i .i64 1)), (5, 1, .s 53)])⟩,
        ⟨none, .stb 2 0 6 (.s 54)⟩,
        ⟨none, .set 3 (.mov (.k (.b true)))⟩])
       .ret)
       .skip)))))))))
  (.seq (.reg [⟨none, .set 55 (.ldb 1 0 6 true)⟩,
   ⟨none, .stb 2 0 6 (.s 55)⟩,
   ⟨none, .set 3 (.mov (.k (.b false)))⟩])
  .ret))))) }
/-- synchrony/synchronyref20.unary -/
def c24 : AF := { nt := 59, res := [.c 2 6 true, .s 3], body := (.seq (.reg [⟨none, .bxv 1 (.s 0)⟩,
   ⟨none, .bxn 2 [.i .i64 0, .i .i64 0, .i .i64 0, .i .i64 0, .s [], .ns]⟩,
   ⟨none, .set 3 (.mov (.k (.b false)))⟩])
  (.seq (.seq (.reg [⟨none, .fp 5 1 5⟩,
   ⟨none, .set 6 (.ldb 1 5 1 false)⟩,
   ⟨none, .set 7 (.len false (.s 6))⟩,
   ⟨none, .set 8 (.bin .neq (.s 7) (.k (.i .i64 1)))⟩])
  (.cond (.s 8) (.seq (.reg [⟨none, .set 9 (.ldb 1 0 6 true)⟩,
    ⟨none, .stb 2 0 6 (.s 9)⟩,
    ⟨none, .set 3 (.mov (.k (.b false)))⟩])
   .ret)
   .skip))
  (.seq (.reg [⟨none, .fp 10 1 5⟩,
   ⟨none, .set 11 (.ldb 1 5 1 false)⟩,
   ⟨none, .set 12 (.iad (.s 11) (.k (.i .i64 0)) 6)⟩,
   ⟨none, .set 13 (.ld (.s 12) 6 true)⟩,
   ⟨none, .bxn 4 [.i .i64 0, .i .i64 0, .i .i64 0, .i .i64 0, .s [], .ns]⟩,
   ⟨none, .stb 4 0 6 (.s 13)⟩])
  (.seq (.seq (.reg [⟨none, .fp 14 1 0⟩,
   ⟨none, .set 15 (.ldb 1 0 1 false)⟩,
   ⟨none, .set 16 (.bin .eql (.s 15) (.k (.i .i64 3)))⟩,
   ⟨none, .set 17 (.mov (.s 16))⟩,
   ⟨some (17, true), .fp 18 1 1⟩,
   ⟨some (17, true), .set 19 (.ldb 1 1 1 false)⟩,
   ⟨some (17, true), .set 20 (.bin .eql (.s 19) (.k (.i .i64 1)))⟩,
   ⟨some (17, true), .set 21 (.mov (.s 20))⟩,
   ⟨some (21, false), .fp 22 1 1⟩,
   ⟨some (21, false), .set 23 (.ldb 1 1 1 false)⟩,
   ⟨some (21, false), .set 24 (.bin .eql (.s 23) (.k (.i .i64 2)))⟩,
   ⟨some (17, true), .set 25 (.pick (.s 21) (.k (.b true)) (.s 24))⟩,
   ⟨none, .set 26 (.pick (.s 17) (.s 25) (.k (.b false)))⟩,
   ⟨none, .set 27 (.mov (.s 26))⟩,
   ⟨some (27, true), .fp 28 4 0⟩,
   ⟨some (27, true), .set 29 (.ldb 4 0 1 false)⟩,
   ⟨some (27, true), .set 30 (.bin .eql (.s 29) (.k (.i .i64 3)))⟩,
   ⟨none, .set 31 (.pick (.s 27) (.s 30) (.k (.b false)))⟩,
   ⟨none, .set 32 (.mov (.s 31))⟩,
   ⟨some (32, true), .fp 33 4 1⟩,
   ⟨some (32, true), .set 34 (.ldb 4 1 1 false)⟩,
   ⟨some (32, true), .fp 35 1 1⟩,
   ⟨some (32, true), .set 36 (.ldb 1 1 1 false)⟩,
   ⟨some (32, true), .set 37 (.bin .eql (.s 34) (.s 36))⟩,
   ⟨none, .set 38 (.pick (.s 32) (.s 37) (.k (.b false)))⟩,
   ⟨none, .set 39 (.mov (.s 38))⟩,
   ⟨some (39, true), .fp 40 4 5⟩,
   ⟨some (39, true), .set 41 (.ldb 4 5 1 false)⟩,
   ⟨some (39, true), .set 42 (.len false (.s 41))⟩,
   ⟨some (39, true), .set 43 (.bin .eql (.s 42) (.k (.i .i64 1)))⟩,
   ⟨none, .set 44 (.pick (.s 39) (.s 43) (.k (.b false)))⟩])
  (.cond (.s 44) (.seq (.reg [⟨none, .fp 45 4 5⟩,
    ⟨none, .set 46 (.ldb 4 5 1 false)⟩,
    ⟨none, .set 47 (.iad (.s 46) (.k (.i .i64 0)) 6)⟩,
    ⟨none, .set 48 (.ld (.s 47) 6 true)⟩,
    ⟨none, .stb 2 0 6 (.s 48)⟩,
    ⟨none, .set 3 (.mov (.k (.b true)))⟩])
   .ret)
   .skip))
  (.seq (.seq (.reg [⟨none, .fp 49 1 0⟩,
   ⟨none, .set 50 (.ldb 1 0 1 false)⟩,
   ⟨none, .set 51 (.bin .eql (.s 50) (.k (.i .i64 8)))⟩,
   ⟨none, .set 52 (.mov (.s 51))⟩,
   ⟨some (52, true), .fp 53 4 0⟩,
   ⟨some (52, true), .set 54 (.ldb 4 0 1 false)⟩,
   ⟨some (52, true), .set 55 (.bin .eql (.s 54) (.k (.i .i64 1)))⟩,
   ⟨none, .set 56 (.pick (.s 52) (.s 55) (.k (.b false)))⟩])
  (.cond (.s 56) (.seq (.reg [⟨none, .set 57 (.ldb 4 0 6 true)⟩,
    ⟨none, .stb 2 0 6 (.s 57)⟩,
    ⟨none, .set 3 (.mov (.k (.b true)))⟩])
   .ret)
   .skip))
  (.seq (.reg [⟨none, .set 58 (.ldb 1 0 6 true)⟩,
   ⟨none, .stb 2 0 6 (.s 58)⟩,
   ⟨none, .set 3 (.mov (.k (.b false)))⟩])
  .ret)))))) }
/-- synchrony/synchronyref20.binary -/
def c25 : AF := { nt := 58, res := [.c 2 6 true, .s 3], body := (.seq (.reg [⟨none, .bxv 1 (.s 0)⟩,
   ⟨none, .bxn 2 [.i .i64 0, .i .i64 0, .i .i64 0, .i .i64 0, .s [], .ns]⟩,
   ⟨none, .set 3 (.mov (.k (.b false)))⟩])
  (.seq (.seq (.reg [⟨none, .fp 7 1 0⟩,
   ⟨none, .set 8 (.ldb 1 0 1 false)⟩,
   ⟨none, .set 9 (.bin .neq (.s 8) (.k (.i .i64 3)))⟩,
   ⟨none, .set 10 (.mov (.s 9))⟩,
   ⟨some (10, false), .fp 11 1 5⟩,
   ⟨some (10, false), .set 12 (.ldb 1 5 1 false)⟩,
   ⟨some (10, false), .set 13 (.len false (.s 12))⟩,
   ⟨some (10, false), .set 14 (.bin .neq (.s 13) (.k (.i .i64 2)))⟩,
   ⟨none, .set 15 (.pick (.s 10) (.k (.b true)) (.s 14))⟩])
  (.cond (.s 15) (.seq (.reg [⟨none, .set 16 (.ldb 1 0 6 true)⟩,
    ⟨none, .stb 2 0 6 (.s 16)⟩,
    ⟨none, .set 3 (.mov (.k (.b false)))⟩])
   .ret)
   .skip))
  (.seq (.reg [⟨none, .fp 18 1 1⟩,
   ⟨none, .set 19 (.ldb 1 1 1 false)⟩,
   ⟨none, .pc 20 50 [.s 19] 0⟩,
   ⟨none, .mvs 17 20⟩,
   ⟨none, .ext 21 17 0⟩,
   ⟨none, .ext 22 17 1⟩,
   ⟨none, .ext 23 17 2⟩,
   ⟨none, .set 4 (.mov (.s 21))⟩,
   ⟨none, .set 5 (.mov (.s 22))⟩,
   ⟨none, .set 6 (.mov (.s 23))⟩])
  (.seq (.seq (.reg [⟨none, .set 24 (.mov (.s 4))⟩,
   ⟨none, .set 25 (.bin .neq (.s 24) (.k (.i .i64 0)))⟩,
   ⟨none, .set 26 (.mov (.s 25))⟩,
   ⟨some (26, true), .fp 27 1 5⟩,
   ⟨some (26, true), .set 28 (.ldb 1 5 1 false)⟩,
   ⟨some (26, true), .set 29 (.iad (.s 28) (.k (.i .i64 1)) 6)⟩,
   ⟨some (26, true), .set 30 (.ld (.s 29) 6 true)⟩,
   ⟨some (26, true), .set 31 (.mov (.s 4))⟩,
   ⟨some (26, true), .set 32 (.mov (.s 5))⟩,
   ⟨some (26, true), .pc 33 14 [.s 30, .s 31, .s 32] 0⟩,
   ⟨none, .set 34 (.pick (.s 26) (.s 33) (.k (.b false)))⟩])
  (.cond (.s 34) (.seq (.reg [⟨none, .fp 35 1 5⟩,
    ⟨none, .set 36 (.ldb 1 5 1 false)⟩,
    ⟨none, .set 37 (.iad (.s 36) (.k (.i .i64 0)) 6)⟩,
    ⟨none, .set 38 (.ld (.s 37) 6 true)⟩,
    ⟨none, .stb 2 0 6 (.s 38)⟩,
    ⟨none, .set 3 (.mov (.k (.b true)))⟩])
   .ret)
   .skip))
  (.seq (.seq (.reg [⟨none, .set 39 (.mov (.s 4))⟩,
   ⟨none, .set 40 (.bin .neq (.s 39) (.k (.i .i64 0)))⟩,
   ⟨none, .set 41 (.mov (.s 40))⟩,
   ⟨some (41, true), .set 42 (.mov (.s 6))⟩,
   ⟨none, .set 43 (.pick (.s 41) (.s 42) (.k (.b false)))⟩,
   ⟨none, .set 44 (.mov (.s 43))⟩,
   ⟨some (44, true), .fp 45 1 5⟩,
   ⟨some (44, true), .set 46 (.ldb 1 5 1 false)⟩,
   ⟨some (44, true), .set 47 (.iad (.s 46) (.k (.i .i64 0)) 6)⟩,
   ⟨some (44, true), .set 48 (.ld (.s 47) 6 true)⟩,
   ⟨some (44, true), .set 49 (.mov (.s 4))⟩,
   ⟨some (44, true), .set 50 (.mov (.s 5))⟩,
   ⟨some (44, true), .pc 51 14 [.s 48, .s 49, .s 50] 0⟩,
   ⟨none, .set 52 (.pick (.s 44) (.s 51) (.k (.b false)))⟩])
  (.cond (.s 52) (.seq (.reg [⟨none, .fp 53 1 5⟩,
    ⟨none, .set 54 (.ldb 1 5 1 false)⟩,
    ⟨none, .set 55 (.iad (.s 54) (.k (.i .i64 1)) 6)⟩,
    ⟨none, .set 56 (.ld (.s 55) 6 true)⟩,
    ⟨none, .stb 2 0 6 (.s 56)⟩,
    ⟨none, .set 3 (.mov (.k (.b true)))⟩])
   .ret)
   .skip))
  (.seq (.reg [⟨none, .set 57 (.ldb 1 0 6 true)⟩,
   ⟨none, .stb 2 0 6 (.s 57)⟩,
   ⟨none, .set 3 (.mov (.k (.b false)))⟩])
  .ret)))))) }
/-- synchrony/value.group -/
def c26 : AF := { nt := 31, res := [.s 2, .s 3], body := (.seq (.reg [⟨none, .set 2 (.mov (.k (.i .i64 0)))⟩,
   ⟨none, .set 3 (.mov (.k (.i .i64 0)))⟩])
  (.seq (.reg [⟨none, .set 3 (.mov (.k (.i .i64 2)))⟩])
  (.seq (.seq (.reg [⟨none, .set 4 (.mov (.s 0))⟩])
  (.block 0 (.seq (.block 6 (.seq (.block 5 (.seq (.block 4 (.seq (.block 3 (.seq (.block 2 (.seq (.block 1 (.seq (.seq (.seq (.reg [⟨none, .set 6 (.bin .eql (.s 4) (.k (.i .i64 1)))⟩,
          ⟨none, .set 5 (.mov (.s 6))⟩])
         (.cond (.s 5) (.exit 1)
          .skip))
         (.seq (.seq (.seq (.reg [⟨none, .set 8 (.bin .eql (.s 4) (.k (.i .i64 3)))⟩,
          ⟨none, .set 7 (.mov (.s 8))⟩])
         (.cond (.s 7) .skip
          (.seq (.reg [⟨none, .set 9 (.bin .eql (.s 4) (.k (.i .i64 4)))⟩,
           ⟨none, .set 7 (.mov (.s 9))⟩])
          (.cond (.s 7) .skip
           (.reg [⟨none, .set 10 (.bin .eql (.s 4) (.k (.i .i64 5)))⟩,
            ⟨none, .set 7 (.mov (.s 10))⟩])))))
         (.cond (.s 7) (.exit 2)
          .skip))
         (.seq (.seq (.reg [⟨none, .set 12 (.bin .eql (.s 4) (.k (.i .i64 2)))⟩,
          ⟨none, .set 11 (.mov (.s 12))⟩])
         (.cond (.s 11) (.exit 3)
          .skip))
         (.seq (.seq (.seq (.reg [⟨none, .set 14 (.bin .eql (.s 4) (.k (.i .i64 6)))⟩,
          ⟨none, .set 13 (.mov (.s 14))⟩])
         (.cond (.s 13) .skip
          (.seq (.reg [⟨none, .set 15 (.bin .eql (.s 4) (.k (.i .i64 7)))⟩,
           ⟨none, .set 13 (.mov (.s 15))⟩])
          (.cond (.s 13) .skip
           (.seq (.reg [⟨none, .set 16 (.bin .eql (.s 4) (.k (.i .i64 8)))⟩,
            ⟨none, .set 13 (.mov (.s 16))⟩])
           (.cond (.s 13) .skip
            (.seq (.reg [⟨none, .set 17 (.bin .eql (.s 4) (.k (.i .i64 9)))⟩,
             ⟨none, .set 13 (.mov (.s 17))⟩])
            (.cond (.s 13) .skip
             (.reg [⟨none, .set 18 (.bin .eql (.s 4) (.k (.i .i64 10)))⟩,
              ⟨none, .set 13 (.mov (.s 18))⟩])))))))))
         (.cond (.s 13) (.exit 4)
          .skip))
         (.seq (.seq (.seq (.reg [⟨none, .set 20 (.bin .eql (.s 4) (.k (.i .i64 11)))⟩,
          ⟨none, .set 19 (.mov (.s 20))⟩])
         (.cond (.s 19) .skip
          (.reg [⟨none, .set 21 (.bin .eql (.s 4) (.k (.i .i64 12)))⟩,
           ⟨none, .set 19 (.mov (.s 21))⟩])))
         (.cond (.s 19) (.exit 5)
          .skip))
         (.seq (.seq (.reg [⟨none, .set 23 (.bin .eql (.s 4) (.k (.i .i64 13)))⟩,
          ⟨none, .set 22 (.mov (.s 23))⟩])
         (.cond (.s 22) .skip
          (.seq (.reg [⟨none, .set 24 (.bin .eql (.s 4) (.k (.i .i64 14)))⟩,
           ⟨none, .set 22 (.mov (.s 24))⟩])
          (.cond (.s 22) .skip
           (.seq (.reg [⟨none, .set 25 (.bin .eql (.s 4) (.k (.i .i64 15)))⟩,
            ⟨none, .set 22 (.mov (.s 25))⟩])
           (.cond (.s 22) .skip
            (.reg [⟨none, .set 26 (.bin .eql (.s 4) (.k (.i .i64 16)))⟩,
             ⟨none, .set 22 (.mov (.s 26))⟩])))))))
         (.cond (.s 22) (.exit 6)
          .skip)))))))
         (.exit 0)))
        (.reg [⟨none, .set 3 (.mov (.k (.i .i64 1)))⟩])))
       (.seq (.seq (.reg [⟨none, .set 27 (.mov (.s 3))⟩,
        ⟨none, .set 2 (.mov (.k (.i .i64 1)))⟩,
        ⟨none, .set 3 (.mov (.s 27))⟩])
       .ret)
       (.exit 0))))
      (.reg [⟨none, .set 3 (.mov (.k (.i .i64 1)))⟩])))
     (.seq (.seq (.reg [⟨none, .set 28 (.mov (.s 3))⟩,
      ⟨none, .set 2 (.mov (.k (.i .i64 2)))⟩,
      ⟨none, .set 3 (.mov (.s 28))⟩])
     .ret)
     (.exit 0))))
    (.seq (.seq (.reg [⟨none, .set 29 (.mov (.s 3))⟩,
     ⟨none, .set 2 (.mov (.k (.i .i64 3)))⟩,
     ⟨none, .set 3 (.mov (.s 29))⟩])
    .ret)
    (.exit 0))))
   (.seq (.seq (.reg [⟨none, .set 30 (.mov (.s 3))⟩,
    ⟨none, .set 2 (.mov (.k (.i .i64 4)))⟩,
    ⟨none, .set 3 (.mov (.s 30))⟩])
   .ret)
   (.exit 0)))))
  (.seq (.reg [⟨none, .set 2 (.mov (.k (.i .i64 0)))⟩,
   ⟨none, .set 3 (.mov (.k (.i .i64 0)))⟩])
  .ret)))) }
/-- synchrony/word.In -/
def c27 : AF := { nt := 9, res := [.s 2], body := (.seq (.reg [⟨none, .set 2 (.mov (.k (.b false)))⟩])
  (.seq (.reg [⟨none, .set 3 (.mov (.s 0))⟩,
   ⟨none, .set 4 (.bin .leq (.k (.i .i64 (-32768))) (.s 3))⟩,
   ⟨none, .set 5 (.mov (.s 4))⟩,
   ⟨some (5, true), .set 6 (.mov (.s 0))⟩,
   ⟨some (5, true), .set 7 (.bin .leq (.s 6) (.k (.i .i64 32767)))⟩,
   ⟨none, .set 8 (.pick (.s 5) (.s 7) (.k (.b false)))⟩,
   ⟨none, .set 2 (.mov (.s 8))⟩])
  .ret)) }
/-- synchrony/value.compute -/
def c28 : AF := { nt := 35, res := [.s 6], body := (.seq (.reg [⟨none, .set 6 (.mov (.k (.i .i64 0)))⟩])
  (.seq (.seq (.reg [⟨none, .set 7 (.mov (.s 0))⟩])
  (.block 0 (.seq (.reg [⟨none, .set 9 (.bin .eql (.s 7) (.k (.i .i64 2)))⟩,
    ⟨none, .set 8 (.mov (.s 9))⟩])
   (.cond (.s 8) (.seq (.reg [⟨none, .set 10 (.mov (.s 1))⟩,
     ⟨none, .pc 11 51 [.s 10] 0⟩,
     ⟨none, .set 6 (.mov (.s 11))⟩])
    .ret)
    (.seq (.reg [⟨none, .set 13 (.bin .eql (.s 7) (.k (.i .i64 6)))⟩,
     ⟨none, .set 12 (.mov (.s 13))⟩])
    (.cond (.s 12) (.seq (.reg [⟨none, .set 14 (.mov (.s 1))⟩,
      ⟨none, .set 15 (.mov (.s 2))⟩,
      ⟨none, .pc 16 52 [.s 14, .s 15] 0⟩,
      ⟨none, .set 6 (.mov (.s 16))⟩])
     .ret)
     (.seq (.reg [⟨none, .set 18 (.bin .eql (.s 7) (.k (.i .i64 7)))⟩,
      ⟨none, .set 17 (.mov (.s 18))⟩])
     (.cond (.s 17) (.seq (.reg [⟨none, .set 19 (.mov (.s 1))⟩,
       ⟨none, .set 20 (.mov (.s 2))⟩,
       ⟨none, .pc 21 53 [.s 19, .s 20] 0⟩,
       ⟨none, .set 6 (.mov (.s 21))⟩])
      .ret)
      (.seq (.reg [⟨none, .set 23 (.bin .eql (.s 7) (.k (.i .i64 8)))⟩,
       ⟨none, .set 22 (.mov (.s 23))⟩])
      (.cond (.s 22) (.seq (.reg [⟨none, .set 24 (.mov (.s 1))⟩,
        ⟨none, .set 25 (.mov (.s 2))⟩,
        ⟨none, .pc 26 54 [.s 24, .s 25] 0⟩,
        ⟨none, .set 6 (.mov (.s 26))⟩])
       .ret)
       (.seq (.reg [⟨none, .set 28 (.bin .eql (.s 7) (.k (.i .i64 9)))⟩,
        ⟨none, .set 27 (.mov (.s 28))⟩])
       (.cond (.s 27) (.seq (.reg [⟨none, .set 29 (.mov (.s 1))⟩,
         ⟨none, .set 30 (.mov (.s 2))⟩,
         ⟨none, .pc 31 55 [.s 29, .s 30] 0⟩,
         ⟨none, .set 6 (.mov (.s 31))⟩])
        .ret)
        .skip))))))))))))
  (.seq (.reg [⟨none, .set 32 (.mov (.s 1))⟩,
   ⟨none, .set 33 (.mov (.s 2))⟩,
   ⟨none, .pc 34 56 [.s 32, .s 33] 0⟩,
   ⟨none, .set 6 (.mov (.s 34))⟩])
  .ret))) }
/-- synchrony/value.truth -/
def c29 : AF := { nt := 4, res := [.s 2], body := (.seq (.reg [⟨none, .set 2 (.mov (.k (.i .i64 0)))⟩])
  (.seq (.seq (.reg [⟨none, .set 3 (.mov (.s 0))⟩])
  (.cond (.s 3) (.seq (.reg [⟨none, .set 2 (.mov (.k (.i .i64 1)))⟩])
   .ret)
   .skip))
  (.seq (.reg [⟨none, .set 2 (.mov (.k (.i .i64 0)))⟩])
  .ret))) }
/-- synchrony/value.holds -/
def c30 : AF := { nt := 57, res := [.s 6], body := (.seq (.reg [⟨none, .set 6 (.mov (.k (.b false)))⟩])
  (.seq (.seq (.reg [⟨none, .set 7 (.mov (.s 0))⟩])
  (.block 0 (.seq (.reg [⟨none, .set 9 (.bin .eql (.s 7) (.k (.i .i64 1)))⟩,
    ⟨none, .set 8 (.mov (.s 9))⟩])
   (.cond (.s 8) (.seq (.reg [⟨none, .set 10 (.mov (.s 1))⟩,
     ⟨none, .set 11 (.bin .eql (.s 10) (.k (.i .i64 0)))⟩,
     ⟨none, .set 6 (.mov (.s 11))⟩])
    .ret)
    (.seq (.reg [⟨none, .set 13 (.bin .eql (.s 7) (.k (.i .i64 3)))⟩,
     ⟨none, .set 12 (.mov (.s 13))⟩])
    (.cond (.s 12) (.seq (.reg [⟨none, .set 14 (.mov (.s 1))⟩,
      ⟨none, .set 15 (.bin .eql (.s 14) (.k (.i .i64 1)))⟩,
      ⟨none, .set 16 (.mov (.s 15))⟩,
      ⟨some (16, true), .set 17 (.mov (.s 2))⟩,
      ⟨some (16, true), .set 18 (.bin .eql (.s 17) (.k (.i .i64 1)))⟩,
      ⟨none, .set 19 (.pick (.s 16) (.s 18) (.k (.b false)))⟩,
      ⟨none, .set 6 (.mov (.s 19))⟩])
     .ret)
     (.seq (.reg [⟨none, .set 21 (.bin .eql (.s 7) (.k (.i .i64 4)))⟩,
      ⟨none, .set 20 (.mov (.s 21))⟩])
     (.cond (.s 20) (.seq (.reg [⟨none, .set 22 (.mov (.s 1))⟩,
       ⟨none, .set 23 (.bin .eql (.s 22) (.k (.i .i64 1)))⟩,
       ⟨none, .set 24 (.mov (.s 23))⟩,
       ⟨some (24, false), .set 25 (.mov (.s 2))⟩,
       ⟨some (24, false), .set 26 (.bin .eql (.s 25) (.k (.i .i64 1)))⟩,
       ⟨none, .set 27 (.pick (.s 24) (.k (.b true)) (.s 26))⟩,
       ⟨none, .set 6 (.mov (.s 27))⟩])
      .ret)
      (.seq (.reg [⟨none, .set 29 (.bin .eql (.s 7) (.k (.i .i64 11)))⟩,
       ⟨none, .set 28 (.mov (.s 29))⟩])
      (.cond (.s 28) (.seq (.reg [⟨none, .set 30 (.mov (.s 1))⟩,
        ⟨none, .set 31 (.mov (.s 2))⟩,
        ⟨none, .set 32 (.bin .eql (.s 30) (.s 31))⟩,
        ⟨none, .set 6 (.mov (.s 32))⟩])
       .ret)
       (.seq (.seq (.reg [⟨none, .set 34 (.bin .eql (.s 7) (.k (.i .i64 5)))⟩,
        ⟨none, .set 33 (.mov (.s 34))⟩])
       (.cond (.s 33) .skip
        (.reg [⟨none, .set 35 (.bin .eql (.s 7) (.k (.i .i64 12)))⟩,
         ⟨none, .set 33 (.mov (.s 35))⟩])))
       (.cond (.s 33) (.seq (.reg [⟨none, .set 36 (.mov (.s 1))⟩,
         ⟨none, .set 37 (.mov (.s 2))⟩,
         ⟨none, .set 38 (.bin .neq (.s 36) (.s 37))⟩,
         ⟨none, .set 6 (.mov (.s 38))⟩])
        .ret)
        (.seq (.reg [⟨none, .set 40 (.bin .eql (.s 7) (.k (.i .i64 13)))⟩,
         ⟨none, .set 39 (.mov (.s 40))⟩])
        (.cond (.s 39) (.seq (.reg [⟨none, .set 41 (.mov (.s 1))⟩,
          ⟨none, .set 42 (.mov (.s 2))⟩,
          ⟨none, .set 43 (.bin .lss (.s 41) (.s 42))⟩,
          ⟨none, .set 6 (.mov (.s 43))⟩])
         .ret)
         (.seq (.reg [⟨none, .set 45 (.bin .eql (.s 7) (.k (.i .i64 14)))⟩,
          ⟨none, .set 44 (.mov (.s 45))⟩])
         (.cond (.s 44) (.seq (.reg [⟨none, .set 46 (.mov (.s 1))⟩,
           ⟨none, .set 47 (.mov (.s 2))⟩,
           ⟨none, .set 48 (.bin .leq (.s 46) (.s 47))⟩,
           ⟨none, .set 6 (.mov (.s 48))⟩])
          .ret)
          (.seq (.reg [⟨none, .set 50 (.bin .eql (.s 7) (.k (.i .i64 15)))⟩,
           ⟨none, .set 49 (.mov (.s 50))⟩])
          (.cond (.s 49) (.seq (.reg [⟨none, .set 51 (.mov (.s 1))⟩,
            ⟨none, .set 52 (.mov (.s 2))⟩,
            ⟨none, .set 53 (.bin .gtr (.s 51) (.s 52))⟩,
            ⟨none, .set 6 (.mov (.s 53))⟩])
           .ret)
           .skip))))))))))))))))))
  (.seq (.reg [⟨none, .set 54 (.mov (.s 1))⟩,
   ⟨none, .set 55 (.mov (.s 2))⟩,
   ⟨none, .set 56 (.bin .geq (.s 54) (.s 55))⟩,
   ⟨none, .set 6 (.mov (.s 56))⟩])
  .ret))) }
/-- synchrony/simp.fresh -/
def c31 : AF := { nt := 49, res := [.c 2 5 true], body := (.seq (.reg [⟨none, .bxv 1 (.s 0)⟩,
   ⟨none, .bxn 2 [.s [], .ns, .ns, .ns, .ns]⟩])
  (.seq (.drw [⟨none, .fp 6 1 1⟩,
   ⟨none, .set 7 (.ldb 1 1 1 false)⟩,
   ⟨none, .pc 8 57 [.s 7] 0⟩,
   ⟨none, .fp 9 1 2⟩,
   ⟨none, .set 10 (.ldb 1 2 1 false)⟩,
   ⟨none, .pc 11 57 [.s 10] 0⟩,
   ⟨none, .fp 12 1 3⟩,
   ⟨none, .set 13 (.ldb 1 3 1 false)⟩,
   ⟨none, .pc 14 57 [.s 13] 0⟩,
   ⟨none, .fp 15 1 1⟩,
   ⟨none, .stb 1 1 1 (.s 8)⟩,
   ⟨none, .fp 16 1 2⟩,
   ⟨none, .stb 1 2 1 (.s 11)⟩,
   ⟨none, .fp 17 1 3⟩,
   ⟨none, .stb 1 3 1 (.s 14)⟩])
  (.seq (.reg [⟨none, .set 3 (.mov (.k (.ns)))⟩])
  (.seq (.seq (.reg [⟨none, .fp 18 1 4⟩,
   ⟨none, .set 19 (.ldb 1 4 1 false)⟩,
   ⟨none, .set 20 (.len false (.s 19))⟩,
   ⟨none, .set 21 (.mov (.k (.i .i64 0)))⟩])
  (.block 0 (.loop [false, true, true, true, false, false, false, false, false, false, false, false, false, false, false, false, false, false, false, true, true, true, false, false, false, false, false, false, false, false, false, false, false, false, false, false, false, false, false, false, false, false, false, false, false, false, false, false, false] (.seq (.reg [⟨none, .set 22 (.bin .lss (.s 21) (.s 20))⟩])
    (.seq (.cond (.s 22) .skip
     (.exit 0))
    (.seq (.block 1 (.seq (.reg [⟨none, .set 23 (.iad (.s 19) (.s 21) 13)⟩,
      ⟨none, .set 24 (.ld (.s 23) 13 true)⟩,
      ⟨none, .bxn 5 [.i .i64 0, .ns, .i .i64 0, .i .i64 0, .i .i64 0, .i .i64 0, .s [], .ns, .i .i64 0, .s [], .ns, .s [], .ns]⟩,
      ⟨none, .stb 5 0 13 (.s 24)⟩])
     (.seq (.drw [⟨none, .fp 25 5 1⟩,
      ⟨none, .set 26 (.ldb 5 1 1 false)⟩,
      ⟨none, .pc 27 58 [.s 26] 0⟩,
      ⟨none, .fp 28 5 12⟩,
      ⟨none, .set 29 (.ldb 5 12 1 false)⟩,
      ⟨none, .pc 30 59 [.s 29] 0⟩,
      ⟨none, .fp 31 5 1⟩,
      ⟨none, .stb 5 1 1 (.s 27)⟩,
      ⟨none, .fp 32 5 12⟩,
      ⟨none, .stb 5 12 1 (.s 30)⟩])
     (.seq (.drw [⟨none, .fp 33 5 2⟩,
      ⟨none, .set 34 (.ldb 5 2 6 true)⟩,
      ⟨none, .pc 35 60 [.s 34] 0⟩,
      ⟨none, .fp 36 5 10⟩,
      ⟨none, .set 37 (.ldb 5 10 1 false)⟩,
      ⟨none, .pc 38 20 [.s 37, .k (.fn 60 [])] 0⟩,
      ⟨none, .fp 39 5 2⟩,
      ⟨none, .stb 5 2 6 (.s 35)⟩,
      ⟨none, .fp 40 5 10⟩,
      ⟨none, .stb 5 10 1 (.s 38)⟩])
     (.reg [⟨none, .mvs 41 3⟩,
      ⟨none, .set 42 (.ldb 5 0 13 true)⟩,
      ⟨none, .bsl 43 13 [.s 42]⟩,
      ⟨none, .app 44 41 none (.s 43) 13 192 true⟩,
      ⟨none, .mvs 3 44⟩])))))
    (.reg [⟨none, .set 45 (.bin .add (.s 21) (.k (.i .i64 1)))⟩,
     ⟨none, .set 21 (.mov (.s 45))⟩])))))))
  (.seq (.reg [⟨none, .mvs 46 3⟩,
   ⟨none, .fp 47 1 4⟩,
   ⟨none, .stb 1 4 1 (.s 46)⟩])
  (.seq (.reg [⟨none, .set 48 (.ldb 1 0 5 true)⟩,
   ⟨none, .stb 2 0 5 (.s 48)⟩])
  .ret)))))) }
/-- synchrony/simp.rights -/
def c32 : AF := { nt := 33, res := [.c 4 5 true], body := (.seq (.reg [⟨none, .bxv 2 (.s 0)⟩,
   ⟨none, .bxn 4 [.s [], .ns, .ns, .ns, .ns]⟩])
  (.seq (.reg [⟨none, .set 5 (.mov (.k (.ns)))⟩])
  (.seq (.seq (.reg [⟨none, .fp 8 2 4⟩,
   ⟨none, .set 9 (.ldb 2 4 1 false)⟩,
   ⟨none, .set 10 (.len false (.s 9))⟩,
   ⟨none, .set 11 (.mov (.k (.i .i64 0)))⟩])
  (.block 0 (.loop [false, true, true, false, true, true, false, false, false, true, true, true, false, false, false, false, false, false, false, false, false, false, false, false, false, false, false, false, false, false, false, false, false] (.seq (.reg [⟨none, .set 12 (.bin .lss (.s 11) (.s 10))⟩])
    (.seq (.cond (.s 12) .skip
     (.exit 0))
    (.seq (.block 1 (.seq (.reg [⟨none, .set 13 (.iad (.s 9) (.s 11) 13)⟩,
      ⟨none, .set 14 (.ld (.s 13) 13 true)⟩,
      ⟨none, .bxn 7 [.i .i64 0, .ns, .i .i64 0, .i .i64 0, .i .i64 0, .i .i64 0, .s [], .ns, .i .i64 0, .s [], .ns, .s [], .ns]⟩,
      ⟨none, .stb 7 0 13 (.s 14)⟩])
     (.seq (.drw [⟨none, .set 15 (.mov (.s 1))⟩,
      ⟨none, .fp 16 7 2⟩,
      ⟨none, .set 17 (.ldb 7 2 6 true)⟩,
      ⟨none, .ct 18 (.s 15) [.s 17] 0⟩,
      ⟨none, .fp 19 7 10⟩,
      ⟨none, .set 20 (.ldb 7 10 1 false)⟩,
      ⟨none, .set 21 (.mov (.s 1))⟩,
      ⟨none, .tc 22 20 [.s 20, .s 21] none 0⟩,
      ⟨none, .fp 23 7 2⟩,
      ⟨none, .stb 7 2 6 (.s 18)⟩,
      ⟨none, .fp 24 7 10⟩,
      ⟨none, .stb 7 10 1 (.s 22)⟩])
     (.reg [⟨none, .mvs 25 5⟩,
      ⟨none, .set 26 (.ldb 7 0 13 true)⟩,
      ⟨none, .bsl 27 13 [.s 26]⟩,
      ⟨none, .app 28 25 none (.s 27) 13 192 true⟩,
      ⟨none, .mvs 5 28⟩]))))
    (.reg [⟨none, .set 29 (.bin .add (.s 11) (.k (.i .i64 1)))⟩,
     ⟨none, .set 11 (.mov (.s 29))⟩])))))))
  (.seq (.reg [⟨none, .mvs 30 5⟩,
   ⟨none, .fp 31 2 4⟩,
   ⟨none, .stb 2 4 1 (.s 30)⟩])
  (.seq (.reg [⟨none, .set 32 (.ldb 2 0 5 true)⟩,
   ⟨none, .stb 4 0 5 (.s 32)⟩])
  .ret))))) }
/-- synchrony/simp.put -/
def c33 : AF := { nt := 6, res := [.s 2], body := (.seq (.reg [⟨none, .hpv 1 (.s 0)⟩,
   ⟨none, .set 2 (.mov (.k (.nf)))⟩])
  (.seq (.reg [⟨none, .hpn 3 [.nf]⟩])
  (.seq (.reg [⟨none, .set 4 (.mkf 61 [.s 1, .s 3])⟩,
   ⟨none, .stp (.s 3) 1 (.s 4)⟩])
  (.seq (.reg [⟨none, .set 5 (.ld (.s 3) 1 false)⟩,
   ⟨none, .set 2 (.mov (.s 5))⟩])
  .ret)))) }
/-- synchrony/simp.only -/
def c34 : AF := { nt := 69, res := [.s 4], body := (.seq (.reg [⟨none, .bxv 2 (.s 0)⟩,
   ⟨none, .set 4 (.mov (.k (.nm)))⟩])
  (.seq (.reg [⟨none, .mkm 14⟩,
   ⟨none, .set 5 (.mov (.s 14))⟩])
  (.seq (.reg [⟨none, .mkm 15⟩,
   ⟨none, .set 6 (.mov (.s 15))⟩])
  (.seq (.seq (.reg [⟨none, .fp 16 2 4⟩,
   ⟨none, .set 17 (.ldb 2 4 1 false)⟩,
   ⟨none, .set 18 (.len false (.s 17))⟩,
   ⟨none, .set 19 (.mov (.k (.i .i64 0)))⟩])
  (.block 0 (.loop [false, true, false, false, false, true, true, false, false, false, false, false, false, false, false, false, false, true, true, true, false, false, false, false, false, false, false, false, false, false, false, false, false, false, false, false, false, false, false, false, false, false, false, false, false, false, false, false, false, false, false, false, false, false, false, false, false, false, false, false, false, false, false, false, false, false, false, false, false] (.seq (.reg [⟨none, .set 20 (.bin .lss (.s 19) (.s 18))⟩])
    (.seq (.cond (.s 20) .skip
     (.exit 0))
    (.seq (.block 1 (.seq (.reg [⟨none, .set 21 (.iad (.s 17) (.s 19) 13)⟩,
      ⟨none, .set 22 (.ld (.s 21) 13 true)⟩,
      ⟨none, .bxn 8 [.i .i64 0, .ns, .i .i64 0, .i .i64 0, .i .i64 0, .i .i64 0, .s [], .ns, .i .i64 0, .s [], .ns, .s [], .ns]⟩,
      ⟨none, .stb 8 0 13 (.s 22)⟩])
     (.seq (.seq (.reg [⟨none, .fp 23 8 1⟩,
      ⟨none, .set 24 (.ldb 8 1 1 false)⟩,
      ⟨none, .set 25 (.len false (.s 24))⟩,
      ⟨none, .set 26 (.mov (.k (.i .i64 0)))⟩])
     (.block 2 (.loop [false, true, false, false, false, true, true, false, true, false, false, false, false, false, false, false, false, true, true, true, false, false, false, false, true, true, true, false, false, false, false, false, false, false, false, false, false, false, false, false, false, false, false, false, false, false, false, false, false, false, false, false, false, false, false, false, false, false, false, false, false, false, false, false, false, false, false, false, false] (.seq (.reg [⟨none, .set 27 (.bin .lss (.s 26) (.s 25))⟩])
       (.seq (.cond (.s 27) .skip
        (.exit 2))
       (.seq (.block 3 (.seq (.reg [⟨none, .set 28 (.iad (.s 24) (.s 26) 1)⟩,
         ⟨none, .set 29 (.ld (.s 28) 1 false)⟩,
         ⟨none, .set 10 (.mov (.s 29))⟩])
        (.reg [⟨none, .set 30 (.mov (.s 6))⟩,
         ⟨none, .set 31 (.mov (.s 10))⟩,
         ⟨none, .lkp 32 (.s 30) (.s 31) .s [.i .i64 0] false false⟩,
         ⟨none, .set 33 (.bin .add (.s 32) (.k (.i .i64 1)))⟩,
         ⟨none, .mst (.s 30) (.s 31) (.s 33) .s⟩])))
       (.reg [⟨none, .set 34 (.bin .add (.s 26) (.k (.i .i64 1)))⟩,
        ⟨none, .set 26 (.mov (.s 34))⟩])))))))
     (.seq (.reg [⟨none, .set 36 (.ldb 8 0 13 true)⟩,
      ⟨none, .pc 37 62 [.s 36] 0⟩,
      ⟨none, .mvs 35 37⟩,
      ⟨none, .ext 38 35 0⟩,
      ⟨none, .ext 39 35 1⟩,
      ⟨none, .set 11 (.mov (.s 38))⟩,
      ⟨none, .set 12 (.mov (.s 39))⟩])
     (.seq (.reg [⟨none, .set 40 (.mov (.s 12))⟩,
      ⟨none, .set 41 (.mov (.s 40))⟩,
      ⟨some (41, true), .fp 42 8 0⟩,
      ⟨some (41, true), .set 43 (.ldb 8 0 1 false)⟩,
      ⟨some (41, true), .set 44 (.bin .eql (.s 43) (.k (.i .i64 1)))⟩,
      ⟨none, .set 45 (.pick (.s 41) (.s 44) (.k (.b false)))⟩,
      ⟨none, .set 46 (.mov (.s 45))⟩,
      ⟨some (46, true), .set 47 (.mov (.s 1))⟩,
      ⟨some (46, true), .set 48 (.ldb 8 0 13 true)⟩,
      ⟨some (46, true), .ct 49 (.s 47) [.s 48] 0⟩,
      ⟨none, .set 50 (.pick (.s 46) (.s 49) (.k (.b false)))⟩])
     (.cond (.s 50) (.reg [⟨none, .set 51 (.mov (.s 5))⟩,
       ⟨none, .set 52 (.mov (.s 11))⟩,
       ⟨none, .fp 53 8 2⟩,
       ⟨none, .set 54 (.ldb 8 2 6 true)⟩,
       ⟨none, .mst (.s 51) (.s 52) (.s 54) .s⟩])
      .skip))))))
    (.reg [⟨none, .set 55 (.bin .add (.s 19) (.k (.i .i64 1)))⟩,
     ⟨none, .set 19 (.mov (.s 55))⟩])))))))
  (.seq (.seq (.reg [⟨none, .set 56 (.mov (.s 5))⟩,
   ⟨none, .rng 57 (.s 56)⟩])
  (.block 4 (.loop [false, false, false, false, false, true, true, false, false, false, false, false, false, false, false, false, false, false, false, false, false, false, false, false, false, false, false, false, false, false, false, false, false, false, false, false, false, false, false, false, false, false, false, false, false, false, false, false, false, false, false, false, false, false, false, false, false, true, false, false, false, false, false, false, false, false, false, false, false] (.seq (.reg [⟨none, .nxt 58 (.s 57)⟩,
     ⟨none, .ext 59 58 0⟩])
    (.seq (.cond (.s 59) .skip
     (.exit 4))
    (.block 5 (.seq (.reg [⟨none, .ent 60 (.s 57)⟩,
      ⟨none, .ext 61 60 0⟩,
      ⟨none, .set 13 (.mov (.s 61))⟩])
     (.seq (.reg [⟨none, .set 62 (.mov (.s 6))⟩,
      ⟨none, .set 63 (.mov (.s 13))⟩,
      ⟨none, .lkp 64 (.s 62) (.s 63) .s [.i .i64 0] false false⟩,
      ⟨none, .set 65 (.bin .gtr (.s 64) (.k (.i .i64 1)))⟩])
     (.cond (.s 65) .bad
      .skip)))))))))
  (.seq (.reg [⟨none, .set 68 (.mov (.s 5))⟩,
   ⟨none, .set 4 (.mov (.s 68))⟩])
  .ret)))))) }
/-- synchrony/simp.Consts$1 -/
def c35 : AF := { nt := 7, res := [.s 2], body := (.seq (.reg [⟨none, .bxv 1 (.s 0)⟩,
   ⟨none, .set 2 (.mov (.k (.b false)))⟩])
  (.seq (.reg [⟨none, .fp 3 1 2⟩,
   ⟨none, .fp 4 1 2⟩,
   ⟨none, .set 5 (.ldb 1 2 1 false)⟩,
   ⟨none, .set 6 (.bin .eql (.s 5) (.k (.i .i64 1)))⟩,
   ⟨none, .set 2 (.mov (.s 6))⟩])
  .ret)) }
/-- synchrony/simp.same -/
def c36 : AF := { nt := 12, res := [.s 4], body := (.seq (.reg [⟨none, .bxv 2 (.s 0)⟩,
   ⟨none, .bxv 3 (.s 1)⟩,
   ⟨none, .set 4 (.mov (.k (.b false)))⟩])
  (.seq (.reg [⟨none, .set 5 (.ldb 2 0 5 true)⟩,
   ⟨none, .bsl 6 5 [.s 5]⟩,
   ⟨none, .set 7 (.bld [.ns, .ns] [(1, 1, .s 6)])⟩,
   ⟨none, .set 8 (.ldb 3 0 5 true)⟩,
   ⟨none, .bsl 9 5 [.s 8]⟩,
   ⟨none, .set 10 (.bld [.ns, .ns] [(1, 1, .s 9)])⟩,
   ⟨none, .pc 11 63 [.s 7, .s 10] 0⟩,
   ⟨none, .set 4 (.mov (.s 11))⟩])
  .ret)) }
/-- synchrony/simp.Dead$1 -/
def c37 : AF := { nt := 7, res := [.s 3], body := (.seq (.reg [⟨none, .set 3 (.mov (.k (.b false)))⟩])
  (.seq (.reg [⟨none, .set 4 (.ld (.s 1) 1 false)⟩,
   ⟨none, .set 5 (.mov (.s 0))⟩,
   ⟨none, .lkp 6 (.s 4) (.s 5) .s [.b false] false false⟩,
   ⟨none, .set 3 (.mov (.s 6))⟩])
  .ret)) }
/-- slices.ContainsFunc[[]string,string] -/
def c38 : AF := { nt := 9, res := [.s 4], body := (.seq (.reg [⟨none, .set 4 (.mov (.k (.b false)))⟩])
  (.seq (.reg [⟨none, .mvs 5 0⟩,
   ⟨none, .set 6 (.mov (.s 1))⟩,
   ⟨none, .tc 7 64 [.s 5, .s 6] none 0⟩,
   ⟨none, .set 8 (.bin .geq (.s 7) (.k (.i .i64 0)))⟩,
   ⟨none, .set 4 (.mov (.s 8))⟩])
  .ret)) }
/-- synchrony/simp.reads -/
def c39 : AF := { nt := 45, res := [.s 2], body := (.seq (.reg [⟨none, .bxv 1 (.s 0)⟩,
   ⟨none, .set 2 (.mov (.k (.ns)))⟩])
  (.seq (.reg [⟨none, .fp 8 1 2⟩,
   ⟨none, .set 9 (.ldb 1 2 6 true)⟩,
   ⟨none, .pc 10 65 [.s 9] 2⟩,
   ⟨none, .mvs 3 10⟩])
  (.seq (.seq (.reg [⟨none, .fp 11 1 10⟩,
   ⟨none, .set 12 (.ldb 1 10 1 false)⟩,
   ⟨none, .set 13 (.len false (.s 12))⟩,
   ⟨none, .set 14 (.mov (.k (.i .i64 0)))⟩])
  (.block 0 (.loop [false, true, false, true, false, false, false, false, false, false, false, false, true, true, true, false, false, false, false, false, false, false, false, false, false, false, false, false, false, false, false, false, false, false, false, false, false, false, false, false, false, false, false, false, false] (.seq (.reg [⟨none, .set 15 (.bin .lss (.s 14) (.s 13))⟩])
    (.seq (.cond (.s 15) .skip
     (.exit 0))
    (.seq (.block 1 (.seq (.reg [⟨none, .set 16 (.iad (.s 12) (.s 14) 6)⟩,
      ⟨none, .set 17 (.ld (.s 16) 6 true)⟩,
      ⟨none, .bxn 5 [.i .i64 0, .i .i64 0, .i .i64 0, .i .i64 0, .s [], .ns]⟩,
      ⟨none, .stb 5 0 6 (.s 17)⟩])
     (.reg [⟨none, .mvs 18 3⟩,
      ⟨none, .set 19 (.ldb 5 0 6 true)⟩,
      ⟨none, .pc 20 65 [.s 19] 0⟩,
      ⟨none, .app 21 18 none (.s 20) 1 16 true⟩,
      ⟨none, .mvs 3 21⟩])))
    (.reg [⟨none, .set 22 (.bin .add (.s 14) (.k (.i .i64 1)))⟩,
     ⟨none, .set 14 (.mov (.s 22))⟩])))))))
  (.seq (.seq (.reg [⟨none, .fp 23 1 11⟩,
   ⟨none, .set 24 (.ldb 1 11 1 false)⟩,
   ⟨none, .set 25 (.bin .neq (.s 24) (.k (.s [])))⟩])
  (.cond (.s 25) (.reg [⟨none, .mvs 26 3⟩,
    ⟨none, .fp 27 1 11⟩,
    ⟨none, .set 28 (.ldb 1 11 1 false)⟩,
    ⟨none, .bsl 29 1 [.s 28]⟩,
    ⟨none, .app 30 26 none (.s 29) 1 16 true⟩,
    ⟨none, .mvs 3 30⟩])
   .skip))
  (.seq (.seq (.reg [⟨none, .fp 31 1 12⟩,
   ⟨none, .set 32 (.ldb 1 12 1 false)⟩,
   ⟨none, .set 33 (.len false (.s 32))⟩,
   ⟨none, .set 34 (.mov (.k (.i .i64 0)))⟩])
  (.block 2 (.loop [false, false, false, true, false, false, false, false, false, false, false, false, false, false, false, false, false, false, false, false, false, false, false, false, false, false, false, false, false, false, false, false, true, true, true, false, false, false, false, false, false, false, false, false, false] (.seq (.reg [⟨none, .set 35 (.bin .lss (.s 34) (.s 33))⟩])
    (.seq (.cond (.s 35) .skip
     (.exit 2))
    (.seq (.block 3 (.seq (.reg [⟨none, .set 36 (.iad (.s 32) (.s 34) 3)⟩,
      ⟨none, .set 37 (.ld (.s 36) 3 true)⟩,
      ⟨none, .bxn 7 [.s [], .i .i64 0, .i .i64 0]⟩,
      ⟨none, .stb 7 0 3 (.s 37)⟩])
     (.reg [⟨none, .mvs 38 3⟩,
      ⟨none, .fp 39 7 0⟩,
      ⟨none, .set 40 (.ldb 7 0 1 false)⟩,
      ⟨none, .bsl 41 1 [.s 40]⟩,
      ⟨none, .app 42 38 none (.s 41) 1 16 true⟩,
      ⟨none, .mvs 3 42⟩])))
    (.reg [⟨none, .set 43 (.bin .add (.s 34) (.k (.i .i64 1)))⟩,
     ⟨none, .set 34 (.mov (.s 43))⟩])))))))
  (.seq (.reg [⟨none, .mvs 44 3⟩,
   ⟨none, .mvs 2 44⟩])
  .ret)))))) }
/-- slices.Contains[[]string,string] -/
def c40 : AF := { nt := 9, res := [.s 4], body := (.seq (.reg [⟨none, .set 4 (.mov (.k (.b false)))⟩])
  (.seq (.reg [⟨none, .mvs 5 0⟩,
   ⟨none, .set 6 (.mov (.s 1))⟩,
   ⟨none, .pc 7 66 [.s 5, .s 6] 0⟩,
   ⟨none, .set 8 (.bin .geq (.s 7) (.k (.i .i64 0)))⟩,
   ⟨none, .set 4 (.mov (.s 8))⟩])
  .ret)) }
/-- slices.DeleteFunc[[]synchrony/api.Decl,synchrony/api.Decl] -/
def c41 : AF := { nt := 42, res := [.s 4], body := (.seq (.reg [⟨none, .set 4 (.mov (.k (.ns)))⟩])
  (.seq (.reg [⟨none, .set 8 (.mov (.s 0))⟩,
   ⟨none, .set 9 (.mov (.s 1))⟩,
   ⟨none, .tc 10 67 [.s 8, .s 9] none 0⟩,
   ⟨none, .set 5 (.mov (.s 10))⟩])
  (.seq (.seq (.reg [⟨none, .set 11 (.mov (.s 5))⟩,
   ⟨none, .set 12 (.bin .eql (.s 11) (.k (.i .i64 (-1))))⟩])
  (.cond (.s 12) (.seq (.reg [⟨none, .mvs 13 0⟩,
    ⟨none, .mvs 4 13⟩])
   .ret)
   .skip))
  (.seq (.seq (.reg [⟨none, .set 14 (.mov (.s 5))⟩,
   ⟨none, .set 15 (.bin .add (.s 14) (.k (.i .i64 1)))⟩,
   ⟨none, .set 6 (.mov (.s 15))⟩])
  (.block 0 (.loop [true, true, false, false, false, true, true, false, false, false, false, false, false, false, false, false, false, false, false, false, false, false, false, false, false, false, false, false, false, false, false, false, false, false, false, false, false, false, false, false, false, false] (.seq (.seq (.reg [⟨none, .set 16 (.mov (.s 6))⟩,
     ⟨none, .set 17 (.mov (.s 0))⟩,
     ⟨none, .set 18 (.len false (.s 17))⟩,
     ⟨none, .set 19 (.bin .lss (.s 16) (.s 18))⟩])
    (.cond (.s 19) .skip
     (.exit 0)))
    (.seq (.block 1 (.seq (.reg [⟨none, .set 22 (.mov (.s 0))⟩,
      ⟨none, .set 23 (.mov (.s 6))⟩,
      ⟨none, .set 24 (.iad (.s 22) (.s 23) 3)⟩,
      ⟨none, .set 25 (.ld (.s 24) 3 true)⟩,
      ⟨none, .bxn 7 [.s [], .i .i64 0, .ns]⟩,
      ⟨none, .stb 7 0 3 (.s 25)⟩])
     (.seq (.reg [⟨none, .set 26 (.mov (.s 1))⟩,
      ⟨none, .set 27 (.ldb 7 0 3 true)⟩,
      ⟨none, .ct 28 (.s 26) [.s 27] 0⟩,
      ⟨none, .set 29 (.un .not (.s 28))⟩])
     (.cond (.s 29) (.seq (.reg [⟨none, .set 30 (.mov (.s 0))⟩,
       ⟨none, .set 31 (.mov (.s 5))⟩,
       ⟨none, .set 32 (.ldb 7 0 3 true)⟩,
       ⟨none, .set 33 (.iad (.s 30) (.s 31) 3)⟩,
       ⟨none, .stp (.s 33) 3 (.s 32)⟩])
      (.reg [⟨none, .set 34 (.mov (.s 5))⟩,
       ⟨none, .set 35 (.bin .add (.s 34) (.k (.i .i64 1)))⟩,
       ⟨none, .set 5 (.mov (.s 35))⟩]))
      .skip))))
    (.reg [⟨none, .set 20 (.mov (.s 6))⟩,
     ⟨none, .set 21 (.bin .add (.s 20) (.k (.i .i64 1)))⟩,
     ⟨none, .set 6 (.mov (.s 21))⟩]))))))
  (.seq (.reg [⟨none, .set 36 (.mov (.s 0))⟩,
   ⟨none, .set 37 (.mov (.s 5))⟩,
   ⟨none, .set 38 (.ssl false (.s 36) (some (.s 37)) none 3)⟩,
   ⟨none, .clr (.s 38) 3 [.s [], .i .i64 0, .ns]⟩])
  (.seq (.reg [⟨none, .mvs 39 0⟩,
   ⟨none, .set 40 (.mov (.s 5))⟩,
   ⟨none, .set 41 (.ssl false (.s 39) none (some (.s 40)) 3)⟩,
   ⟨none, .mvs 4 41⟩])
  .ret)))))) }
/-- slices.Clone[[]synchrony/api.Decl,synchrony/api.Decl] -/
def c42 : AF := { nt := 8, res := [.s 2], body := (.seq (.reg [⟨none, .set 2 (.mov (.k (.ns)))⟩])
  (.seq (.seq (.reg [⟨none, .set 3 (.mov (.s 0))⟩,
   ⟨none, .set 4 (.nleq 0 false (.s 3))⟩])
  (.cond (.s 4) (.seq (.reg [⟨none, .set 2 (.mov (.k (.ns)))⟩])
   .ret)
   .skip))
  (.seq (.reg [⟨none, .bsx 5 3 false⟩,
   ⟨none, .mvs 6 0⟩,
   ⟨none, .app 7 5 none (.s 6) 3 48 false⟩,
   ⟨none, .mvs 2 7⟩])
  .ret))) }
/-- synchrony/simp.Dead$2 -/
def c43 : AF := { nt := 9, res := [.s 3], body := (.seq (.reg [⟨none, .bxv 2 (.s 0)⟩,
   ⟨none, .set 3 (.mov (.k (.b false)))⟩])
  (.seq (.reg [⟨none, .set 4 (.ld (.s 1) 1 false)⟩,
   ⟨none, .fp 5 2 0⟩,
   ⟨none, .set 6 (.ldb 2 0 1 false)⟩,
   ⟨none, .lkp 7 (.s 4) (.s 6) .s [.b false] false false⟩,
   ⟨none, .set 8 (.un .not (.s 7))⟩,
   ⟨none, .set 3 (.mov (.s 8))⟩])
  .ret)) }
/-- synchrony/simp.computed -/
def c44 : AF := { nt := 61, res := [.c 2 6 true, .s 3], body := (.seq (.reg [⟨none, .bxv 1 (.s 0)⟩,
   ⟨none, .bxn 2 [.i .i64 0, .i .i64 0, .i .i64 0, .i .i64 0, .s [], .ns]⟩,
   ⟨none, .set 3 (.mov (.k (.b false)))⟩])
  (.seq (.seq (.reg [⟨none, .fp 12 1 0⟩,
   ⟨none, .set 13 (.ldb 1 0 1 false)⟩,
   ⟨none, .set 14 (.bin .neq (.s 13) (.k (.i .i64 3)))⟩])
  (.cond (.s 14) (.seq (.reg [⟨none, .set 15 (.ldb 1 0 6 true)⟩,
    ⟨none, .stb 2 0 6 (.s 15)⟩,
    ⟨none, .set 3 (.mov (.k (.b false)))⟩])
   .ret)
   .skip))
  (.seq (.reg [⟨none, .set 4 (.mov (.k (.ns)))⟩,
   ⟨none, .set 5 (.mov (.k (.ns)))⟩])
  (.seq (.seq (.reg [⟨none, .fp 16 1 5⟩,
   ⟨none, .set 17 (.ldb 1 5 1 false)⟩,
   ⟨none, .set 18 (.len false (.s 17))⟩,
   ⟨none, .set 19 (.mov (.k (.i .i64 0)))⟩])
  (.block 0 (.loop [false, true, true, false, true, true, false, false, false, false, false, false, false, false, false, false, false, true, true, true, false, false, false, false, false, false, false, false, false, false, false, false, false, false, false, false, false, false, false, false, false, false, false, false, false, false, false, false, false, false, false, false, false, false, false, false, false, false, false, false, false] (.seq (.reg [⟨none, .set 20 (.bin .lss (.s 19) (.s 18))⟩])
    (.seq (.cond (.s 20) .skip
     (.exit 0))
    (.seq (.block 1 (.seq (.reg [⟨none, .set 21 (.iad (.s 17) (.s 19) 6)⟩,
      ⟨none, .set 22 (.ld (.s 21) 6 true)⟩,
      ⟨none, .bxn 7 [.i .i64 0, .i .i64 0, .i .i64 0, .i .i64 0, .s [], .ns]⟩,
      ⟨none, .stb 7 0 6 (.s 22)⟩])
     (.seq (.seq (.reg [⟨none, .fp 23 7 0⟩,
      ⟨none, .set 24 (.ldb 7 0 1 false)⟩,
      ⟨none, .set 25 (.bin .neq (.s 24) (.k (.i .i64 1)))⟩])
     (.cond (.s 25) (.seq (.reg [⟨none, .set 26 (.ldb 1 0 6 true)⟩,
       ⟨none, .stb 2 0 6 (.s 26)⟩,
       ⟨none, .set 3 (.mov (.k (.b false)))⟩])
      .ret)
      .skip))
     (.drw [⟨none, .mvs 27 4⟩,
      ⟨none, .fp 28 7 2⟩,
      ⟨none, .set 29 (.ldb 7 2 1 false)⟩,
      ⟨none, .bsl 30 1 [.s 29]⟩,
      ⟨none, .app 31 27 none (.s 30) 1 8 true⟩,
      ⟨none, .mvs 32 5⟩,
      ⟨none, .fp 33 7 3⟩,
      ⟨none, .set 34 (.ldb 7 3 1 false)⟩,
      ⟨none, .bsl 35 1 [.s 34]⟩,
      ⟨none, .app 36 32 none (.s 35) 1 8 true⟩,
      ⟨none, .mvs 4 31⟩,
      ⟨none, .mvs 5 36⟩]))))
    (.reg [⟨none, .set 37 (.bin .add (.s 19) (.k (.i .i64 1)))⟩,
     ⟨none, .set 19 (.mov (.s 37))⟩])))))))
  (.seq (.reg [⟨none, .fp 39 1 1⟩,
   ⟨none, .set 40 (.ldb 1 1 1 false)⟩,
   ⟨none, .mvs 41 4⟩,
   ⟨none, .pc 42 12 [.s 40, .s 41] 0⟩,
   ⟨none, .mvs 38 42⟩,
   ⟨none, .ext 43 38 0⟩,
   ⟨none, .ext 44 38 1⟩,
   ⟨none, .set 8 (.mov (.s 43))⟩,
   ⟨none, .set 9 (.mov (.s 44))⟩])
  (.seq (.reg [⟨none, .fp 46 1 1⟩,
   ⟨none, .set 47 (.ldb 1 1 1 false)⟩,
   ⟨none, .mvs 48 5⟩,
   ⟨none, .pc 49 13 [.s 47, .s 48] 0⟩,
   ⟨none, .mvs 45 49⟩,
   ⟨none, .ext 50 45 0⟩,
   ⟨none, .ext 51 45 1⟩,
   ⟨none, .set 10 (.mov (.s 50))⟩,
   ⟨none, .set 11 (.mov (.s 51))⟩])
  (.seq (.reg [⟨none, .set 52 (.mov (.s 8))⟩,
   ⟨none, .set 53 (.mov (.s 10))⟩,
   ⟨none, .set 54 (.bld [.i .i64 0, .i .i64 0, .i .i64 0, .i .i64 0, .s [], .ns] [(0, 1, .k (.i .i64 1)), (2, 1, .s 52), (3, 1, .s 53)])⟩,
   ⟨none, .set 55 (.mov (.s 9))⟩,
   ⟨none, .set 56 (.bin .eql (.s 55) (.k (.i .i64 0)))⟩,
   ⟨none, .set 57 (.mov (.s 56))⟩,
   ⟨some (57, true), .set 58 (.mov (.s 11))⟩,
   ⟨some (57, true), .set 59 (.bin .eql (.s 58) (.k (.i .i64 0)))⟩,
   ⟨none, .set 60 (.pick (.s 57) (.s 59) (.k (.b false)))⟩,
   ⟨none, .stb 2 0 6 (.s 54)⟩,
   ⟨none, .set 3 (.mov (.s 60))⟩])
  .ret))))))) }
/-- synchrony/simp.choice -/
def c45 : AF := { nt := 56, res := [.c 2 6 true, .s 3], body := (.seq (.reg [⟨none, .bxv 1 (.s 0)⟩,
   ⟨none, .bxn 2 [.i .i64 0, .i .i64 0, .i .i64 0, .i .i64 0, .s [], .ns]⟩,
   ⟨none, .set 3 (.mov (.k (.b false)))⟩])
  (.seq (.seq (.reg [⟨none, .fp 7 1 0⟩,
   ⟨none, .set 8 (.ldb 1 0 1 false)⟩,
   ⟨none, .set 9 (.bin .neq (.s 8) (.k (.i .i64 4)))⟩,
   ⟨none, .set 10 (.mov (.s 9))⟩,
   ⟨some (10, false), .fp 11 1 5⟩,
   ⟨some (10, false), .set 12 (.ldb 1 5 1 false)⟩,
   ⟨some (10, false), .set 13 (.len false (.s 12))⟩,
   ⟨some (10, false), .set 14 (.bin .neq (.s 13) (.k (.i .i64 3)))⟩,
   ⟨none, .set 15 (.pick (.s 10) (.k (.b true)) (.s 14))⟩])
  (.cond (.s 15) (.seq (.reg [⟨none, .set 16 (.ldb 1 0 6 true)⟩,
    ⟨none, .stb 2 0 6 (.s 16)⟩,
    ⟨none, .set 3 (.mov (.k (.b false)))⟩])
   .ret)
   .skip))
  (.seq (.drw [⟨none, .fp 17 1 5⟩,
   ⟨none, .set 18 (.ldb 1 5 1 false)⟩,
   ⟨none, .set 19 (.iad (.s 18) (.k (.i .i64 0)) 6)⟩,
   ⟨none, .set 20 (.ld (.s 19) 6 true)⟩,
   ⟨none, .fp 21 1 5⟩,
   ⟨none, .set 22 (.ldb 1 5 1 false)⟩,
   ⟨none, .set 23 (.iad (.s 22) (.k (.i .i64 1)) 6)⟩,
   ⟨none, .set 24 (.ld (.s 23) 6 true)⟩,
   ⟨none, .fp 25 1 5⟩,
   ⟨none, .set 26 (.ldb 1 5 1 false)⟩,
   ⟨none, .set 27 (.iad (.s 26) (.k (.i .i64 2)) 6)⟩,
   ⟨none, .set 28 (.ld (.s 27) 6 true)⟩,
   ⟨none, .bxn 4 [.i .i64 0, .i .i64 0, .i .i64 0, .i .i64 0, .s [], .ns]⟩,
   ⟨none, .bxn 5 [.i .i64 0, .i .i64 0, .i .i64 0, .i .i64 0, .s [], .ns]⟩,
   ⟨none, .bxn 6 [.i .i64 0, .i .i64 0, .i .i64 0, .i .i64 0, .s [], .ns]⟩,
   ⟨none, .stb 4 0 6 (.s 20)⟩,
   ⟨none, .stb 5 0 6 (.s 24)⟩,
   ⟨none, .stb 6 0 6 (.s 28)⟩])
  (.seq (.block 0 (.seq (.reg [⟨none, .set 30 (.ldb 4 0 6 true)⟩,
    ⟨none, .pc 31 68 [.s 30, .k (.i .i64 1), .k (.i .i64 1)] 0⟩,
    ⟨none, .set 29 (.mov (.s 31))⟩])
   (.cond (.s 29) (.seq (.reg [⟨none, .set 32 (.ldb 5 0 6 true)⟩,
     ⟨none, .stb 2 0 6 (.s 32)⟩,
     ⟨none, .set 3 (.mov (.k (.b true)))⟩])
    .ret)
    (.seq (.reg [⟨none, .set 34 (.ldb 4 0 6 true)⟩,
     ⟨none, .pc 35 68 [.s 34, .k (.i .i64 1), .k (.i .i64 0)] 0⟩,
     ⟨none, .set 33 (.mov (.s 35))⟩])
    (.cond (.s 33) (.seq (.reg [⟨none, .set 36 (.ldb 6 0 6 true)⟩,
      ⟨none, .stb 2 0 6 (.s 36)⟩,
      ⟨none, .set 3 (.mov (.k (.b true)))⟩])
     .ret)
     (.seq (.reg [⟨none, .set 38 (.ldb 5 0 6 true)⟩,
      ⟨none, .pc 39 68 [.s 38, .k (.i .i64 1), .k (.i .i64 1)] 0⟩,
      ⟨none, .set 40 (.mov (.s 39))⟩,
      ⟨some (40, true), .set 41 (.ldb 6 0 6 true)⟩,
      ⟨some (40, true), .pc 42 68 [.s 41, .k (.i .i64 1), .k (.i .i64 0)] 0⟩,
      ⟨none, .set 43 (.pick (.s 40) (.s 42) (.k (.b false)))⟩,
      ⟨none, .set 37 (.mov (.s 43))⟩])
     (.cond (.s 37) (.seq (.reg [⟨none, .set 44 (.ldb 4 0 6 true)⟩,
       ⟨none, .stb 2 0 6 (.s 44)⟩,
       ⟨none, .set 3 (.mov (.k (.b true)))⟩])
      .ret)
      (.seq (.reg [⟨none, .set 46 (.ldb 5 0 6 true)⟩,
       ⟨none, .pc 47 68 [.s 46, .k (.i .i64 1), .k (.i .i64 0)] 0⟩,
       ⟨none, .set 48 (.mov (.s 47))⟩,
       ⟨some (48, true), .set 49 (.ldb 6 0 6 true)⟩,
       ⟨some (48, true), .pc 50 68 [.s 49, .k (.i .i64 1), .k (.i .i64 1)] 0⟩,
       ⟨none, .set 51 (.pick (.s 48) (.s 50) (.k (.b false)))⟩,
       ⟨none, .set 45 (.mov (.s 51))⟩])
      (.cond (.s 45) (.seq (.reg [⟨none, .set 52 (.ldb 4 0 6 true)⟩,
        ⟨none, .bsl 53 6 [.s 52]⟩,
        ⟨none, .set 54 (.bld [.i .i64 0, .i .i64 0, .i .i64 0, .i .i64 0, .s [], .ns] [(0, 1, .k (.i .i64 3)), (1, 1, .k (.i .i64 1)), (5, 1, .s 53)])⟩,
        ⟨none, .stb 2 0 6 (.s 54)⟩,
        ⟨none, .set 3 (.mov (.k (.b true)))⟩])
       .ret)
       .skip)))))))))
  (.seq (.reg [⟨none, .set 55 (.ldb 1 0 6 true)⟩,
   ⟨none, .stb 2 0 6 (.s 55)⟩,
   ⟨none, .set 3 (.mov (.k (.b false)))⟩])
  .ret))))) }
/-- synchrony/simp.twice -/
def c46 : AF := { nt := 32, res := [.c 2 6 true, .s 3], body := (.seq (.reg [⟨none, .bxv 1 (.s 0)⟩,
   ⟨none, .bxn 2 [.i .i64 0, .i .i64 0, .i .i64 0, .i .i64 0, .s [], .ns]⟩,
   ⟨none, .set 3 (.mov (.k (.b false)))⟩])
  (.seq (.seq (.reg [⟨none, .bsl 6 1 [.k (.i .i64 1), .k (.i .i64 2)]⟩,
   ⟨none, .set 7 (.len false (.s 6))⟩,
   ⟨none, .set 8 (.mov (.k (.i .i64 0)))⟩])
  (.block 0 (.loop [false, true, true, false, false, false, true, true, true, false, false, false, false, false, false, false, false, false, false, false, false, false, false, false, false, false, false, false, false, false, false, false] (.seq (.reg [⟨none, .set 9 (.bin .lss (.s 8) (.s 7))⟩])
    (.seq (.cond (.s 9) .skip
     (.exit 0))
    (.seq (.block 1 (.seq (.reg [⟨none, .set 10 (.iad (.s 6) (.s 8) 1)⟩,
      ⟨none, .set 11 (.ld (.s 10) 1 false)⟩,
      ⟨none, .set 5 (.mov (.s 11))⟩])
     (.seq (.reg [⟨none, .set 12 (.ldb 1 0 6 true)⟩,
      ⟨none, .set 13 (.mov (.s 5))⟩,
      ⟨none, .pc 14 69 [.s 12, .s 13, .k (.i .i64 1)] 0⟩,
      ⟨none, .set 15 (.mov (.s 14))⟩,
      ⟨some (15, true), .fp 16 1 5⟩,
      ⟨some (15, true), .set 17 (.ldb 1 5 1 false)⟩,
      ⟨some (15, true), .set 18 (.iad (.s 17) (.k (.i .i64 0)) 6)⟩,
      ⟨some (15, true), .set 19 (.ld (.s 18) 6 true)⟩,
      ⟨some (15, true), .set 20 (.mov (.s 5))⟩,
      ⟨some (15, true), .pc 21 69 [.s 19, .s 20, .k (.i .i64 1)] 0⟩,
      ⟨none, .set 22 (.pick (.s 15) (.s 21) (.k (.b false)))⟩])
     (.cond (.s 22) (.seq (.reg [⟨none, .fp 23 1 5⟩,
       ⟨none, .set 24 (.ldb 1 5 1 false)⟩,
       ⟨none, .set 25 (.iad (.s 24) (.k (.i .i64 0)) 6)⟩,
       ⟨none, .set 26 (.fad (.s 25) 5)⟩,
       ⟨none, .set 27 (.ld (.s 26) 1 false)⟩,
       ⟨none, .set 28 (.iad (.s 27) (.k (.i .i64 0)) 6)⟩,
       ⟨none, .set 29 (.ld (.s 28) 6 true)⟩,
       ⟨none, .stb 2 0 6 (.s 29)⟩,
       ⟨none, .set 3 (.mov (.k (.b true)))⟩])
      .ret)
      .skip))))
    (.reg [⟨none, .set 30 (.bin .add (.s 8) (.k (.i .i64 1)))⟩,
     ⟨none, .set 8 (.mov (.s 30))⟩])))))))
  (.seq (.reg [⟨none, .set 31 (.ldb 1 0 6 true)⟩,
   ⟨none, .stb 2 0 6 (.s 31)⟩,
   ⟨none, .set 3 (.mov (.k (.b false)))⟩])
  .ret))) }
/-- synchrony/simp.other -/
def c47 : AF := { nt := 61, res := [.c 4 6 true, .s 5], body := (.seq (.reg [⟨none, .bxv 2 (.s 0)⟩,
   ⟨none, .bxn 4 [.i .i64 0, .i .i64 0, .i .i64 0, .i .i64 0, .s [], .ns]⟩,
   ⟨none, .set 5 (.mov (.k (.b false)))⟩])
  (.seq (.seq (.reg [⟨none, .fp 8 2 0⟩,
   ⟨none, .set 9 (.ldb 2 0 1 false)⟩,
   ⟨none, .set 10 (.bin .neq (.s 9) (.k (.i .i64 3)))⟩,
   ⟨none, .set 11 (.mov (.s 10))⟩,
   ⟨some (11, false), .fp 12 2 5⟩,
   ⟨some (11, false), .set 13 (.ldb 2 5 1 false)⟩,
   ⟨some (11, false), .set 14 (.len false (.s 13))⟩,
   ⟨some (11, false), .set 15 (.bin .neq (.s 14) (.k (.i .i64 2)))⟩,
   ⟨none, .set 16 (.pick (.s 11) (.k (.b true)) (.s 15))⟩])
  (.cond (.s 16) (.seq (.reg [⟨none, .set 17 (.ldb 2 0 6 true)⟩,
    ⟨none, .stb 4 0 6 (.s 17)⟩,
    ⟨none, .set 5 (.mov (.k (.b false)))⟩])
   .ret)
   .skip))
  (.seq (.seq (.reg [⟨none, .mvs 18 1⟩,
   ⟨none, .set 19 (.len false (.s 18))⟩,
   ⟨none, .set 20 (.mov (.k (.i .i64 0)))⟩])
  (.block 0 (.loop [false, false, true, false, true, false, false, false, false, false, false, false, false, false, false, false, false, false, true, true, true, false, false, false, false, false, false, false, false, false, false, false, false, false, false, false, false, false, false, false, false, false, false, false, false, false, false, false, false, false, false, false, false, false, false, false, false, false, false, false, false] (.seq (.reg [⟨none, .set 21 (.bin .lss (.s 20) (.s 19))⟩])
    (.seq (.cond (.s 21) .skip
     (.exit 0))
    (.seq (.block 1 (.seq (.reg [⟨none, .set 22 (.iad (.s 18) (.s 20) 4)⟩,
      ⟨none, .set 23 (.ld (.s 22) 4 true)⟩,
      ⟨none, .bxn 7 [.i .i64 0, .i .i64 0, .i .i64 0, .b false]⟩,
      ⟨none, .stb 7 0 4 (.s 23)⟩])
     (.seq (.seq (.reg [⟨none, .fp 24 7 0⟩,
      ⟨none, .set 25 (.ldb 7 0 1 false)⟩,
      ⟨none, .fp 26 2 1⟩,
      ⟨none, .set 27 (.ldb 2 1 1 false)⟩,
      ⟨none, .set 28 (.bin .neq (.s 25) (.s 27))⟩])
     (.cond (.s 28) (.exit 1)
      .skip))
     (.seq (.seq (.drw [⟨none, .fp 29 2 5⟩,
      ⟨none, .set 30 (.ldb 2 5 1 false)⟩,
      ⟨none, .set 31 (.iad (.s 30) (.k (.i .i64 1)) 6)⟩,
      ⟨none, .set 32 (.ld (.s 31) 6 true)⟩,
      ⟨none, .fp 33 7 1⟩,
      ⟨none, .set 34 (.ldb 7 1 1 false)⟩,
      ⟨none, .fp 35 7 2⟩,
      ⟨none, .set 36 (.ldb 7 2 1 false)⟩,
      ⟨none, .pc 37 68 [.s 32, .s 34, .s 36] 0⟩])
     (.cond (.s 37) (.seq (.reg [⟨none, .fp 38 2 5⟩,
       ⟨none, .set 39 (.ldb 2 5 1 false)⟩,
       ⟨none, .set 40 (.iad (.s 39) (.k (.i .i64 0)) 6)⟩,
       ⟨none, .set 41 (.ld (.s 40) 6 true)⟩,
       ⟨none, .stb 4 0 6 (.s 41)⟩,
       ⟨none, .set 5 (.mov (.k (.b true)))⟩])
      .ret)
      .skip))
     (.seq (.drw [⟨none, .fp 42 7 3⟩,
      ⟨none, .set 43 (.ldb 7 3 1 false)⟩,
      ⟨none, .set 44 (.mov (.s 43))⟩,
      ⟨some (44, true), .fp 45 2 5⟩,
      ⟨some (44, true), .set 46 (.ldb 2 5 1 false)⟩,
      ⟨some (44, true), .set 47 (.iad (.s 46) (.k (.i .i64 0)) 6)⟩,
      ⟨some (44, true), .set 48 (.ld (.s 47) 6 true)⟩,
      ⟨some (44, true), .fp 49 7 1⟩,
      ⟨some (44, true), .set 50 (.ldb 7 1 1 false)⟩,
      ⟨some (44, true), .fp 51 7 2⟩,
      ⟨some (44, true), .set 52 (.ldb 7 2 1 false)⟩,
      ⟨some (44, true), .pc 53 68 [.s 48, .s 50, .s 52] 0⟩,
      ⟨none, .set 54 (.pick (.s 44) (.s 53) (.k (.b false)))⟩])
     (.cond (.s 54) (.seq (.reg [⟨none, .fp 55 2 5⟩,
       ⟨none, .set 56 (.ldb 2 5 1 false)⟩,
       ⟨none, .set 57 (.iad (.s 56) (.k (.i .i64 1)) 6)⟩,
       ⟨none, .set 58 (.ld (.s 57) 6 true)⟩,
       ⟨none, .stb 4 0 6 (.s 58)⟩,
       ⟨none, .set 5 (.mov (.k (.b true)))⟩])
      .ret)
      .skip))))))
    (.reg [⟨none, .set 59 (.bin .add (.s 20) (.k (.i .i64 1)))⟩,
     ⟨none, .set 20 (.mov (.s 59))⟩])))))))
  (.seq (.reg [⟨none, .set 60 (.ldb 2 0 6 true)⟩,
   ⟨none, .stb 4 0 6 (.s 60)⟩,
   ⟨none, .set 5 (.mov (.k (.b false)))⟩])
  .ret)))) }
/-- synchrony/synchronyref05.Result -/
def c48 : AF := { nt := 39, res := [.s 4, .s 5], body := (.seq (.reg [⟨none, .set 4 (.mov (.k (.i .i64 0)))⟩,
   ⟨none, .set 5 (.mov (.k (.i .i64 0)))⟩])
  (.seq (.seq (.reg [⟨none, .set 8 (.mov (.s 0))⟩,
   ⟨none, .pc 9 70 [.s 8] 0⟩,
   ⟨none, .set 10 (.bin .eql (.s 9) (.k (.i .i64 0)))⟩])
  (.cond (.s 10) (.seq (.reg [⟨none, .set 4 (.mov (.k (.i .i64 0)))⟩,
    ⟨none, .set 5 (.mov (.k (.i .i64 2)))⟩])
   .ret)
   .skip))
  (.seq (.seq (.reg [⟨none, .set 11 (.mov (.s 1))⟩,
   ⟨none, .set 12 (.len false (.s 11))⟩,
   ⟨none, .set 13 (.mov (.s 0))⟩,
   ⟨none, .pc 14 70 [.s 13] 0⟩,
   ⟨none, .set 15 (.bin .neq (.s 12) (.s 14))⟩])
  (.cond (.s 15) (.seq (.reg [⟨none, .set 4 (.mov (.k (.i .i64 0)))⟩,
    ⟨none, .set 5 (.mov (.k (.i .i64 9)))⟩])
   .ret)
   .skip))
  (.seq (.reg [⟨none, .set 6 (.mov (.k (.i .i64 2)))⟩])
  (.seq (.seq (.reg [⟨none, .set 16 (.mov (.s 0))⟩,
   ⟨none, .pc 17 71 [.s 16] 0⟩])
  (.cond (.s 17) (.reg [⟨none, .set 6 (.mov (.k (.i .i64 1)))⟩])
   .skip))
  (.seq (.seq (.reg [⟨none, .set 18 (.mov (.s 0))⟩,
   ⟨none, .pc 19 72 [.s 18] 0⟩])
  (.cond (.s 19) (.reg [⟨none, .set 20 (.mov (.s 1))⟩,
    ⟨none, .set 21 (.iad (.s 20) (.k (.i .i64 0)) 1)⟩,
    ⟨none, .set 22 (.ld (.s 21) 1 false)⟩,
    ⟨none, .set 6 (.mov (.s 22))⟩])
   .skip))
  (.seq (.seq (.reg [⟨none, .set 23 (.mov (.s 6))⟩,
   ⟨none, .set 24 (.bin .lss (.s 23) (.k (.i .i64 1)))⟩])
  (.cond (.s 24) (.seq (.reg [⟨none, .set 4 (.mov (.k (.i .i64 0)))⟩,
    ⟨none, .set 5 (.mov (.k (.i .i64 10)))⟩])
   .ret)
   .skip))
  (.seq (.seq (.reg [⟨none, .set 7 (.mov (.k (.i .i64 0)))⟩])
  (.block 0 (.loop [true, true, false, false, false, false, true, true, false, false, false, false, false, false, false, false, false, false, false, false, false, false, false, false, false, false, false, false, false, false, false, false, false, false, false, false, false, false, false] (.seq (.seq (.reg [⟨none, .set 25 (.mov (.s 7))⟩,
     ⟨none, .set 26 (.mov (.s 1))⟩,
     ⟨none, .set 27 (.len false (.s 26))⟩,
     ⟨none, .set 28 (.bin .lss (.s 25) (.s 27))⟩])
    (.cond (.s 28) .skip
     (.exit 0)))
    (.seq (.block 1 (.seq (.reg [⟨none, .set 31 (.mov (.s 1))⟩,
      ⟨none, .set 32 (.mov (.s 7))⟩,
      ⟨none, .set 33 (.iad (.s 31) (.s 32) 1)⟩,
      ⟨none, .set 34 (.ld (.s 33) 1 false)⟩,
      ⟨none, .set 35 (.mov (.s 6))⟩,
      ⟨none, .set 36 (.bin .neq (.s 34) (.s 35))⟩])
     (.cond (.s 36) (.seq (.reg [⟨none, .set 4 (.mov (.k (.i .i64 0)))⟩,
       ⟨none, .set 5 (.mov (.k (.i .i64 10)))⟩])
      .ret)
      .skip)))
    (.reg [⟨none, .set 29 (.mov (.s 7))⟩,
     ⟨none, .set 30 (.bin .add (.s 29) (.k (.i .i64 1)))⟩,
     ⟨none, .set 7 (.mov (.s 30))⟩]))))))
  (.seq (.seq (.reg [⟨none, .set 37 (.mov (.s 0))⟩,
   ⟨none, .pc 38 73 [.s 37] 0⟩])
  (.cond (.s 38) (.seq (.reg [⟨none, .set 4 (.mov (.k (.i .i64 2)))⟩,
    ⟨none, .set 5 (.mov (.k (.i .i64 0)))⟩])
   .ret)
   .skip))
  (.seq (.reg [⟨none, .set 4 (.mov (.k (.i .i64 1)))⟩,
   ⟨none, .set 5 (.mov (.k (.i .i64 0)))⟩])
  .ret)))))))))) }
/-- synchrony/synchronyref05.Apply -/
def c49 : AF := { nt := 79, res := [.s 4, .s 5], body := (.seq (.reg [⟨none, .set 4 (.mov (.k (.i .i64 0)))⟩,
   ⟨none, .set 5 (.mov (.k (.i .i64 0)))⟩])
  (.seq (.seq (.reg [⟨none, .set 7 (.mov (.s 0))⟩,
   ⟨none, .pc 8 70 [.s 7] 0⟩,
   ⟨none, .set 9 (.bin .eql (.s 8) (.k (.i .i64 0)))⟩])
  (.cond (.s 9) (.seq (.reg [⟨none, .set 4 (.mov (.k (.i .i64 0)))⟩,
    ⟨none, .set 5 (.mov (.k (.i .i64 2)))⟩])
   .ret)
   .skip))
  (.seq (.seq (.reg [⟨none, .set 10 (.mov (.s 1))⟩,
   ⟨none, .set 11 (.len false (.s 10))⟩,
   ⟨none, .set 12 (.mov (.s 0))⟩,
   ⟨none, .pc 13 70 [.s 12] 0⟩,
   ⟨none, .set 14 (.bin .neq (.s 11) (.s 13))⟩])
  (.cond (.s 14) (.seq (.reg [⟨none, .set 4 (.mov (.k (.i .i64 0)))⟩,
    ⟨none, .set 5 (.mov (.k (.i .i64 9)))⟩])
   .ret)
   .skip))
  (.seq (.seq (.reg [⟨none, .set 6 (.mov (.k (.i .i64 0)))⟩])
  (.block 0 (.loop [true, true, false, false, false, false, true, false, false, false, false, false, false, false, false, false, false, false, false, false, false, false, false, false, false, false, false, false, false, false, false, false, false, false, false, false, false, false, false, false, false, false, false, false, false, false, false, false, false, false, false, false, false, false, false, false, false, false, false, false, false, false, false, false, false, false, false, false, false, false, false, false, false, false, false, false, false, false, false] (.seq (.seq (.reg [⟨none, .set 15 (.mov (.s 6))⟩,
     ⟨none, .set 16 (.mov (.s 1))⟩,
     ⟨none, .set 17 (.len false (.s 16))⟩,
     ⟨none, .set 18 (.bin .lss (.s 15) (.s 17))⟩])
    (.cond (.s 18) .skip
     (.exit 0)))
    (.seq (.block 1 (.seq (.seq (.reg [⟨none, .set 21 (.mov (.s 0))⟩,
      ⟨none, .pc 22 71 [.s 21] 0⟩,
      ⟨none, .set 23 (.mov (.s 22))⟩,
      ⟨some (23, true), .set 24 (.mov (.s 1))⟩,
      ⟨some (23, true), .set 25 (.mov (.s 6))⟩,
      ⟨some (23, true), .set 26 (.iad (.s 24) (.s 25) 1)⟩,
      ⟨some (23, true), .set 27 (.ld (.s 26) 1 false)⟩,
      ⟨some (23, true), .set 28 (.bin .neq (.s 27) (.k (.i .i64 0)))⟩,
      ⟨none, .set 29 (.pick (.s 23) (.s 28) (.k (.b false)))⟩,
      ⟨none, .set 30 (.mov (.s 29))⟩,
      ⟨some (30, true), .set 31 (.mov (.s 1))⟩,
      ⟨some (30, true), .set 32 (.mov (.s 6))⟩,
      ⟨some (30, true), .set 33 (.iad (.s 31) (.s 32) 1)⟩,
      ⟨some (30, true), .set 34 (.ld (.s 33) 1 false)⟩,
      ⟨some (30, true), .set 35 (.bin .neq (.s 34) (.k (.i .i64 1)))⟩,
      ⟨none, .set 36 (.pick (.s 30) (.s 35) (.k (.b false)))⟩])
     (.cond (.s 36) (.seq (.reg [⟨none, .set 4 (.mov (.k (.i .i64 0)))⟩,
       ⟨none, .set 5 (.mov (.k (.i .i64 14)))⟩])
      .ret)
      .skip))
     (.seq (.reg [⟨none, .set 37 (.mov (.s 0))⟩,
      ⟨none, .pc 38 71 [.s 37] 0⟩,
      ⟨none, .set 39 (.un .not (.s 38))⟩,
      ⟨none, .set 40 (.mov (.s 39))⟩,
      ⟨some (40, true), .set 41 (.mov (.s 0))⟩,
      ⟨some (40, true), .pc 42 72 [.s 41] 0⟩,
      ⟨some (40, true), .set 43 (.un .not (.s 42))⟩,
      ⟨none, .set 44 (.pick (.s 40) (.s 43) (.k (.b false)))⟩,
      ⟨none, .set 45 (.mov (.s 44))⟩,
      ⟨some (45, true), .set 46 (.mov (.s 1))⟩,
      ⟨some (45, true), .set 47 (.mov (.s 6))⟩,
      ⟨some (45, true), .set 48 (.iad (.s 46) (.s 47) 1)⟩,
      ⟨some (45, true), .set 49 (.ld (.s 48) 1 false)⟩,
      ⟨some (45, true), .set 50 (.bin .lss (.s 49) (.k (.i .i64 (-32768))))⟩,
      ⟨some (45, true), .set 51 (.mov (.s 50))⟩,
      ⟨some (51, false), .set 52 (.mov (.s 1))⟩,
      ⟨some (51, false), .set 53 (.mov (.s 6))⟩,
      ⟨some (51, false), .set 54 (.iad (.s 52) (.s 53) 1)⟩,
      ⟨some (51, false), .set 55 (.ld (.s 54) 1 false)⟩,
      ⟨some (51, false), .set 56 (.bin .gtr (.s 55) (.k (.i .i64 32767)))⟩,
      ⟨some (45, true), .set 57 (.pick (.s 51) (.k (.b true)) (.s 56))⟩,
      ⟨none, .set 58 (.pick (.s 45) (.s 57) (.k (.b false)))⟩])
     (.cond (.s 58) (.seq (.reg [⟨none, .set 4 (.mov (.k (.i .i64 0)))⟩,
       ⟨none, .set 5 (.mov (.k (.i .i64 14)))⟩])
      .ret)
      .skip))))
    (.reg [⟨none, .set 19 (.mov (.s 6))⟩,
     ⟨none, .set 20 (.bin .add (.s 19) (.k (.i .i64 1)))⟩,
     ⟨none, .set 6 (.mov (.s 20))⟩]))))))
  (.seq (.seq (.reg [⟨none, .set 59 (.mov (.s 0))⟩,
   ⟨none, .set 60 (.bin .eql (.s 59) (.k (.i .i64 1)))⟩])
  (.cond (.s 60) (.seq (.reg [⟨none, .mvs 61 1⟩,
    ⟨none, .set 62 (.iad (.s 61) (.k (.i .i64 0)) 1)⟩,
    ⟨none, .set 63 (.ld (.s 62) 1 false)⟩,
    ⟨none, .set 64 (.bin .sub (.k (.i .i64 1)) (.s 63))⟩,
    ⟨none, .set 4 (.mov (.s 64))⟩,
    ⟨none, .set 5 (.mov (.k (.i .i64 0)))⟩])
   .ret)
   .skip))
  (.seq (.seq (.reg [⟨none, .set 65 (.mov (.s 0))⟩,
   ⟨none, .set 66 (.bin .eql (.s 65) (.k (.i .i64 2)))⟩])
  (.cond (.s 66) (.seq (.reg [⟨none, .mvs 67 1⟩,
    ⟨none, .set 68 (.iad (.s 67) (.k (.i .i64 0)) 1)⟩,
    ⟨none, .set 69 (.ld (.s 68) 1 false)⟩,
    ⟨none, .pc 70 74 [.s 69] 0⟩,
    ⟨none, .set 4 (.mov (.s 70))⟩,
    ⟨none, .set 5 (.mov (.k (.i .i64 0)))⟩])
   .ret)
   .skip))
  (.seq (.drw [⟨none, .set 71 (.mov (.s 0))⟩,
   ⟨none, .set 72 (.mov (.s 1))⟩,
   ⟨none, .set 73 (.iad (.s 72) (.k (.i .i64 0)) 1)⟩,
   ⟨none, .set 74 (.ld (.s 73) 1 false)⟩,
   ⟨none, .set 75 (.mov (.s 1))⟩,
   ⟨none, .set 76 (.iad (.s 75) (.k (.i .i64 1)) 1)⟩,
   ⟨none, .set 77 (.ld (.s 76) 1 false)⟩,
   ⟨none, .pc 78 75 [.s 71, .s 74, .s 77] 0⟩,
   ⟨none, .set 4 (.mov (.s 78))⟩,
   ⟨none, .set 5 (.mov (.k (.i .i64 0)))⟩])
  .ret))))))) }
/-- synchrony/synchronyref20.neutral -/
def c50 : AF := { nt := 21, res := [.s 2, .s 3, .s 4], body := (.seq (.reg [⟨none, .set 2 (.mov (.k (.i .i64 0)))⟩,
   ⟨none, .set 3 (.mov (.k (.i .i64 0)))⟩,
   ⟨none, .set 4 (.mov (.k (.b false)))⟩])
  (.seq (.seq (.reg [⟨none, .set 5 (.mov (.s 0))⟩])
  (.block 0 (.seq (.seq (.reg [⟨none, .set 7 (.bin .eql (.s 5) (.k (.i .i64 3)))⟩,
    ⟨none, .set 6 (.mov (.s 7))⟩])
   (.cond (.s 6) .skip
    (.reg [⟨none, .set 8 (.bin .eql (.s 5) (.k (.i .i64 11)))⟩,
     ⟨none, .set 6 (.mov (.s 8))⟩])))
   (.cond (.s 6) (.seq (.reg [⟨none, .set 2 (.mov (.k (.i .i64 1)))⟩,
     ⟨none, .set 3 (.mov (.k (.i .i64 1)))⟩,
     ⟨none, .set 4 (.mov (.k (.b true)))⟩])
    .ret)
    (.seq (.seq (.reg [⟨none, .set 10 (.bin .eql (.s 5) (.k (.i .i64 4)))⟩,
     ⟨none, .set 9 (.mov (.s 10))⟩])
    (.cond (.s 9) .skip
     (.seq (.reg [⟨none, .set 11 (.bin .eql (.s 5) (.k (.i .i64 5)))⟩,
      ⟨none, .set 9 (.mov (.s 11))⟩])
     (.cond (.s 9) .skip
      (.reg [⟨none, .set 12 (.bin .eql (.s 5) (.k (.i .i64 12)))⟩,
       ⟨none, .set 9 (.mov (.s 12))⟩])))))
    (.cond (.s 9) (.seq (.reg [⟨none, .set 2 (.mov (.k (.i .i64 1)))⟩,
      ⟨none, .set 3 (.mov (.k (.i .i64 0)))⟩,
      ⟨none, .set 4 (.mov (.k (.b true)))⟩])
     .ret)
     (.seq (.reg [⟨none, .set 14 (.bin .eql (.s 5) (.k (.i .i64 6)))⟩,
      ⟨none, .set 13 (.mov (.s 14))⟩])
     (.cond (.s 13) (.seq (.reg [⟨none, .set 2 (.mov (.k (.i .i64 2)))⟩,
       ⟨none, .set 3 (.mov (.k (.i .i64 0)))⟩,
       ⟨none, .set 4 (.mov (.k (.b true)))⟩])
      .ret)
      (.seq (.reg [⟨none, .set 16 (.bin .eql (.s 5) (.k (.i .i64 8)))⟩,
       ⟨none, .set 15 (.mov (.s 16))⟩])
      (.cond (.s 15) (.seq (.reg [⟨none, .set 2 (.mov (.k (.i .i64 2)))⟩,
        ⟨none, .set 3 (.mov (.k (.i .i64 1)))⟩,
        ⟨none, .set 4 (.mov (.k (.b true)))⟩])
       .ret)
       (.seq (.reg [⟨none, .set 18 (.bin .eql (.s 5) (.k (.i .i64 7)))⟩,
        ⟨none, .set 17 (.mov (.s 18))⟩])
       (.cond (.s 17) (.seq (.reg [⟨none, .set 2 (.mov (.k (.i .i64 2)))⟩,
         ⟨none, .set 3 (.mov (.k (.i .i64 0)))⟩,
         ⟨none, .set 4 (.mov (.k (.b false)))⟩])
        .ret)
        (.seq (.reg [⟨none, .set 20 (.bin .eql (.s 5) (.k (.i .i64 9)))⟩,
         ⟨none, .set 19 (.mov (.s 20))⟩])
        (.cond (.s 19) (.seq (.reg [⟨none, .set 2 (.mov (.k (.i .i64 2)))⟩,
          ⟨none, .set 3 (.mov (.k (.i .i64 1)))⟩,
          ⟨none, .set 4 (.mov (.k (.b false)))⟩])
         .ret)
         .skip))))))))))))))
  (.seq (.reg [⟨none, .set 2 (.mov (.k (.i .i64 0)))⟩,
   ⟨none, .set 3 (.mov (.k (.i .i64 0)))⟩,
   ⟨none, .set 4 (.mov (.k (.b false)))⟩])
  .ret))) }
/-- synchrony/word.Neg -/
def c51 : AF := { nt := 7, res := [.s 2], body := (.seq (.reg [⟨none, .set 2 (.mov (.k (.i .i64 0)))⟩])
  (.seq (.reg [⟨none, .set 3 (.mov (.s 0))⟩,
   ⟨none, .pc 4 76 [.s 3] 0⟩,
   ⟨none, .set 5 (.un .neg (.s 4))⟩,
   ⟨none, .pc 6 76 [.s 5] 0⟩,
   ⟨none, .set 2 (.mov (.s 6))⟩])
  .ret)) }
/-- synchrony/word.Add -/
def c52 : AF := { nt := 11, res := [.s 4], body := (.seq (.reg [⟨none, .set 4 (.mov (.k (.i .i64 0)))⟩])
  (.seq (.reg [⟨none, .set 5 (.mov (.s 0))⟩,
   ⟨none, .pc 6 76 [.s 5] 0⟩,
   ⟨none, .set 7 (.mov (.s 1))⟩,
   ⟨none, .pc 8 76 [.s 7] 0⟩,
   ⟨none, .set 9 (.bin .add (.s 6) (.s 8))⟩,
   ⟨none, .pc 10 76 [.s 9] 0⟩,
   ⟨none, .set 4 (.mov (.s 10))⟩])
  .ret)) }
/-- synchrony/word.Sub -/
def c53 : AF := { nt := 11, res := [.s 4], body := (.seq (.reg [⟨none, .set 4 (.mov (.k (.i .i64 0)))⟩])
  (.seq (.reg [⟨none, .set 5 (.mov (.s 0))⟩,
   ⟨none, .pc 6 76 [.s 5] 0⟩,
   ⟨none, .set 7 (.mov (.s 1))⟩,
   ⟨none, .pc 8 76 [.s 7] 0⟩,
   ⟨none, .set 9 (.bin .sub (.s 6) (.s 8))⟩,
   ⟨none, .pc 10 76 [.s 9] 0⟩,
   ⟨none, .set 4 (.mov (.s 10))⟩])
  .ret)) }
/-- synchrony/word.Mul -/
def c54 : AF := { nt := 11, res := [.s 4], body := (.seq (.reg [⟨none, .set 4 (.mov (.k (.i .i64 0)))⟩])
  (.seq (.reg [⟨none, .set 5 (.mov (.s 0))⟩,
   ⟨none, .pc 6 76 [.s 5] 0⟩,
   ⟨none, .set 7 (.mov (.s 1))⟩,
   ⟨none, .pc 8 76 [.s 7] 0⟩,
   ⟨none, .set 9 (.bin .mul (.s 6) (.s 8))⟩,
   ⟨none, .pc 10 76 [.s 9] 0⟩,
   ⟨none, .set 4 (.mov (.s 10))⟩])
  .ret)) }
/-- synchrony/word.Div -/
def c55 : AF := { nt := 15, res := [.s 4], body := (.seq (.reg [⟨none, .set 4 (.mov (.k (.i .i64 0)))⟩])
  (.seq (.reg [⟨none, .set 5 (.mov (.s 0))⟩,
   ⟨none, .pc 6 76 [.s 5] 0⟩,
   ⟨none, .set 7 (.mov (.s 1))⟩,
   ⟨none, .pc 8 76 [.s 7] 0⟩,
   ⟨none, .set 0 (.mov (.s 6))⟩,
   ⟨none, .set 1 (.mov (.s 8))⟩])
  (.seq (.seq (.reg [⟨none, .set 9 (.mov (.s 1))⟩,
   ⟨none, .set 10 (.bin .eql (.s 9) (.k (.i .i64 0)))⟩])
  (.cond (.s 10) (.seq (.reg [⟨none, .set 4 (.mov (.k (.i .i64 0)))⟩])
   .ret)
   .skip))
  (.seq (.reg [⟨none, .set 11 (.mov (.s 0))⟩,
   ⟨none, .set 12 (.mov (.s 1))⟩,
   ⟨none, .set 13 (.bin .quo (.s 11) (.s 12))⟩,
   ⟨none, .pc 14 76 [.s 13] 0⟩,
   ⟨none, .set 4 (.mov (.s 14))⟩])
  .ret)))) }
/-- synchrony/word.Mod -/
def c56 : AF := { nt := 15, res := [.s 4], body := (.seq (.reg [⟨none, .set 4 (.mov (.k (.i .i64 0)))⟩])
  (.seq (.reg [⟨none, .set 5 (.mov (.s 0))⟩,
   ⟨none, .pc 6 76 [.s 5] 0⟩,
   ⟨none, .set 7 (.mov (.s 1))⟩,
   ⟨none, .pc 8 76 [.s 7] 0⟩,
   ⟨none, .set 0 (.mov (.s 6))⟩,
   ⟨none, .set 1 (.mov (.s 8))⟩])
  (.seq (.seq (.reg [⟨none, .set 9 (.mov (.s 1))⟩,
   ⟨none, .set 10 (.bin .eql (.s 9) (.k (.i .i64 0)))⟩])
  (.cond (.s 10) (.seq (.reg [⟨none, .set 11 (.mov (.s 0))⟩,
    ⟨none, .set 4 (.mov (.s 11))⟩])
   .ret)
   .skip))
  (.seq (.reg [⟨none, .set 12 (.mov (.s 0))⟩,
   ⟨none, .set 13 (.mov (.s 1))⟩,
   ⟨none, .set 14 (.bin .rem (.s 12) (.s 13))⟩,
   ⟨none, .set 4 (.mov (.s 14))⟩])
  .ret)))) }
/-- synchrony/simp.decls -/
def c57 : AF := { nt := 22, res := [.s 2], body := (.seq (.reg [⟨none, .set 2 (.mov (.k (.ns)))⟩])
  (.seq (.reg [⟨none, .set 3 (.mov (.k (.ns)))⟩])
  (.seq (.seq (.reg [⟨none, .mvs 6 0⟩,
   ⟨none, .set 7 (.len false (.s 6))⟩,
   ⟨none, .set 8 (.mov (.k (.i .i64 0)))⟩])
  (.block 0 (.loop [false, false, false, true, false, false, true, true, true, false, false, false, false, false, false, false, false, false, false, false, false, false] (.seq (.reg [⟨none, .set 9 (.bin .lss (.s 8) (.s 7))⟩])
    (.seq (.cond (.s 9) .skip
     (.exit 0))
    (.seq (.block 1 (.seq (.reg [⟨none, .set 10 (.iad (.s 6) (.s 8) 3)⟩,
      ⟨none, .set 11 (.ld (.s 10) 3 true)⟩,
      ⟨none, .bxn 5 [.s [], .i .i64 0, .ns]⟩,
      ⟨none, .stb 5 0 3 (.s 11)⟩])
     (.seq (.reg [⟨none, .fp 12 5 2⟩,
      ⟨none, .set 13 (.ldb 5 2 1 false)⟩,
      ⟨none, .pc 14 59 [.s 13] 0⟩,
      ⟨none, .fp 15 5 2⟩,
      ⟨none, .stb 5 2 1 (.s 14)⟩])
     (.reg [⟨none, .mvs 16 3⟩,
      ⟨none, .set 17 (.ldb 5 0 3 true)⟩,
      ⟨none, .bsl 18 3 [.s 17]⟩,
      ⟨none, .app 19 16 none (.s 18) 3 48 true⟩,
      ⟨none, .mvs 3 19⟩]))))
    (.reg [⟨none, .set 20 (.bin .add (.s 8) (.k (.i .i64 1)))⟩,
     ⟨none, .set 8 (.mov (.s 20))⟩])))))))
  (.seq (.reg [⟨none, .mvs 21 3⟩,
   ⟨none, .mvs 2 21⟩])
  .ret)))) }
/-- slices.Clone[[]string,string] -/
def c58 : AF := { nt := 8, res := [.s 2], body := (.seq (.reg [⟨none, .set 2 (.mov (.k (.ns)))⟩])
  (.seq (.seq (.reg [⟨none, .set 3 (.mov (.s 0))⟩,
   ⟨none, .set 4 (.nleq 0 false (.s 3))⟩])
  (.cond (.s 4) (.seq (.reg [⟨none, .set 2 (.mov (.k (.ns)))⟩])
   .ret)
   .skip))
  (.seq (.reg [⟨none, .bsx 5 1 true⟩,
   ⟨none, .mvs 6 0⟩,
   ⟨none, .app 7 5 none (.s 6) 1 16 true⟩,
   ⟨none, .mvs 2 7⟩])
  .ret))) }
/-- slices.Clone[[]synchrony/api.On,synchrony/api.On] -/
def c59 : AF := { nt := 8, res := [.s 2], body := (.seq (.reg [⟨none, .set 2 (.mov (.k (.ns)))⟩])
  (.seq (.seq (.reg [⟨none, .set 3 (.mov (.s 0))⟩,
   ⟨none, .set 4 (.nleq 0 false (.s 3))⟩])
  (.cond (.s 4) (.seq (.reg [⟨none, .set 2 (.mov (.k (.ns)))⟩])
   .ret)
   .skip))
  (.seq (.reg [⟨none, .bsx 5 3 true⟩,
   ⟨none, .mvs 6 0⟩,
   ⟨none, .app 7 5 none (.s 6) 3 32 true⟩,
   ⟨none, .mvs 2 7⟩])
  .ret))) }
/-- synchrony/simp.whole -/
def c60 : AF := { nt := 8, res := [.c 2 6 true], body := (.seq (.reg [⟨none, .bxv 1 (.s 0)⟩,
   ⟨none, .bxn 2 [.i .i64 0, .i .i64 0, .i .i64 0, .i .i64 0, .s [], .ns]⟩])
  (.seq (.reg [⟨none, .fp 3 1 5⟩,
   ⟨none, .set 4 (.ldb 1 5 1 false)⟩,
   ⟨none, .pc 5 20 [.s 4, .k (.fn 60 [])] 0⟩,
   ⟨none, .fp 6 1 5⟩,
   ⟨none, .stb 1 5 1 (.s 5)⟩])
  (.seq (.reg [⟨none, .set 7 (.ldb 1 0 6 true)⟩,
   ⟨none, .stb 2 0 6 (.s 7)⟩])
  .ret))) }
/-- synchrony/simp.put$1 -/
def c61 : AF := { nt := 27, res := [.c 4 6 true], body := (.seq (.reg [⟨none, .bxv 3 (.s 0)⟩,
   ⟨none, .bxn 4 [.i .i64 0, .i .i64 0, .i .i64 0, .i .i64 0, .s [], .ns]⟩])
  (.seq (.seq (.reg [⟨none, .set 8 (.ld (.s 1) 1 false)⟩,
   ⟨none, .fp 9 3 4⟩,
   ⟨none, .set 10 (.ldb 3 4 1 false)⟩,
   ⟨none, .lkp 11 (.s 8) (.s 10) .s [.i .i64 0, .i .i64 0, .i .i64 0, .i .i64 0, .s [], .ns] true true⟩,
   ⟨none, .mvs 7 11⟩,
   ⟨none, .ext 12 7 0⟩,
   ⟨none, .ext 13 7 1⟩,
   ⟨none, .bxn 5 [.i .i64 0, .i .i64 0, .i .i64 0, .i .i64 0, .s [], .ns]⟩,
   ⟨none, .stb 5 0 6 (.s 12)⟩,
   ⟨none, .set 6 (.mov (.s 13))⟩])
  (.seq (.reg [⟨none, .set 14 (.mov (.s 6))⟩,
   ⟨none, .set 15 (.mov (.s 14))⟩,
   ⟨some (15, true), .fp 16 3 0⟩,
   ⟨some (15, true), .set 17 (.ldb 3 0 1 false)⟩,
   ⟨some (15, true), .set 18 (.bin .eql (.s 17) (.k (.i .i64 2)))⟩,
   ⟨none, .set 19 (.pick (.s 15) (.s 18) (.k (.b false)))⟩])
  (.cond (.s 19) (.seq (.reg [⟨none, .set 20 (.ldb 5 0 6 true)⟩,
    ⟨none, .stb 4 0 6 (.s 20)⟩])
   .ret)
   .skip)))
  (.seq (.reg [⟨none, .fp 21 3 5⟩,
   ⟨none, .set 22 (.ldb 3 5 1 false)⟩,
   ⟨none, .set 23 (.ld (.s 2) 1 false)⟩,
   ⟨none, .tc 24 20 [.s 22, .s 23] none 0⟩,
   ⟨none, .fp 25 3 5⟩,
   ⟨none, .stb 3 5 1 (.s 24)⟩])
  (.seq (.reg [⟨none, .set 26 (.ldb 3 0 6 true)⟩,
   ⟨none, .stb 4 0 6 (.s 26)⟩])
  .ret)))) }
/-- synchrony/simp.single -/
def c62 : AF := { nt := 12, res := [.s 2, .s 3], body := (.seq (.reg [⟨none, .bxv 1 (.s 0)⟩,
   ⟨none, .set 2 (.mov (.k (.s [])))⟩,
   ⟨none, .set 3 (.mov (.k (.b false)))⟩])
  (.seq (.seq (.reg [⟨none, .fp 4 1 1⟩,
   ⟨none, .set 5 (.ldb 1 1 1 false)⟩,
   ⟨none, .set 6 (.len false (.s 5))⟩,
   ⟨none, .set 7 (.bin .neq (.s 6) (.k (.i .i64 1)))⟩])
  (.cond (.s 7) (.seq (.reg [⟨none, .set 2 (.mov (.k (.s [])))⟩,
    ⟨none, .set 3 (.mov (.k (.b false)))⟩])
   .ret)
   .skip))
  (.seq (.reg [⟨none, .fp 8 1 1⟩,
   ⟨none, .set 9 (.ldb 1 1 1 false)⟩,
   ⟨none, .set 10 (.iad (.s 9) (.k (.i .i64 0)) 1)⟩,
   ⟨none, .set 11 (.ld (.s 10) 1 false)⟩,
   ⟨none, .set 2 (.mov (.s 11))⟩,
   ⟨none, .set 3 (.mov (.k (.b true)))⟩])
  .ret))) }
/-- synchrony/norm.Same -/
def c63 : AF := { nt := 17, res := [.s 4], body := (.seq (.reg [⟨none, .bxv 2 (.s 0)⟩,
   ⟨none, .bxv 3 (.s 1)⟩,
   ⟨none, .set 4 (.mov (.k (.b false)))⟩])
  (.seq (.reg [⟨none, .fp 5 2 0⟩,
   ⟨none, .set 6 (.ldb 2 0 1 false)⟩,
   ⟨none, .fp 7 3 0⟩,
   ⟨none, .set 8 (.ldb 3 0 1 false)⟩,
   ⟨none, .pc 9 77 [.s 6, .s 8, .k (.fn 78 [])] 0⟩,
   ⟨none, .set 10 (.mov (.s 9))⟩,
   ⟨some (10, true), .fp 11 2 1⟩,
   ⟨some (10, true), .set 12 (.ldb 2 1 1 false)⟩,
   ⟨some (10, true), .fp 13 3 1⟩,
   ⟨some (10, true), .set 14 (.ldb 3 1 1 false)⟩,
   ⟨some (10, true), .pc 15 80 [.s 12, .s 14, .k (.fn 81 [])] 0⟩,
   ⟨none, .set 16 (.pick (.s 10) (.s 15) (.k (.b false)))⟩,
   ⟨none, .set 4 (.mov (.s 16))⟩])
  .ret)) }
/-- slices.IndexFunc[[]string,string] -/
def c64 : AF := { nt := 19, res := [.s 4], body := (.seq (.reg [⟨none, .set 4 (.mov (.k (.i .i64 0)))⟩])
  (.seq (.seq (.reg [⟨none, .set 6 (.mov (.s 0))⟩,
   ⟨none, .set 7 (.len false (.s 6))⟩,
   ⟨none, .set 8 (.mov (.k (.i .i64 0)))⟩])
  (.block 0 (.loop [true, true, false, false, false, false, false, true, true, false, false, false, false, false, false, false, false, false, false] (.seq (.reg [⟨none, .set 9 (.bin .lss (.s 8) (.s 7))⟩])
    (.seq (.cond (.s 9) .skip
     (.exit 0))
    (.seq (.block 1 (.seq (.reg [⟨none, .set 10 (.mov (.s 8))⟩,
      ⟨none, .set 5 (.mov (.s 10))⟩])
     (.seq (.reg [⟨none, .set 11 (.mov (.s 1))⟩,
      ⟨none, .set 12 (.mov (.s 0))⟩,
      ⟨none, .set 13 (.mov (.s 5))⟩,
      ⟨none, .set 14 (.iad (.s 12) (.s 13) 1)⟩,
      ⟨none, .set 15 (.ld (.s 14) 1 false)⟩,
      ⟨none, .ct 16 (.s 11) [.s 15] 0⟩])
     (.cond (.s 16) (.seq (.reg [⟨none, .set 17 (.mov (.s 5))⟩,
       ⟨none, .set 4 (.mov (.s 17))⟩])
      .ret)
      .skip))))
    (.reg [⟨none, .set 18 (.bin .add (.s 8) (.k (.i .i64 1)))⟩,
     ⟨none, .set 8 (.mov (.s 18))⟩])))))))
  (.seq (.reg [⟨none, .set 4 (.mov (.k (.i .i64 (-1))))⟩])
  .ret))) }
/-- synchrony/expr.Names -/
def c65 : AF := { nt := 5, res := [.s 2], body := (.seq (.reg [⟨none, .bxv 1 (.s 0)⟩,
   ⟨none, .set 2 (.mov (.k (.ns)))⟩])
  (.seq (.reg [⟨none, .set 3 (.ldb 1 0 6 true)⟩,
   ⟨none, .tc 4 85 [.k (.ns), .s 3, .k (.b false)] none 2⟩,
   ⟨none, .mvs 2 4⟩])
  .ret)) }
/-- slices.Index[[]string,string] -/
def c66 : AF := { nt := 19, res := [.s 4], body := (.seq (.reg [⟨none, .set 4 (.mov (.k (.i .i64 0)))⟩])
  (.seq (.seq (.reg [⟨none, .set 6 (.mov (.s 0))⟩,
   ⟨none, .set 7 (.len false (.s 6))⟩,
   ⟨none, .set 8 (.mov (.k (.i .i64 0)))⟩])
  (.block 0 (.loop [true, true, false, false, false, false, false, true, true, false, false, false, false, false, false, false, false, false, false] (.seq (.reg [⟨none, .set 9 (.bin .lss (.s 8) (.s 7))⟩])
    (.seq (.cond (.s 9) .skip
     (.exit 0))
    (.seq (.block 1 (.seq (.reg [⟨none, .set 10 (.mov (.s 8))⟩,
      ⟨none, .set 5 (.mov (.s 10))⟩])
     (.seq (.reg [⟨none, .set 11 (.mov (.s 1))⟩,
      ⟨none, .set 12 (.mov (.s 0))⟩,
      ⟨none, .set 13 (.mov (.s 5))⟩,
      ⟨none, .set 14 (.iad (.s 12) (.s 13) 1)⟩,
      ⟨none, .set 15 (.ld (.s 14) 1 false)⟩,
      ⟨none, .set 16 (.bin .eql (.s 11) (.s 15))⟩])
     (.cond (.s 16) (.seq (.reg [⟨none, .set 17 (.mov (.s 5))⟩,
       ⟨none, .set 4 (.mov (.s 17))⟩])
      .ret)
      .skip))))
    (.reg [⟨none, .set 18 (.bin .add (.s 8) (.k (.i .i64 1)))⟩,
     ⟨none, .set 8 (.mov (.s 18))⟩])))))))
  (.seq (.reg [⟨none, .set 4 (.mov (.k (.i .i64 (-1))))⟩])
  .ret))) }
/-- slices.IndexFunc[[]synchrony/api.Decl,synchrony/api.Decl] -/
def c67 : AF := { nt := 19, res := [.s 4], body := (.seq (.reg [⟨none, .set 4 (.mov (.k (.i .i64 0)))⟩])
  (.seq (.seq (.reg [⟨none, .set 6 (.mov (.s 0))⟩,
   ⟨none, .set 7 (.len false (.s 6))⟩,
   ⟨none, .set 8 (.mov (.k (.i .i64 0)))⟩])
  (.block 0 (.loop [true, true, false, false, false, false, false, true, true, false, false, false, false, false, false, false, false, false, false] (.seq (.reg [⟨none, .set 9 (.bin .lss (.s 8) (.s 7))⟩])
    (.seq (.cond (.s 9) .skip
     (.exit 0))
    (.seq (.block 1 (.seq (.reg [⟨none, .set 10 (.mov (.s 8))⟩,
      ⟨none, .set 5 (.mov (.s 10))⟩])
     (.seq (.reg [⟨none, .set 11 (.mov (.s 1))⟩,
      ⟨none, .set 12 (.mov (.s 0))⟩,
      ⟨none, .set 13 (.mov (.s 5))⟩,
      ⟨none, .set 14 (.iad (.s 12) (.s 13) 3)⟩,
      ⟨none, .set 15 (.ld (.s 14) 3 true)⟩,
      ⟨none, .ct 16 (.s 11) [.s 15] 0⟩])
     (.cond (.s 16) (.seq (.reg [⟨none, .set 17 (.mov (.s 5))⟩,
       ⟨none, .set 4 (.mov (.s 17))⟩])
      .ret)
      .skip))))
    (.reg [⟨none, .set 18 (.bin .add (.s 8) (.k (.i .i64 1)))⟩,
     ⟨none, .set 8 (.mov (.s 18))⟩])))))))
  (.seq (.reg [⟨none, .set 4 (.mov (.k (.i .i64 (-1))))⟩])
  .ret))) }
/-- synchrony/simp.is -/
def c68 : AF := { nt := 22, res := [.s 6], body := (.seq (.reg [⟨none, .bxv 3 (.s 0)⟩,
   ⟨none, .set 6 (.mov (.k (.b false)))⟩])
  (.seq (.reg [⟨none, .fp 7 3 0⟩,
   ⟨none, .set 8 (.ldb 3 0 1 false)⟩,
   ⟨none, .set 9 (.bin .eql (.s 8) (.k (.i .i64 1)))⟩,
   ⟨none, .set 10 (.mov (.s 9))⟩,
   ⟨some (10, true), .fp 11 3 2⟩,
   ⟨some (10, true), .set 12 (.ldb 3 2 1 false)⟩,
   ⟨some (10, true), .set 13 (.mov (.s 1))⟩,
   ⟨some (10, true), .set 14 (.bin .eql (.s 12) (.s 13))⟩,
   ⟨none, .set 15 (.pick (.s 10) (.s 14) (.k (.b false)))⟩,
   ⟨none, .set 16 (.mov (.s 15))⟩,
   ⟨some (16, true), .fp 17 3 3⟩,
   ⟨some (16, true), .set 18 (.ldb 3 3 1 false)⟩,
   ⟨some (16, true), .set 19 (.mov (.s 2))⟩,
   ⟨some (16, true), .set 20 (.bin .eql (.s 18) (.s 19))⟩,
   ⟨none, .set 21 (.pick (.s 16) (.s 20) (.k (.b false)))⟩,
   ⟨none, .set 6 (.mov (.s 21))⟩])
  .ret)) }
/-- synchrony/simp.operator -/
def c69 : AF := { nt := 23, res := [.s 6], body := (.seq (.reg [⟨none, .bxv 3 (.s 0)⟩,
   ⟨none, .set 6 (.mov (.k (.b false)))⟩])
  (.seq (.reg [⟨none, .fp 7 3 0⟩,
   ⟨none, .set 8 (.ldb 3 0 1 false)⟩,
   ⟨none, .set 9 (.bin .eql (.s 8) (.k (.i .i64 3)))⟩,
   ⟨none, .set 10 (.mov (.s 9))⟩,
   ⟨some (10, true), .fp 11 3 1⟩,
   ⟨some (10, true), .set 12 (.ldb 3 1 1 false)⟩,
   ⟨some (10, true), .set 13 (.mov (.s 1))⟩,
   ⟨some (10, true), .set 14 (.bin .eql (.s 12) (.s 13))⟩,
   ⟨none, .set 15 (.pick (.s 10) (.s 14) (.k (.b false)))⟩,
   ⟨none, .set 16 (.mov (.s 15))⟩,
   ⟨some (16, true), .fp 17 3 5⟩,
   ⟨some (16, true), .set 18 (.ldb 3 5 1 false)⟩,
   ⟨some (16, true), .set 19 (.len false (.s 18))⟩,
   ⟨some (16, true), .set 20 (.mov (.s 2))⟩,
   ⟨some (16, true), .set 21 (.bin .eql (.s 19) (.s 20))⟩,
   ⟨none, .set 22 (.pick (.s 16) (.s 21) (.k (.b false)))⟩,
   ⟨none, .set 6 (.mov (.s 22))⟩])
  .ret)) }
/-- synchrony/synchronyref05.operands -/
def c70 : AF := { nt := 15, res := [.s 2], body := (.seq (.reg [⟨none, .set 2 (.mov (.k (.i .i64 0)))⟩])
  (.seq (.seq (.reg [⟨none, .set 3 (.mov (.s 0))⟩,
   ⟨none, .set 4 (.bin .eql (.s 3) (.k (.i .i64 1)))⟩,
   ⟨none, .set 5 (.mov (.s 4))⟩,
   ⟨some (5, false), .set 6 (.mov (.s 0))⟩,
   ⟨some (5, false), .set 7 (.bin .eql (.s 6) (.k (.i .i64 2)))⟩,
   ⟨none, .set 8 (.pick (.s 5) (.k (.b true)) (.s 7))⟩])
  (.cond (.s 8) (.seq (.reg [⟨none, .set 2 (.mov (.k (.i .i64 1)))⟩])
   .ret)
   .skip))
  (.seq (.seq (.reg [⟨none, .set 9 (.mov (.s 0))⟩,
   ⟨none, .set 10 (.bin .gtr (.s 9) (.k (.i .i64 2)))⟩,
   ⟨none, .set 11 (.mov (.s 10))⟩,
   ⟨some (11, true), .set 12 (.mov (.s 0))⟩,
   ⟨some (11, true), .set 13 (.bin .leq (.s 12) (.k (.i .i64 16)))⟩,
   ⟨none, .set 14 (.pick (.s 11) (.s 13) (.k (.b false)))⟩])
  (.cond (.s 14) (.seq (.reg [⟨none, .set 2 (.mov (.k (.i .i64 2)))⟩])
   .ret)
   .skip))
  (.seq (.reg [⟨none, .set 2 (.mov (.k (.i .i64 0)))⟩])
  .ret)))) }
/-- synchrony/synchronyref05.boolean -/
def c71 : AF := { nt := 17, res := [.s 2], body := (.seq (.reg [⟨none, .set 2 (.mov (.k (.b false)))⟩])
  (.seq (.reg [⟨none, .set 3 (.mov (.s 0))⟩,
   ⟨none, .set 4 (.bin .eql (.s 3) (.k (.i .i64 1)))⟩,
   ⟨none, .set 5 (.mov (.s 4))⟩,
   ⟨some (5, false), .set 6 (.mov (.s 0))⟩,
   ⟨some (5, false), .set 7 (.bin .eql (.s 6) (.k (.i .i64 3)))⟩,
   ⟨none, .set 8 (.pick (.s 5) (.k (.b true)) (.s 7))⟩,
   ⟨none, .set 9 (.mov (.s 8))⟩,
   ⟨some (9, false), .set 10 (.mov (.s 0))⟩,
   ⟨some (9, false), .set 11 (.bin .eql (.s 10) (.k (.i .i64 4)))⟩,
   ⟨none, .set 12 (.pick (.s 9) (.k (.b true)) (.s 11))⟩,
   ⟨none, .set 13 (.mov (.s 12))⟩,
   ⟨some (13, false), .set 14 (.mov (.s 0))⟩,
   ⟨some (13, false), .set 15 (.bin .eql (.s 14) (.k (.i .i64 5)))⟩,
   ⟨none, .set 16 (.pick (.s 13) (.k (.b true)) (.s 15))⟩,
   ⟨none, .set 2 (.mov (.s 16))⟩])
  .ret)) }
/-- synchrony/synchronyref05.equality -/
def c72 : AF := { nt := 9, res := [.s 2], body := (.seq (.reg [⟨none, .set 2 (.mov (.k (.b false)))⟩])
  (.seq (.reg [⟨none, .set 3 (.mov (.s 0))⟩,
   ⟨none, .set 4 (.bin .eql (.s 3) (.k (.i .i64 11)))⟩,
   ⟨none, .set 5 (.mov (.s 4))⟩,
   ⟨some (5, false), .set 6 (.mov (.s 0))⟩,
   ⟨some (5, false), .set 7 (.bin .eql (.s 6) (.k (.i .i64 12)))⟩,
   ⟨none, .set 8 (.pick (.s 5) (.k (.b true)) (.s 7))⟩,
   ⟨none, .set 2 (.mov (.s 8))⟩])
  .ret)) }
/-- synchrony/synchronyref05.arithmetic -/
def c73 : AF := { nt := 13, res := [.s 2], body := (.seq (.reg [⟨none, .set 2 (.mov (.k (.b false)))⟩])
  (.seq (.reg [⟨none, .set 3 (.mov (.s 0))⟩,
   ⟨none, .set 4 (.bin .eql (.s 3) (.k (.i .i64 2)))⟩,
   ⟨none, .set 5 (.mov (.s 4))⟩,
   ⟨some (5, false), .set 6 (.mov (.s 0))⟩,
   ⟨some (5, false), .set 7 (.bin .geq (.s 6) (.k (.i .i64 6)))⟩,
   ⟨some (5, false), .set 8 (.mov (.s 7))⟩,
   ⟨some (8, true), .set 9 (.mov (.s 0))⟩,
   ⟨some (8, true), .set 10 (.bin .leq (.s 9) (.k (.i .i64 10)))⟩,
   ⟨some (5, false), .set 11 (.pick (.s 8) (.s 10) (.k (.b false)))⟩,
   ⟨none, .set 12 (.pick (.s 5) (.k (.b true)) (.s 11))⟩,
   ⟨none, .set 2 (.mov (.s 12))⟩])
  .ret)) }
/-- synchrony/synchronyref01.Neg -/
def c74 : AF := { nt := 7, res := [.s 2], body := (.seq (.reg [⟨none, .set 2 (.mov (.k (.i .i64 0)))⟩])
  (.seq (.reg [⟨none, .set 3 (.mov (.s 0))⟩,
   ⟨none, .pc 4 86 [.s 3] 0⟩,
   ⟨none, .set 5 (.un .neg (.s 4))⟩,
   ⟨none, .pc 6 86 [.s 5] 0⟩,
   ⟨none, .set 2 (.mov (.s 6))⟩])
  .ret)) }
/-- synchrony/synchronyref05.compute -/
def c75 : AF := { nt := 85, res := [.s 6], body := (.seq (.reg [⟨none, .set 6 (.mov (.k (.i .i64 0)))⟩])
  (.seq (.seq (.reg [⟨none, .set 7 (.mov (.s 0))⟩])
  (.block 0 (.seq (.reg [⟨none, .set 9 (.bin .eql (.s 7) (.k (.i .i64 3)))⟩,
    ⟨none, .set 8 (.mov (.s 9))⟩])
   (.cond (.s 8) (.seq (.reg [⟨none, .set 10 (.mov (.s 1))⟩,
     ⟨none, .set 11 (.mov (.s 2))⟩,
     ⟨none, .set 12 (.bin .mul (.s 10) (.s 11))⟩,
     ⟨none, .set 6 (.mov (.s 12))⟩])
    .ret)
    (.seq (.reg [⟨none, .set 14 (.bin .eql (.s 7) (.k (.i .i64 4)))⟩,
     ⟨none, .set 13 (.mov (.s 14))⟩])
    (.cond (.s 13) (.seq (.reg [⟨none, .set 15 (.mov (.s 1))⟩,
      ⟨none, .set 16 (.mov (.s 2))⟩,
      ⟨none, .set 17 (.bin .add (.s 15) (.s 16))⟩,
      ⟨none, .set 18 (.bin .gtr (.s 17) (.k (.i .i64 0)))⟩,
      ⟨none, .pc 19 87 [.s 18] 0⟩,
      ⟨none, .set 6 (.mov (.s 19))⟩])
     .ret)
     (.seq (.reg [⟨none, .set 21 (.bin .eql (.s 7) (.k (.i .i64 5)))⟩,
      ⟨none, .set 20 (.mov (.s 21))⟩])
     (.cond (.s 20) (.seq (.reg [⟨none, .set 22 (.mov (.s 1))⟩,
       ⟨none, .set 23 (.mov (.s 2))⟩,
       ⟨none, .set 24 (.bin .neq (.s 22) (.s 23))⟩,
       ⟨none, .pc 25 87 [.s 24] 0⟩,
       ⟨none, .set 6 (.mov (.s 25))⟩])
      .ret)
      (.seq (.reg [⟨none, .set 27 (.bin .eql (.s 7) (.k (.i .i64 6)))⟩,
       ⟨none, .set 26 (.mov (.s 27))⟩])
      (.cond (.s 26) (.seq (.reg [⟨none, .set 28 (.mov (.s 1))⟩,
        ⟨none, .set 29 (.mov (.s 2))⟩,
        ⟨none, .pc 30 88 [.s 28, .s 29] 0⟩,
        ⟨none, .set 6 (.mov (.s 30))⟩])
       .ret)
       (.seq (.reg [⟨none, .set 32 (.bin .eql (.s 7) (.k (.i .i64 7)))⟩,
        ⟨none, .set 31 (.mov (.s 32))⟩])
       (.cond (.s 31) (.seq (.reg [⟨none, .set 33 (.mov (.s 1))⟩,
         ⟨none, .set 34 (.mov (.s 2))⟩,
         ⟨none, .pc 35 89 [.s 33, .s 34] 0⟩,
         ⟨none, .set 6 (.mov (.s 35))⟩])
        .ret)
        (.seq (.reg [⟨none, .set 37 (.bin .eql (.s 7) (.k (.i .i64 8)))⟩,
         ⟨none, .set 36 (.mov (.s 37))⟩])
        (.cond (.s 36) (.seq (.reg [⟨none, .set 38 (.mov (.s 1))⟩,
          ⟨none, .set 39 (.mov (.s 2))⟩,
          ⟨none, .pc 40 90 [.s 38, .s 39] 0⟩,
          ⟨none, .set 6 (.mov (.s 40))⟩])
         .ret)
         (.seq (.reg [⟨none, .set 42 (.bin .eql (.s 7) (.k (.i .i64 9)))⟩,
          ⟨none, .set 41 (.mov (.s 42))⟩])
         (.cond (.s 41) (.seq (.reg [⟨none, .set 43 (.mov (.s 1))⟩,
           ⟨none, .set 44 (.mov (.s 2))⟩,
           ⟨none, .pc 45 91 [.s 43, .s 44] 0⟩,
           ⟨none, .set 6 (.mov (.s 45))⟩])
          .ret)
          (.seq (.reg [⟨none, .set 47 (.bin .eql (.s 7) (.k (.i .i64 10)))⟩,
           ⟨none, .set 46 (.mov (.s 47))⟩])
          (.cond (.s 46) (.seq (.reg [⟨none, .set 48 (.mov (.s 1))⟩,
            ⟨none, .set 49 (.mov (.s 2))⟩,
            ⟨none, .pc 50 92 [.s 48, .s 49] 0⟩,
            ⟨none, .set 6 (.mov (.s 50))⟩])
           .ret)
           (.seq (.reg [⟨none, .set 52 (.bin .eql (.s 7) (.k (.i .i64 11)))⟩,
            ⟨none, .set 51 (.mov (.s 52))⟩])
           (.cond (.s 51) (.seq (.reg [⟨none, .set 53 (.mov (.s 1))⟩,
             ⟨none, .set 54 (.mov (.s 2))⟩,
             ⟨none, .set 55 (.bin .eql (.s 53) (.s 54))⟩,
             ⟨none, .pc 56 87 [.s 55] 0⟩,
             ⟨none, .set 6 (.mov (.s 56))⟩])
            .ret)
            (.seq (.reg [⟨none, .set 58 (.bin .eql (.s 7) (.k (.i .i64 12)))⟩,
             ⟨none, .set 57 (.mov (.s 58))⟩])
            (.cond (.s 57) (.seq (.reg [⟨none, .set 59 (.mov (.s 1))⟩,
              ⟨none, .set 60 (.mov (.s 2))⟩,
              ⟨none, .set 61 (.bin .neq (.s 59) (.s 60))⟩,
              ⟨none, .pc 62 87 [.s 61] 0⟩,
              ⟨none, .set 6 (.mov (.s 62))⟩])
             .ret)
             (.seq (.reg [⟨none, .set 64 (.bin .eql (.s 7) (.k (.i .i64 13)))⟩,
              ⟨none, .set 63 (.mov (.s 64))⟩])
             (.cond (.s 63) (.seq (.reg [⟨none, .set 65 (.mov (.s 1))⟩,
               ⟨none, .set 66 (.mov (.s 2))⟩,
               ⟨none, .set 67 (.bin .lss (.s 65) (.s 66))⟩,
               ⟨none, .pc 68 87 [.s 67] 0⟩,
               ⟨none, .set 6 (.mov (.s 68))⟩])
              .ret)
              (.seq (.reg [⟨none, .set 70 (.bin .eql (.s 7) (.k (.i .i64 14)))⟩,
               ⟨none, .set 69 (.mov (.s 70))⟩])
              (.cond (.s 69) (.seq (.reg [⟨none, .set 71 (.mov (.s 1))⟩,
                ⟨none, .set 72 (.mov (.s 2))⟩,
                ⟨none, .set 73 (.bin .leq (.s 71) (.s 72))⟩,
                ⟨none, .pc 74 87 [.s 73] 0⟩,
                ⟨none, .set 6 (.mov (.s 74))⟩])
               .ret)
               (.seq (.reg [⟨none, .set 76 (.bin .eql (.s 7) (.k (.i .i64 15)))⟩,
                ⟨none, .set 75 (.mov (.s 76))⟩])
               (.cond (.s 75) (.seq (.reg [⟨none, .set 77 (.mov (.s 1))⟩,
                 ⟨none, .set 78 (.mov (.s 2))⟩,
                 ⟨none, .set 79 (.bin .gtr (.s 77) (.s 78))⟩,
                 ⟨none, .pc 80 87 [.s 79] 0⟩,
                 ⟨none, .set 6 (.mov (.s 80))⟩])
                .ret)
                .skip))))))))))))))))))))))))))))
  (.seq (.reg [⟨none, .set 81 (.mov (.s 1))⟩,
   ⟨none, .set 82 (.mov (.s 2))⟩,
   ⟨none, .set 83 (.bin .geq (.s 81) (.s 82))⟩,
   ⟨none, .pc 84 87 [.s 83] 0⟩,
   ⟨none, .set 6 (.mov (.s 84))⟩])
  .ret))) }
/-- synchrony/word.Wrap -/
def c76 : AF := { nt := 6, res := [.s 2], body := (.seq (.reg [⟨none, .set 2 (.mov (.k (.i .i64 0)))⟩])
  (.seq (.reg [⟨none, .set 3 (.mov (.s 0))⟩,
   ⟨none, .set 4 (.cnv .i16 (.s 3))⟩,
   ⟨none, .set 5 (.cnv .i64 (.s 4))⟩,
   ⟨none, .set 2 (.mov (.s 5))⟩])
  .ret)) }
/-- slices.EqualFunc[[]synchrony/api.Enum,[]synchrony/api.Enum,synchrony/api.Enum,synchrony/api.Enum] -/
def c77 : AF := { nt := 32, res := [.s 6], body := (.seq (.reg [⟨none, .set 6 (.mov (.k (.b false)))⟩])
  (.seq (.seq (.reg [⟨none, .set 10 (.mov (.s 0))⟩,
   ⟨none, .set 11 (.len false (.s 10))⟩,
   ⟨none, .set 12 (.mov (.s 1))⟩,
   ⟨none, .set 13 (.len false (.s 12))⟩,
   ⟨none, .set 14 (.bin .neq (.s 11) (.s 13))⟩])
  (.cond (.s 14) (.seq (.reg [⟨none, .set 6 (.mov (.k (.b false)))⟩])
   .ret)
   .skip))
  (.seq (.seq (.reg [⟨none, .mvs 15 0⟩,
   ⟨none, .set 16 (.len false (.s 15))⟩,
   ⟨none, .set 17 (.mov (.k (.i .i64 0)))⟩])
  (.block 0 (.loop [false, true, true, false, false, false, false, false, false, false, false, false, false, false, false, true, true, true, false, false, false, false, false, false, false, false, false, false, false, false, false, false] (.seq (.reg [⟨none, .set 18 (.bin .lss (.s 17) (.s 16))⟩])
    (.seq (.cond (.s 18) .skip
     (.exit 0))
    (.seq (.block 1 (.seq (.reg [⟨none, .set 19 (.mov (.s 17))⟩,
      ⟨none, .set 20 (.iad (.s 15) (.s 17) 2)⟩,
      ⟨none, .set 21 (.ld (.s 20) 2 true)⟩,
      ⟨none, .bxn 8 [.s [], .ns]⟩,
      ⟨none, .set 7 (.mov (.s 19))⟩,
      ⟨none, .stb 8 0 2 (.s 21)⟩])
     (.seq (.reg [⟨none, .set 22 (.mov (.s 1))⟩,
      ⟨none, .set 23 (.mov (.s 7))⟩,
      ⟨none, .set 24 (.iad (.s 22) (.s 23) 2)⟩,
      ⟨none, .set 25 (.ld (.s 24) 2 true)⟩,
      ⟨none, .bxn 9 [.s [], .ns]⟩,
      ⟨none, .stb 9 0 2 (.s 25)⟩])
     (.seq (.reg [⟨none, .set 26 (.mov (.s 2))⟩,
      ⟨none, .set 27 (.ldb 8 0 2 true)⟩,
      ⟨none, .set 28 (.ldb 9 0 2 true)⟩,
      ⟨none, .ct 29 (.s 26) [.s 27, .s 28] 0⟩,
      ⟨none, .set 30 (.un .not (.s 29))⟩])
     (.cond (.s 30) (.seq (.reg [⟨none, .set 6 (.mov (.k (.b false)))⟩])
      .ret)
      .skip)))))
    (.reg [⟨none, .set 31 (.bin .add (.s 17) (.k (.i .i64 1)))⟩,
     ⟨none, .set 17 (.mov (.s 31))⟩])))))))
  (.seq (.reg [⟨none, .set 6 (.mov (.k (.b true)))⟩])
  .ret)))) }
/-- synchrony/norm.Same$1 -/
def c78 : AF := { nt := 17, res := [.s 4], body := (.seq (.reg [⟨none, .bxv 2 (.s 0)⟩,
   ⟨none, .bxv 3 (.s 1)⟩,
   ⟨none, .set 4 (.mov (.k (.b false)))⟩])
  (.seq (.reg [⟨none, .fp 5 2 0⟩,
   ⟨none, .set 6 (.ldb 2 0 1 false)⟩,
   ⟨none, .fp 7 3 0⟩,
   ⟨none, .set 8 (.ldb 3 0 1 false)⟩,
   ⟨none, .set 9 (.bin .eql (.s 6) (.s 8))⟩,
   ⟨none, .set 10 (.mov (.s 9))⟩,
   ⟨some (10, true), .fp 11 2 1⟩,
   ⟨some (10, true), .set 12 (.ldb 2 1 1 false)⟩,
   ⟨some (10, true), .fp 13 3 1⟩,
   ⟨some (10, true), .set 14 (.ldb 3 1 1 false)⟩,
   ⟨some (10, true), .pc 15 79 [.s 12, .s 14] 0⟩,
   ⟨none, .set 16 (.pick (.s 10) (.s 15) (.k (.b false)))⟩,
   ⟨none, .set 4 (.mov (.s 16))⟩])
  .ret)) }
/-- slices.Equal[[]string,string] -/
def c79 : AF := { nt := 26, res := [.s 4], body := (.seq (.reg [⟨none, .set 4 (.mov (.k (.b false)))⟩])
  (.seq (.seq (.reg [⟨none, .set 6 (.mov (.s 0))⟩,
   ⟨none, .set 7 (.len false (.s 6))⟩,
   ⟨none, .set 8 (.mov (.s 1))⟩,
   ⟨none, .set 9 (.len false (.s 8))⟩,
   ⟨none, .set 10 (.bin .neq (.s 7) (.s 9))⟩])
  (.cond (.s 10) (.seq (.reg [⟨none, .set 4 (.mov (.k (.b false)))⟩])
   .ret)
   .skip))
  (.seq (.seq (.reg [⟨none, .set 11 (.mov (.s 0))⟩,
   ⟨none, .set 12 (.len false (.s 11))⟩,
   ⟨none, .set 13 (.mov (.k (.i .i64 0)))⟩])
  (.block 0 (.loop [true, true, false, false, false, false, false, false, false, false, false, false, true, true, false, false, false, false, false, false, false, false, false, false, false, false] (.seq (.reg [⟨none, .set 14 (.bin .lss (.s 13) (.s 12))⟩])
    (.seq (.cond (.s 14) .skip
     (.exit 0))
    (.seq (.block 1 (.seq (.reg [⟨none, .set 15 (.mov (.s 13))⟩,
      ⟨none, .set 5 (.mov (.s 15))⟩])
     (.seq (.drw [⟨none, .set 16 (.mov (.s 0))⟩,
      ⟨none, .set 17 (.mov (.s 5))⟩,
      ⟨none, .set 18 (.iad (.s 16) (.s 17) 1)⟩,
      ⟨none, .set 19 (.ld (.s 18) 1 false)⟩,
      ⟨none, .set 20 (.mov (.s 1))⟩,
      ⟨none, .set 21 (.mov (.s 5))⟩,
      ⟨none, .set 22 (.iad (.s 20) (.s 21) 1)⟩,
      ⟨none, .set 23 (.ld (.s 22) 1 false)⟩,
      ⟨none, .set 24 (.bin .neq (.s 19) (.s 23))⟩])
     (.cond (.s 24) (.seq (.reg [⟨none, .set 4 (.mov (.k (.b false)))⟩])
      .ret)
      .skip))))
    (.reg [⟨none, .set 25 (.bin .add (.s 13) (.k (.i .i64 1)))⟩,
     ⟨none, .set 13 (.mov (.s 25))⟩])))))))
  (.seq (.reg [⟨none, .set 4 (.mov (.k (.b true)))⟩])
  .ret)))) }
/-- slices.EqualFunc[[]synchrony/api.NNode,[]synchrony/api.NNode,synchrony/api.NNode,synchrony/api.NNode] -/
def c80 : AF := { nt := 32, res := [.s 6], body := (.seq (.reg [⟨none, .set 6 (.mov (.k (.b false)))⟩])
  (.seq (.seq (.reg [⟨none, .set 10 (.mov (.s 0))⟩,
   ⟨none, .set 11 (.len false (.s 10))⟩,
   ⟨none, .set 12 (.mov (.s 1))⟩,
   ⟨none, .set 13 (.len false (.s 12))⟩,
   ⟨none, .set 14 (.bin .neq (.s 11) (.s 13))⟩])
  (.cond (.s 14) (.seq (.reg [⟨none, .set 6 (.mov (.k (.b false)))⟩])
   .ret)
   .skip))
  (.seq (.seq (.reg [⟨none, .mvs 15 0⟩,
   ⟨none, .set 16 (.len false (.s 15))⟩,
   ⟨none, .set 17 (.mov (.k (.i .i64 0)))⟩])
  (.block 0 (.loop [false, true, true, false, false, false, false, false, false, false, false, false, false, false, false, true, true, true, false, false, false, false, false, false, false, false, false, false, false, false, false, false] (.seq (.reg [⟨none, .set 18 (.bin .lss (.s 17) (.s 16))⟩])
    (.seq (.cond (.s 18) .skip
     (.exit 0))
    (.seq (.block 1 (.seq (.reg [⟨none, .set 19 (.mov (.s 17))⟩,
      ⟨none, .set 20 (.iad (.s 15) (.s 17) 5)⟩,
      ⟨none, .set 21 (.ld (.s 20) 5 true)⟩,
      ⟨none, .bxn 8 [.s [], .ns, .ns, .ns, .ns]⟩,
      ⟨none, .set 7 (.mov (.s 19))⟩,
      ⟨none, .stb 8 0 5 (.s 21)⟩])
     (.seq (.reg [⟨none, .set 22 (.mov (.s 1))⟩,
      ⟨none, .set 23 (.mov (.s 7))⟩,
      ⟨none, .set 24 (.iad (.s 22) (.s 23) 5)⟩,
      ⟨none, .set 25 (.ld (.s 24) 5 true)⟩,
      ⟨none, .bxn 9 [.s [], .ns, .ns, .ns, .ns]⟩,
      ⟨none, .stb 9 0 5 (.s 25)⟩])
     (.seq (.reg [⟨none, .set 26 (.mov (.s 2))⟩,
      ⟨none, .set 27 (.ldb 8 0 5 true)⟩,
      ⟨none, .set 28 (.ldb 9 0 5 true)⟩,
      ⟨none, .ct 29 (.s 26) [.s 27, .s 28] 0⟩,
      ⟨none, .set 30 (.un .not (.s 29))⟩])
     (.cond (.s 30) (.seq (.reg [⟨none, .set 6 (.mov (.k (.b false)))⟩])
      .ret)
      .skip)))))
    (.reg [⟨none, .set 31 (.bin .add (.s 17) (.k (.i .i64 1)))⟩,
     ⟨none, .set 17 (.mov (.s 31))⟩])))))))
  (.seq (.reg [⟨none, .set 6 (.mov (.k (.b true)))⟩])
  .ret)))) }
/-- synchrony/norm.Same$2 -/
def c81 : AF := { nt := 38, res := [.s 4], body := (.seq (.reg [⟨none, .bxv 2 (.s 0)⟩,
   ⟨none, .bxv 3 (.s 1)⟩,
   ⟨none, .set 4 (.mov (.k (.b false)))⟩])
  (.seq (.reg [⟨none, .fp 5 2 0⟩,
   ⟨none, .set 6 (.ldb 2 0 1 false)⟩,
   ⟨none, .fp 7 3 0⟩,
   ⟨none, .set 8 (.ldb 3 0 1 false)⟩,
   ⟨none, .set 9 (.bin .eql (.s 6) (.s 8))⟩,
   ⟨none, .set 10 (.mov (.s 9))⟩,
   ⟨some (10, true), .fp 11 2 1⟩,
   ⟨some (10, true), .set 12 (.ldb 2 1 1 false)⟩,
   ⟨some (10, true), .fp 13 3 1⟩,
   ⟨some (10, true), .set 14 (.ldb 3 1 1 false)⟩,
   ⟨some (10, true), .pc 15 82 [.s 12, .s 14] 0⟩,
   ⟨none, .set 16 (.pick (.s 10) (.s 15) (.k (.b false)))⟩,
   ⟨none, .set 17 (.mov (.s 16))⟩,
   ⟨some (17, true), .fp 18 2 2⟩,
   ⟨some (17, true), .set 19 (.ldb 2 2 1 false)⟩,
   ⟨some (17, true), .fp 20 3 2⟩,
   ⟨some (17, true), .set 21 (.ldb 3 2 1 false)⟩,
   ⟨some (17, true), .pc 22 82 [.s 19, .s 21] 0⟩,
   ⟨none, .set 23 (.pick (.s 17) (.s 22) (.k (.b false)))⟩,
   ⟨none, .set 24 (.mov (.s 23))⟩,
   ⟨some (24, true), .fp 25 2 3⟩,
   ⟨some (24, true), .set 26 (.ldb 2 3 1 false)⟩,
   ⟨some (24, true), .fp 27 3 3⟩,
   ⟨some (24, true), .set 28 (.ldb 3 3 1 false)⟩,
   ⟨some (24, true), .pc 29 82 [.s 26, .s 28] 0⟩,
   ⟨none, .set 30 (.pick (.s 24) (.s 29) (.k (.b false)))⟩,
   ⟨none, .set 31 (.mov (.s 30))⟩,
   ⟨some (31, true), .fp 32 2 4⟩,
   ⟨some (31, true), .set 33 (.ldb 2 4 1 false)⟩,
   ⟨some (31, true), .fp 34 3 4⟩,
   ⟨some (31, true), .set 35 (.ldb 3 4 1 false)⟩,
   ⟨some (31, true), .pc 36 83 [.s 33, .s 35, .k (.fn 84 [])] 0⟩,
   ⟨none, .set 37 (.pick (.s 31) (.s 36) (.k (.b false)))⟩,
   ⟨none, .set 4 (.mov (.s 37))⟩])
  .ret)) }
/-- synchrony/norm.sameDecls -/
def c82 : AF := { nt := 8, res := [.s 4], body := (.seq (.reg [⟨none, .set 4 (.mov (.k (.b false)))⟩])
  (.seq (.reg [⟨none, .mvs 5 0⟩,
   ⟨none, .mvs 6 1⟩,
   ⟨none, .pc 7 93 [.s 5, .s 6, .k (.fn 94 [])] 0⟩,
   ⟨none, .set 4 (.mov (.s 7))⟩])
  .ret)) }
/-- slices.EqualFunc[[]synchrony/api.NEq,[]synchrony/api.NEq,synchrony/api.NEq,synchrony/api.NEq] -/
def c83 : AF := { nt := 32, res := [.s 6], body := (.seq (.reg [⟨none, .set 6 (.mov (.k (.b false)))⟩])
  (.seq (.seq (.reg [⟨none, .set 10 (.mov (.s 0))⟩,
   ⟨none, .set 11 (.len false (.s 10))⟩,
   ⟨none, .set 12 (.mov (.s 1))⟩,
   ⟨none, .set 13 (.len false (.s 12))⟩,
   ⟨none, .set 14 (.bin .neq (.s 11) (.s 13))⟩])
  (.cond (.s 14) (.seq (.reg [⟨none, .set 6 (.mov (.k (.b false)))⟩])
   .ret)
   .skip))
  (.seq (.seq (.reg [⟨none, .mvs 15 0⟩,
   ⟨none, .set 16 (.len false (.s 15))⟩,
   ⟨none, .set 17 (.mov (.k (.i .i64 0)))⟩])
  (.block 0 (.loop [false, true, true, false, false, false, false, false, false, false, false, false, false, false, false, true, true, true, false, false, false, false, false, false, false, false, false, false, false, false, false, false] (.seq (.reg [⟨none, .set 18 (.bin .lss (.s 17) (.s 16))⟩])
    (.seq (.cond (.s 18) .skip
     (.exit 0))
    (.seq (.block 1 (.seq (.reg [⟨none, .set 19 (.mov (.s 17))⟩,
      ⟨none, .set 20 (.iad (.s 15) (.s 17) 13)⟩,
      ⟨none, .set 21 (.ld (.s 20) 13 true)⟩,
      ⟨none, .bxn 8 [.i .i64 0, .ns, .i .i64 0, .i .i64 0, .i .i64 0, .i .i64 0, .s [], .ns, .i .i64 0, .s [], .ns, .s [], .ns]⟩,
      ⟨none, .set 7 (.mov (.s 19))⟩,
      ⟨none, .stb 8 0 13 (.s 21)⟩])
     (.seq (.reg [⟨none, .set 22 (.mov (.s 1))⟩,
      ⟨none, .set 23 (.mov (.s 7))⟩,
      ⟨none, .set 24 (.iad (.s 22) (.s 23) 13)⟩,
      ⟨none, .set 25 (.ld (.s 24) 13 true)⟩,
      ⟨none, .bxn 9 [.i .i64 0, .ns, .i .i64 0, .i .i64 0, .i .i64 0, .i .i64 0, .s [], .ns, .i .i64 0, .s [], .ns, .s [], .ns]⟩,
      ⟨none, .stb 9 0 13 (.s 25)⟩])
     (.seq (.reg [⟨none, .set 26 (.mov (.s 2))⟩,
      ⟨none, .set 27 (.ldb 8 0 13 true)⟩,
      ⟨none, .set 28 (.ldb 9 0 13 true)⟩,
      ⟨none, .ct 29 (.s 26) [.s 27, .s 28] 0⟩,
      ⟨none, .set 30 (.un .not (.s 29))⟩])
     (.cond (.s 30) (.seq (.reg [⟨none, .set 6 (.mov (.k (.b false)))⟩])
      .ret)
      .skip)))))
    (.reg [⟨none, .set 31 (.bin .add (.s 17) (.k (.i .i64 1)))⟩,
     ⟨none, .set 17 (.mov (.s 31))⟩])))))))
  (.seq (.reg [⟨none, .set 6 (.mov (.k (.b true)))⟩])
  .ret)))) }
/-- synchrony/norm.sameEq -/
def c84 : AF := { nt := 59, res := [.s 4], body := (.seq (.reg [⟨none, .bxv 2 (.s 0)⟩,
   ⟨none, .bxv 3 (.s 1)⟩,
   ⟨none, .set 4 (.mov (.k (.b false)))⟩])
  (.seq (.reg [⟨none, .fp 5 2 0⟩,
   ⟨none, .set 6 (.ldb 2 0 1 false)⟩,
   ⟨none, .fp 7 3 0⟩,
   ⟨none, .set 8 (.ldb 3 0 1 false)⟩,
   ⟨none, .set 9 (.bin .eql (.s 6) (.s 8))⟩,
   ⟨none, .set 10 (.mov (.s 9))⟩,
   ⟨some (10, true), .fp 11 2 1⟩,
   ⟨some (10, true), .set 12 (.ldb 2 1 1 false)⟩,
   ⟨some (10, true), .fp 13 3 1⟩,
   ⟨some (10, true), .set 14 (.ldb 3 1 1 false)⟩,
   ⟨some (10, true), .pc 15 79 [.s 12, .s 14] 0⟩,
   ⟨none, .set 16 (.pick (.s 10) (.s 15) (.k (.b false)))⟩,
   ⟨none, .set 17 (.mov (.s 16))⟩,
   ⟨some (17, true), .fp 18 2 2⟩,
   ⟨some (17, true), .set 19 (.ldb 2 2 6 true)⟩,
   ⟨some (17, true), .fp 20 3 2⟩,
   ⟨some (17, true), .set 21 (.ldb 3 2 6 true)⟩,
   ⟨some (17, true), .pc 22 96 [.s 19, .s 21] 0⟩,
   ⟨none, .set 23 (.pick (.s 17) (.s 22) (.k (.b false)))⟩,
   ⟨none, .set 24 (.mov (.s 23))⟩,
   ⟨some (24, true), .fp 25 2 8⟩,
   ⟨some (24, true), .set 26 (.ldb 2 8 1 false)⟩,
   ⟨some (24, true), .fp 27 3 8⟩,
   ⟨some (24, true), .set 28 (.ldb 3 8 1 false)⟩,
   ⟨some (24, true), .set 29 (.bin .eql (.s 26) (.s 28))⟩,
   ⟨none, .set 30 (.pick (.s 24) (.s 29) (.k (.b false)))⟩,
   ⟨none, .set 31 (.mov (.s 30))⟩,
   ⟨some (31, true), .fp 32 2 9⟩,
   ⟨some (31, true), .set 33 (.ldb 2 9 1 false)⟩,
   ⟨some (31, true), .fp 34 3 9⟩,
   ⟨some (31, true), .set 35 (.ldb 3 9 1 false)⟩,
   ⟨some (31, true), .set 36 (.bin .eql (.s 33) (.s 35))⟩,
   ⟨none, .set 37 (.pick (.s 31) (.s 36) (.k (.b false)))⟩,
   ⟨none, .set 38 (.mov (.s 37))⟩,
   ⟨some (38, true), .fp 39 2 10⟩,
   ⟨some (38, true), .set 40 (.ldb 2 10 1 false)⟩,
   ⟨some (38, true), .fp 41 3 10⟩,
   ⟨some (38, true), .set 42 (.ldb 3 10 1 false)⟩,
   ⟨some (38, true), .pc 43 97 [.s 40, .s 42, .k (.fn 96 [])] 0⟩,
   ⟨none, .set 44 (.pick (.s 38) (.s 43) (.k (.b false)))⟩,
   ⟨none, .set 45 (.mov (.s 44))⟩,
   ⟨some (45, true), .fp 46 2 11⟩,
   ⟨some (45, true), .set 47 (.ldb 2 11 1 false)⟩,
   ⟨some (45, true), .fp 48 3 11⟩,
   ⟨some (45, true), .set 49 (.ldb 3 11 1 false)⟩,
   ⟨some (45, true), .set 50 (.bin .eql (.s 47) (.s 49))⟩,
   ⟨none, .set 51 (.pick (.s 45) (.s 50) (.k (.b false)))⟩,
   ⟨none, .set 52 (.mov (.s 51))⟩,
   ⟨some (52, true), .fp 53 2 12⟩,
   ⟨some (52, true), .set 54 (.ldb 2 12 1 false)⟩,
   ⟨some (52, true), .fp 55 3 12⟩,
   ⟨some (52, true), .set 56 (.ldb 3 12 1 false)⟩,
   ⟨some (52, true), .pc 57 95 [.s 54, .s 56] 0⟩,
   ⟨none, .set 58 (.pick (.s 52) (.s 57) (.k (.b false)))⟩,
   ⟨none, .set 4 (.mov (.s 58))⟩])
  .ret)) }
/-- synchrony/expr.names -/
def c85 : AF := { nt := 52, res := [.s 6], body := (.seq (.reg [⟨none, .bxv 4 (.s 1)⟩,
   ⟨none, .set 6 (.mov (.k (.ns)))⟩])
  (.seq (.seq (.reg [⟨none, .set 9 (.ldb 4 0 6 true)⟩,
   ⟨none, .pc 10 98 [.s 9] 0⟩,
   ⟨none, .set 11 (.mov (.s 10))⟩,
   ⟨some (11, true), .set 12 (.mov (.s 0))⟩,
   ⟨some (11, true), .fp 13 4 4⟩,
   ⟨some (11, true), .set 14 (.ldb 4 4 1 false)⟩,
   ⟨some (11, true), .pc 15 40 [.s 12, .s 14] 0⟩,
   ⟨some (11, true), .set 16 (.un .not (.s 15))⟩,
   ⟨none, .set 17 (.pick (.s 11) (.s 16) (.k (.b false)))⟩])
  (.cond (.s 17) (.reg [⟨none, .mvs 18 0⟩,
    ⟨none, .fp 19 4 4⟩,
    ⟨none, .set 20 (.ldb 4 4 1 false)⟩,
    ⟨none, .bsl 21 1 [.s 20]⟩,
    ⟨none, .app 22 18 none (.s 21) 1 16 true⟩,
    ⟨none, .mvs 0 22⟩])
   .skip))
  (.seq (.seq (.reg [⟨none, .fp 23 4 5⟩,
   ⟨none, .set 24 (.ldb 4 5 1 false)⟩,
   ⟨none, .set 25 (.len false (.s 24))⟩,
   ⟨none, .set 26 (.mov (.k (.i .i64 0)))⟩])
  (.block 0 (.loop [true, false, true, false, true, false, false, false, false, false, false, false, false, false, false, false, false, false, false, false, false, false, false, false, true, true, true, false, false, false, false, false, false, false, false, false, false, false, false, false, false, false, false, false, false, false, false, false, false, false, false, false] (.seq (.reg [⟨none, .set 27 (.bin .lss (.s 26) (.s 25))⟩])
    (.seq (.cond (.s 27) .skip
     (.exit 0))
    (.seq (.block 1 (.seq (.reg [⟨none, .set 28 (.mov (.s 26))⟩,
      ⟨none, .set 29 (.iad (.s 24) (.s 26) 6)⟩,
      ⟨none, .set 30 (.ld (.s 29) 6 true)⟩,
      ⟨none, .bxn 8 [.i .i64 0, .i .i64 0, .i .i64 0, .i .i64 0, .s [], .ns]⟩,
      ⟨none, .set 7 (.mov (.s 28))⟩,
      ⟨none, .stb 8 0 6 (.s 30)⟩])
     (.seq (.seq (.reg [⟨none, .set 31 (.mov (.s 2))⟩,
      ⟨none, .set 32 (.mov (.s 31))⟩,
      ⟨some (32, true), .fp 33 4 0⟩,
      ⟨some (32, true), .set 34 (.ldb 4 0 1 false)⟩,
      ⟨some (32, true), .set 35 (.bin .eql (.s 34) (.k (.i .i64 5)))⟩,
      ⟨some (32, true), .set 36 (.mov (.s 35))⟩,
      ⟨some (36, false), .fp 37 4 0⟩,
      ⟨some (36, false), .set 38 (.ldb 4 0 1 false)⟩,
      ⟨some (36, false), .set 39 (.bin .eql (.s 38) (.k (.i .i64 7)))⟩,
      ⟨some (36, false), .set 40 (.mov (.s 39))⟩,
      ⟨some (40, true), .set 41 (.mov (.s 7))⟩,
      ⟨some (40, true), .set 42 (.bin .gtr (.s 41) (.k (.i .i64 0)))⟩,
      ⟨some (36, false), .set 43 (.pick (.s 40) (.s 42) (.k (.b false)))⟩,
      ⟨some (32, true), .set 44 (.pick (.s 36) (.k (.b true)) (.s 43))⟩,
      ⟨none, .set 45 (.pick (.s 32) (.s 44) (.k (.b false)))⟩])
     (.cond (.s 45) (.exit 0)
      .skip))
     (.reg [⟨none, .mvs 46 0⟩,
      ⟨none, .set 47 (.ldb 8 0 6 true)⟩,
      ⟨none, .set 48 (.mov (.s 2))⟩,
      ⟨none, .tc 49 85 [.s 46, .s 47, .s 48] (some (0, 46)) 2⟩,
      ⟨none, .mvs 0 49⟩]))))
    (.reg [⟨none, .set 50 (.bin .add (.s 26) (.k (.i .i64 1)))⟩,
     ⟨none, .set 26 (.mov (.s 50))⟩])))))))
  (.seq (.reg [⟨none, .mvs 51 0⟩,
   ⟨none, .mvs 6 51⟩])
  .ret)))) }
/-- synchrony/synchronyref01.Wrap -/
def c86 : AF := { nt := 15, res := [.s 2], body := (.seq (.reg [⟨none, .set 2 (.mov (.k (.i .i64 0)))⟩])
  (.seq (.reg [⟨none, .set 4 (.mov (.s 0))⟩,
   ⟨none, .set 5 (.bin .rem (.s 4) (.k (.i .i64 65536)))⟩,
   ⟨none, .set 3 (.mov (.s 5))⟩])
  (.seq (.seq (.reg [⟨none, .set 6 (.mov (.s 3))⟩,
   ⟨none, .set 7 (.bin .gtr (.s 6) (.k (.i .i64 32767)))⟩])
  (.cond (.s 7) (.seq (.reg [⟨none, .set 8 (.mov (.s 3))⟩,
    ⟨none, .set 9 (.bin .sub (.s 8) (.k (.i .i64 65536)))⟩,
    ⟨none, .set 2 (.mov (.s 9))⟩])
   .ret)
   .skip))
  (.seq (.seq (.reg [⟨none, .set 10 (.mov (.s 3))⟩,
   ⟨none, .set 11 (.bin .lss (.s 10) (.k (.i .i64 (-32768))))⟩])
  (.cond (.s 11) (.seq (.reg [⟨none, .set 12 (.mov (.s 3))⟩,
    ⟨none, .set 13 (.bin .add (.s 12) (.k (.i .i64 65536)))⟩,
    ⟨none, .set 2 (.mov (.s 13))⟩])
   .ret)
   .skip))
  (.seq (.reg [⟨none, .set 14 (.mov (.s 3))⟩,
   ⟨none, .set 2 (.mov (.s 14))⟩])
  .ret))))) }
/-- synchrony/synchronyref05.one -/
def c87 : AF := { nt := 4, res := [.s 2], body := (.seq (.reg [⟨none, .set 2 (.mov (.k (.i .i64 0)))⟩])
  (.seq (.seq (.reg [⟨none, .set 3 (.mov (.s 0))⟩])
  (.cond (.s 3) (.seq (.reg [⟨none, .set 2 (.mov (.k (.i .i64 1)))⟩])
   .ret)
   .skip))
  (.seq (.reg [⟨none, .set 2 (.mov (.k (.i .i64 0)))⟩])
  .ret))) }
/-- synchrony/synchronyref01.Add -/
def c88 : AF := { nt := 11, res := [.s 4], body := (.seq (.reg [⟨none, .set 4 (.mov (.k (.i .i64 0)))⟩])
  (.seq (.reg [⟨none, .set 5 (.mov (.s 0))⟩,
   ⟨none, .pc 6 86 [.s 5] 0⟩,
   ⟨none, .set 7 (.mov (.s 1))⟩,
   ⟨none, .pc 8 86 [.s 7] 0⟩,
   ⟨none, .set 9 (.bin .add (.s 6) (.s 8))⟩,
   ⟨none, .pc 10 86 [.s 9] 0⟩,
   ⟨none, .set 4 (.mov (.s 10))⟩])
  .ret)) }
/-- synchrony/synchronyref01.Sub -/
def c89 : AF := { nt := 11, res := [.s 4], body := (.seq (.reg [⟨none, .set 4 (.mov (.k (.i .i64 0)))⟩])
  (.seq (.reg [⟨none, .set 5 (.mov (.s 0))⟩,
   ⟨none, .pc 6 86 [.s 5] 0⟩,
   ⟨none, .set 7 (.mov (.s 1))⟩,
   ⟨none, .pc 8 86 [.s 7] 0⟩,
   ⟨none, .set 9 (.bin .sub (.s 6) (.s 8))⟩,
   ⟨none, .pc 10 86 [.s 9] 0⟩,
   ⟨none, .set 4 (.mov (.s 10))⟩])
  .ret)) }
/-- synchrony/synchronyref01.Mul -/
def c90 : AF := { nt := 11, res := [.s 4], body := (.seq (.reg [⟨none, .set 4 (.mov (.k (.i .i64 0)))⟩])
  (.seq (.reg [⟨none, .set 5 (.mov (.s 0))⟩,
   ⟨none, .pc 6 86 [.s 5] 0⟩,
   ⟨none, .set 7 (.mov (.s 1))⟩,
   ⟨none, .pc 8 86 [.s 7] 0⟩,
   ⟨none, .set 9 (.bin .mul (.s 6) (.s 8))⟩,
   ⟨none, .pc 10 86 [.s 9] 0⟩,
   ⟨none, .set 4 (.mov (.s 10))⟩])
  .ret)) }
/-- synchrony/synchronyref01.Div -/
def c91 : AF := { nt := 14, res := [.s 4], body := (.seq (.reg [⟨none, .set 4 (.mov (.k (.i .i64 0)))⟩])
  (.seq (.seq (.reg [⟨none, .set 5 (.mov (.s 1))⟩,
   ⟨none, .pc 6 86 [.s 5] 0⟩,
   ⟨none, .set 7 (.bin .eql (.s 6) (.k (.i .i64 0)))⟩])
  (.cond (.s 7) (.seq (.reg [⟨none, .set 4 (.mov (.k (.i .i64 0)))⟩])
   .ret)
   .skip))
  (.seq (.reg [⟨none, .set 8 (.mov (.s 0))⟩,
   ⟨none, .pc 9 86 [.s 8] 0⟩,
   ⟨none, .set 10 (.mov (.s 1))⟩,
   ⟨none, .pc 11 86 [.s 10] 0⟩,
   ⟨none, .set 12 (.bin .quo (.s 9) (.s 11))⟩,
   ⟨none, .pc 13 86 [.s 12] 0⟩,
   ⟨none, .set 4 (.mov (.s 13))⟩])
  .ret))) }
/-- synchrony/synchronyref01.Mod -/
def c92 : AF := { nt := 15, res := [.s 4], body := (.seq (.reg [⟨none, .set 4 (.mov (.k (.i .i64 0)))⟩])
  (.seq (.seq (.reg [⟨none, .set 5 (.mov (.s 1))⟩,
   ⟨none, .pc 6 86 [.s 5] 0⟩,
   ⟨none, .set 7 (.bin .eql (.s 6) (.k (.i .i64 0)))⟩])
  (.cond (.s 7) (.seq (.reg [⟨none, .set 8 (.mov (.s 0))⟩,
    ⟨none, .pc 9 86 [.s 8] 0⟩,
    ⟨none, .set 4 (.mov (.s 9))⟩])
   .ret)
   .skip))
  (.seq (.reg [⟨none, .set 10 (.mov (.s 0))⟩,
   ⟨none, .pc 11 86 [.s 10] 0⟩,
   ⟨none, .set 12 (.mov (.s 1))⟩,
   ⟨none, .pc 13 86 [.s 12] 0⟩,
   ⟨none, .set 14 (.bin .rem (.s 11) (.s 13))⟩,
   ⟨none, .set 4 (.mov (.s 14))⟩])
  .ret))) }
/-- slices.EqualFunc[[]synchrony/api.Decl,[]synchrony/api.Decl,synchrony/api.Decl,synchrony/api.Decl] -/
def c93 : AF := { nt := 32, res := [.s 6], body := (.seq (.reg [⟨none, .set 6 (.mov (.k (.b false)))⟩])
  (.seq (.seq (.reg [⟨none, .set 10 (.mov (.s 0))⟩,
   ⟨none, .set 11 (.len false (.s 10))⟩,
   ⟨none, .set 12 (.mov (.s 1))⟩,
   ⟨none, .set 13 (.len false (.s 12))⟩,
   ⟨none, .set 14 (.bin .neq (.s 11) (.s 13))⟩])
  (.cond (.s 14) (.seq (.reg [⟨none, .set 6 (.mov (.k (.b false)))⟩])
   .ret)
   .skip))
  (.seq (.seq (.reg [⟨none, .mvs 15 0⟩,
   ⟨none, .set 16 (.len false (.s 15))⟩,
   ⟨none, .set 17 (.mov (.k (.i .i64 0)))⟩])
  (.block 0 (.loop [false, true, true, false, false, false, false, false, false, false, false, false, false, false, false, true, true, true, false, false, false, false, false, false, false, false, false, false, false, false, false, false] (.seq (.reg [⟨none, .set 18 (.bin .lss (.s 17) (.s 16))⟩])
    (.seq (.cond (.s 18) .skip
     (.exit 0))
    (.seq (.block 1 (.seq (.reg [⟨none, .set 19 (.mov (.s 17))⟩,
      ⟨none, .set 20 (.iad (.s 15) (.s 17) 3)⟩,
      ⟨none, .set 21 (.ld (.s 20) 3 true)⟩,
      ⟨none, .bxn 8 [.s [], .i .i64 0, .ns]⟩,
      ⟨none, .set 7 (.mov (.s 19))⟩,
      ⟨none, .stb 8 0 3 (.s 21)⟩])
     (.seq (.reg [⟨none, .set 22 (.mov (.s 1))⟩,
      ⟨none, .set 23 (.mov (.s 7))⟩,
      ⟨none, .set 24 (.iad (.s 22) (.s 23) 3)⟩,
      ⟨none, .set 25 (.ld (.s 24) 3 true)⟩,
      ⟨none, .bxn 9 [.s [], .i .i64 0, .ns]⟩,
      ⟨none, .stb 9 0 3 (.s 25)⟩])
     (.seq (.reg [⟨none, .set 26 (.mov (.s 2))⟩,
      ⟨none, .set 27 (.ldb 8 0 3 true)⟩,
      ⟨none, .set 28 (.ldb 9 0 3 true)⟩,
      ⟨none, .ct 29 (.s 26) [.s 27, .s 28] 0⟩,
      ⟨none, .set 30 (.un .not (.s 29))⟩])
     (.cond (.s 30) (.seq (.reg [⟨none, .set 6 (.mov (.k (.b false)))⟩])
      .ret)
      .skip)))))
    (.reg [⟨none, .set 31 (.bin .add (.s 17) (.k (.i .i64 1)))⟩,
     ⟨none, .set 17 (.mov (.s 31))⟩])))))))
  (.seq (.reg [⟨none, .set 6 (.mov (.k (.b true)))⟩])
  .ret)))) }
/-- synchrony/norm.sameDecls$1 -/
def c94 : AF := { nt := 24, res := [.s 4], body := (.seq (.reg [⟨none, .bxv 2 (.s 0)⟩,
   ⟨none, .bxv 3 (.s 1)⟩,
   ⟨none, .set 4 (.mov (.k (.b false)))⟩])
  (.seq (.reg [⟨none, .fp 5 2 0⟩,
   ⟨none, .set 6 (.ldb 2 0 1 false)⟩,
   ⟨none, .fp 7 3 0⟩,
   ⟨none, .set 8 (.ldb 3 0 1 false)⟩,
   ⟨none, .set 9 (.bin .eql (.s 6) (.s 8))⟩,
   ⟨none, .set 10 (.mov (.s 9))⟩,
   ⟨some (10, true), .fp 11 2 1⟩,
   ⟨some (10, true), .set 12 (.ldb 2 1 1 false)⟩,
   ⟨some (10, true), .fp 13 3 1⟩,
   ⟨some (10, true), .set 14 (.ldb 3 1 1 false)⟩,
   ⟨some (10, true), .set 15 (.bin .eql (.s 12) (.s 14))⟩,
   ⟨none, .set 16 (.pick (.s 10) (.s 15) (.k (.b false)))⟩,
   ⟨none, .set 17 (.mov (.s 16))⟩,
   ⟨some (17, true), .fp 18 2 2⟩,
   ⟨some (17, true), .set 19 (.ldb 2 2 1 false)⟩,
   ⟨some (17, true), .fp 20 3 2⟩,
   ⟨some (17, true), .set 21 (.ldb 3 2 1 false)⟩,
   ⟨some (17, true), .pc 22 95 [.s 19, .s 21] 0⟩,
   ⟨none, .set 23 (.pick (.s 17) (.s 22) (.k (.b false)))⟩,
   ⟨none, .set 4 (.mov (.s 23))⟩])
  .ret)) }
/-- slices.Equal[[]synchrony/api.On,synchrony/api.On] -/
def c95 : AF := { nt := 26, res := [.s 4], body := (.seq (.reg [⟨none, .set 4 (.mov (.k (.b false)))⟩])
  (.seq (.seq (.reg [⟨none, .set 6 (.mov (.s 0))⟩,
   ⟨none, .set 7 (.len false (.s 6))⟩,
   ⟨none, .set 8 (.mov (.s 1))⟩,
   ⟨none, .set 9 (.len false (.s 8))⟩,
   ⟨none, .set 10 (.bin .neq (.s 7) (.s 9))⟩])
  (.cond (.s 10) (.seq (.reg [⟨none, .set 4 (.mov (.k (.b false)))⟩])
   .ret)
   .skip))
  (.seq (.seq (.reg [⟨none, .set 11 (.mov (.s 0))⟩,
   ⟨none, .set 12 (.len false (.s 11))⟩,
   ⟨none, .set 13 (.mov (.k (.i .i64 0)))⟩])
  (.block 0 (.loop [true, true, false, false, false, false, false, false, false, false, false, false, true, true, false, false, false, false, false, false, false, false, false, false, false, false] (.seq (.reg [⟨none, .set 14 (.bin .lss (.s 13) (.s 12))⟩])
    (.seq (.cond (.s 14) .skip
     (.exit 0))
    (.seq (.block 1 (.seq (.reg [⟨none, .set 15 (.mov (.s 13))⟩,
      ⟨none, .set 5 (.mov (.s 15))⟩])
     (.seq (.drw [⟨none, .set 16 (.mov (.s 0))⟩,
      ⟨none, .set 17 (.mov (.s 5))⟩,
      ⟨none, .set 18 (.iad (.s 16) (.s 17) 3)⟩,
      ⟨none, .set 19 (.ld (.s 18) 3 true)⟩,
      ⟨none, .set 20 (.mov (.s 1))⟩,
      ⟨none, .set 21 (.mov (.s 5))⟩,
      ⟨none, .set 22 (.iad (.s 20) (.s 21) 3)⟩,
      ⟨none, .set 23 (.ld (.s 22) 3 true)⟩,
      ⟨none, .set 24 (.seq [2, 1, 1] true (.s 19) (.s 23))⟩])
     (.cond (.s 24) (.seq (.reg [⟨none, .set 4 (.mov (.k (.b false)))⟩])
      .ret)
      .skip))))
    (.reg [⟨none, .set 25 (.bin .add (.s 13) (.k (.i .i64 1)))⟩,
     ⟨none, .set 13 (.mov (.s 25))⟩])))))))
  (.seq (.reg [⟨none, .set 4 (.mov (.k (.b true)))⟩])
  .ret)))) }
/-- synchrony/expr.Same -/
def c96 : AF := { nt := 45, res := [.s 4], body := (.seq (.reg [⟨none, .bxv 2 (.s 0)⟩,
   ⟨none, .bxv 3 (.s 1)⟩,
   ⟨none, .set 4 (.mov (.k (.b false)))⟩])
  (.seq (.reg [⟨none, .fp 5 2 0⟩,
   ⟨none, .set 6 (.ldb 2 0 1 false)⟩,
   ⟨none, .fp 7 3 0⟩,
   ⟨none, .set 8 (.ldb 3 0 1 false)⟩,
   ⟨none, .set 9 (.bin .eql (.s 6) (.s 8))⟩,
   ⟨none, .set 10 (.mov (.s 9))⟩,
   ⟨some (10, true), .fp 11 2 1⟩,
   ⟨some (10, true), .set 12 (.ldb 2 1 1 false)⟩,
   ⟨some (10, true), .fp 13 3 1⟩,
   ⟨some (10, true), .set 14 (.ldb 3 1 1 false)⟩,
   ⟨some (10, true), .set 15 (.bin .eql (.s 12) (.s 14))⟩,
   ⟨none, .set 16 (.pick (.s 10) (.s 15) (.k (.b false)))⟩,
   ⟨none, .set 17 (.mov (.s 16))⟩,
   ⟨some (17, true), .fp 18 2 2⟩,
   ⟨some (17, true), .set 19 (.ldb 2 2 1 false)⟩,
   ⟨some (17, true), .fp 20 3 2⟩,
   ⟨some (17, true), .set 21 (.ldb 3 2 1 false)⟩,
   ⟨some (17, true), .set 22 (.bin .eql (.s 19) (.s 21))⟩,
   ⟨none, .set 23 (.pick (.s 17) (.s 22) (.k (.b false)))⟩,
   ⟨none, .set 24 (.mov (.s 23))⟩,
   ⟨some (24, true), .fp 25 2 3⟩,
   ⟨some (24, true), .set 26 (.ldb 2 3 1 false)⟩,
   ⟨some (24, true), .fp 27 3 3⟩,
   ⟨some (24, true), .set 28 (.ldb 3 3 1 false)⟩,
   ⟨some (24, true), .set 29 (.bin .eql (.s 26) (.s 28))⟩,
   ⟨none, .set 30 (.pick (.s 24) (.s 29) (.k (.b false)))⟩,
   ⟨none, .set 31 (.mov (.s 30))⟩,
   ⟨some (31, true), .fp 32 2 4⟩,
   ⟨some (31, true), .set 33 (.ldb 2 4 1 false)⟩,
   ⟨some (31, true), .fp 34 3 4⟩,
   ⟨some (31, true), .set 35 (.ldb 3 4 1 false)⟩,
   ⟨some (31, true), .set 36 (.bin .eql (.s 33) (.s 35))⟩,
   ⟨none, .set 37 (.pick (.s 31) (.s 36) (.k (.b false)))⟩,
   ⟨none, .set 38 (.mov (.s 37))⟩,
   ⟨some (38, true), .fp 39 2 5⟩,
   ⟨some (38, true), .set 40 (.ldb 2 5 1 false)⟩,
   ⟨some (38, true), .fp 41 3 5⟩,
   ⟨some (38, true), .set 42 (.ldb 3 5 1 false)⟩,
   ⟨some (38, true), .pc 43 97 [.s 40, .s 42, .k (.fn 96 [])] 0⟩,
   ⟨none, .set 44 (.pick (.s 38) (.s 43) (.k (.b false)))⟩,
   ⟨none, .set 4 (.mov (.s 44))⟩])
  .ret)) }
/-- slices.EqualFunc[[]synchrony/api.Expr,[]synchrony/api.Expr,synchrony/api.Expr,synchrony/api.Expr] -/
def c97 : AF := { nt := 32, res := [.s 6], body := (.seq (.reg [⟨none, .set 6 (.mov (.k (.b false)))⟩])
  (.seq (.seq (.reg [⟨none, .set 10 (.mov (.s 0))⟩,
   ⟨none, .set 11 (.len false (.s 10))⟩,
   ⟨none, .set 12 (.mov (.s 1))⟩,
   ⟨none, .set 13 (.len false (.s 12))⟩,
   ⟨none, .set 14 (.bin .neq (.s 11) (.s 13))⟩])
  (.cond (.s 14) (.seq (.reg [⟨none, .set 6 (.mov (.k (.b false)))⟩])
   .ret)
   .skip))
  (.seq (.seq (.reg [⟨none, .mvs 15 0⟩,
   ⟨none, .set 16 (.len false (.s 15))⟩,
   ⟨none, .set 17 (.mov (.k (.i .i64 0)))⟩])
  (.block 0 (.loop [false, true, true, false, false, false, false, false, false, false, false, false, false, false, false, true, true, true, false, false, false, false, false, false, false, false, false, false, false, false, false, false] (.seq (.reg [⟨none, .set 18 (.bin .lss (.s 17) (.s 16))⟩])
    (.seq (.cond (.s 18) .skip
     (.exit 0))
    (.seq (.block 1 (.seq (.reg [⟨none, .set 19 (.mov (.s 17))⟩,
      ⟨none, .set 20 (.iad (.s 15) (.s 17) 6)⟩,
      ⟨none, .set 21 (.ld (.s 20) 6 true)⟩,
      ⟨none, .bxn 8 [.i .i64 0, .i .i64 0, .i .i64 0, .i .i64 0, .s [], .ns]⟩,
      ⟨none, .set 7 (.mov (.s 19))⟩,
      ⟨none, .stb 8 0 6 (.s 21)⟩])
     (.seq (.reg [⟨none, .set 22 (.mov (.s 1))⟩,
      ⟨none, .set 23 (.mov (.s 7))⟩,
      ⟨none, .set 24 (.iad (.s 22) (.s 23) 6)⟩,
      ⟨none, .set 25 (.ld (.s 24) 6 true)⟩,
      ⟨none, .bxn 9 [.i .i64 0, .i .i64 0, .i .i64 0, .i .i64 0, .s [], .ns]⟩,
      ⟨none, .stb 9 0 6 (.s 25)⟩])
     (.seq (.reg [⟨none, .set 26 (.mov (.s 2))⟩,
      ⟨none, .set 27 (.ldb 8 0 6 true)⟩,
      ⟨none, .set 28 (.ldb 9 0 6 true)⟩,
      ⟨none, .ct 29 (.s 26) [.s 27, .s 28] 0⟩,
      ⟨none, .set 30 (.un .not (.s 29))⟩])
     (.cond (.s 30) (.seq (.reg [⟨none, .set 6 (.mov (.k (.b false)))⟩])
      .ret)
      .skip)))))
    (.reg [⟨none, .set 31 (.bin .add (.s 17) (.k (.i .i64 1)))⟩,
     ⟨none, .set 17 (.mov (.s 31))⟩])))))))
  (.seq (.reg [⟨none, .set 6 (.mov (.k (.b true)))⟩])
  .ret)))) }
/-- synchrony/expr.variable -/
def c98 : AF := { nt := 16, res := [.s 2], body := (.seq (.reg [⟨none, .bxv 1 (.s 0)⟩,
   ⟨none, .set 2 (.mov (.k (.b false)))⟩])
  (.seq (.reg [⟨none, .fp 3 1 0⟩,
   ⟨none, .set 4 (.ldb 1 0 1 false)⟩,
   ⟨none, .set 5 (.bin .eql (.s 4) (.k (.i .i64 2)))⟩,
   ⟨none, .set 6 (.mov (.s 5))⟩,
   ⟨some (6, false), .fp 7 1 0⟩,
   ⟨some (6, false), .set 8 (.ldb 1 0 1 false)⟩,
   ⟨some (6, false), .set 9 (.bin .eql (.s 8) (.k (.i .i64 8)))⟩,
   ⟨none, .set 10 (.pick (.s 6) (.k (.b true)) (.s 9))⟩,
   ⟨none, .set 11 (.mov (.s 10))⟩,
   ⟨some (11, false), .fp 12 1 0⟩,
   ⟨some (11, false), .set 13 (.ldb 1 0 1 false)⟩,
   ⟨some (11, false), .set 14 (.bin .eql (.s 13) (.k (.i .i64 9)))⟩,
   ⟨none, .set 15 (.pick (.s 11) (.k (.b true)) (.s 14))⟩,
   ⟨none, .set 2 (.mov (.s 15))⟩])
  .ret)) }
def row0 : List (Option AF) := [none, none, none, some c3, some c4, some c5, some c6, some c7, some c8, some c9, some c10, some c11, some c12, some c13, some c14, some c15]
def row16 : List (Option AF) := [some c16, some c17, some c18, some c19, some c20, some c21, some c22, some c23, some c24, some c25, some c26, some c27, some c28, some c29, some c30, some c31]
def row32 : List (Option AF) := [some c32, some c33, some c34, some c35, some c36, some c37, some c38, some c39, some c40, some c41, some c42, some c43, some c44, some c45, some c46, some c47]
def row48 : List (Option AF) := [some c48, some c49, some c50, some c51, some c52, some c53, some c54, some c55, some c56, some c57, some c58, some c59, some c60, some c61, some c62, some c63]
def row64 : List (Option AF) := [some c64, some c65, some c66, some c67, some c68, some c69, some c70, some c71, some c72, some c73, some c74, some c75, some c76, some c77, some c78, some c79]
def row80 : List (Option AF) := [some c80, some c81, some c82, some c83, some c84, some c85, some c86, some c87, some c88, some c89, some c90, some c91, some c92, some c93, some c94, some c95]
def row96 : List (Option AF) := [some c96, some c97, some c98]
def rows : List (List (Option AF)) := [row0, row16, row32, row48, row64, row80, row96]
def tab : Tab := tabOf rows
end Go.Proofs.Ytpfocppjojgooaa
