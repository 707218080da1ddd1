/-
  The abstract codes are those of the program, printed by program (gen.py).
-/
import Derived.Test.YtpfocppjojgooaaCode
import Derived.Test.YtpfocppjojgooaaProg
import Derived.KernelRfl
set_option maxRecDepth 100000
namespace Go.Proofs.Ytpfocppjojgooaa
open Go.Abs
theorem k3 : chkF Try.prog Try.f3 c3 = true := by kernel_rfl
theorem k4 : chkF Try.prog Try.f4 c4 = true := by kernel_rfl
theorem k5 : chkF Try.prog Try.f5 c5 = true := by kernel_rfl
theorem k6 : chkF Try.prog Try.f6 c6 = true := by kernel_rfl
theorem k7 : chkF Try.prog Try.f7 c7 = true := by kernel_rfl
theorem k8 : chkF Try.prog Try.f8 c8 = true := by kernel_rfl
theorem k9 : chkF Try.prog Try.f9 c9 = true := by kernel_rfl
theorem k10 : chkF Try.prog Try.f10 c10 = true := by kernel_rfl
theorem k11 : chkF Try.prog Try.f11 c11 = true := by kernel_rfl
theorem k12 : chkF Try.prog Try.f12 c12 = true := by kernel_rfl
theorem k13 : chkF Try.prog Try.f13 c13 = true := by kernel_rfl
theorem k14 : chkF Try.prog Try.f14 c14 = true := by kernel_rfl
theorem k15 : chkF Try.prog Try.f15 c15 = true := by kernel_rfl
theorem k16 : chkF Try.prog Try.f16 c16 = true := by kernel_rfl
theorem k17 : chkF Try.prog Try.f17 c17 = true := by kernel_rfl
theorem k18 : chkF Try.prog Try.f18 c18 = true := by kernel_rfl
theorem k19 : chkF Try.prog Try.f19 c19 = true := by kernel_rfl
theorem k20 : chkF Try.prog Try.f20 c20 = true := by kernel_rfl
theorem k21 : chkF Try.prog Try.f21 c21 = true := by kernel_rfl
theorem k22 : chkF Try.prog Try.f22 c22 = true := by kernel_rfl
theorem k23 : chkF Try.prog Try.f23 c23 = true := by kernel_rfl
theorem k24 : chkF Try.prog Try.f24 c24 = true := by kernel_rfl
theorem k25 : chkF Try.prog Try.f25 c25 = true := by kernel_rfl
theorem k26 : chkF Try.prog Try.f26 c26 = true := by kernel_rfl
theorem k27 : chkF Try.prog Try.f27 c27 = true := by kernel_rfl
theorem k28 : chkF Try.prog Try.f28 c28 = true := by kernel_rfl
theorem k29 : chkF Try.prog Try.f29 c29 = true := by kernel_rfl
theorem k30 : chkF Try.prog Try.f30 c30 = true := by kernel_rfl
theorem k31 : chkF Try.prog Try.f31 c31 = true := by kernel_rfl
theorem k32 : chkF Try.prog Try.f32 c32 = true := by kernel_rfl
theorem k33 : chkF Try.prog Try.f33 c33 = true := by kernel_rfl
theorem k34 : chkF Try.prog Try.f34 c34 = true := by kernel_rfl
theorem k35 : chkF Try.prog Try.f35 c35 = true := by kernel_rfl
theorem k36 : chkF Try.prog Try.f36 c36 = true := by kernel_rfl
theorem k37 : chkF Try.prog Try.f37 c37 = true := by kernel_rfl
theorem k38 : chkF Try.prog Try.f38 c38 = true := by kernel_rfl
theorem k39 : chkF Try.prog Try.f39 c39 = true := by kernel_rfl
theorem k40 : chkF Try.prog Try.f40 c40 = true := by kernel_rfl
theorem k41 : chkF Try.prog Try.f41 c41 = true := by kernel_rfl
theorem k42 : chkF Try.prog Try.f42 c42 = true := by kernel_rfl
theorem k43 : chkF Try.prog Try.f43 c43 = true := by kernel_rfl
theorem k44 : chkF Try.prog Try.f44 c44 = true := by kernel_rfl
theorem k45 : chkF Try.prog Try.f45 c45 = true := by kernel_rfl
theorem k46 : chkF Try.prog Try.f46 c46 = true := by kernel_rfl
theorem k47 : chkF Try.prog Try.f47 c47 = true := by kernel_rfl
theorem k48 : chkF Try.prog Try.f48 c48 = true := by kernel_rfl
theorem k49 : chkF Try.prog Try.f49 c49 = true := by kernel_rfl
theorem k50 : chkF Try.prog Try.f50 c50 = true := by kernel_rfl
theorem k51 : chkF Try.prog Try.f51 c51 = true := by kernel_rfl
theorem k52 : chkF Try.prog Try.f52 c52 = true := by kernel_rfl
theorem k53 : chkF Try.prog Try.f53 c53 = true := by kernel_rfl
theorem k54 : chkF Try.prog Try.f54 c54 = true := by kernel_rfl
theorem k55 : chkF Try.prog Try.f55 c55 = true := by kernel_rfl
theorem k56 : chkF Try.prog Try.f56 c56 = true := by kernel_rfl
theorem k57 : chkF Try.prog Try.f57 c57 = true := by kernel_rfl
theorem k58 : chkF Try.prog Try.f58 c58 = true := by kernel_rfl
theorem k59 : chkF Try.prog Try.f59 c59 = true := by kernel_rfl
theorem k60 : chkF Try.prog Try.f60 c60 = true := by kernel_rfl
theorem k61 : chkF Try.prog Try.f61 c61 = true := by kernel_rfl
theorem k62 : chkF Try.prog Try.f62 c62 = true := by kernel_rfl
theorem k63 : chkF Try.prog Try.f63 c63 = true := by kernel_rfl
theorem k64 : chkF Try.prog Try.f64 c64 = true := by kernel_rfl
theorem k65 : chkF Try.prog Try.f65 c65 = true := by kernel_rfl
theorem k66 : chkF Try.prog Try.f66 c66 = true := by kernel_rfl
theorem k67 : chkF Try.prog Try.f67 c67 = true := by kernel_rfl
theorem k68 : chkF Try.prog Try.f68 c68 = true := by kernel_rfl
theorem k69 : chkF Try.prog Try.f69 c69 = true := by kernel_rfl
theorem k70 : chkF Try.prog Try.f70 c70 = true := by kernel_rfl
theorem k71 : chkF Try.prog Try.f71 c71 = true := by kernel_rfl
theorem k72 : chkF Try.prog Try.f72 c72 = true := by kernel_rfl
theorem k73 : chkF Try.prog Try.f73 c73 = true := by kernel_rfl
theorem k74 : chkF Try.prog Try.f74 c74 = true := by kernel_rfl
theorem k75 : chkF Try.prog Try.f75 c75 = true := by kernel_rfl
theorem k76 : chkF Try.prog Try.f76 c76 = true := by kernel_rfl
theorem k77 : chkF Try.prog Try.f77 c77 = true := by kernel_rfl
theorem k78 : chkF Try.prog Try.f78 c78 = true := by kernel_rfl
theorem k79 : chkF Try.prog Try.f79 c79 = true := by kernel_rfl
theorem k80 : chkF Try.prog Try.f80 c80 = true := by kernel_rfl
theorem k81 : chkF Try.prog Try.f81 c81 = true := by kernel_rfl
theorem k82 : chkF Try.prog Try.f82 c82 = true := by kernel_rfl
theorem k83 : chkF Try.prog Try.f83 c83 = true := by kernel_rfl
theorem k84 : chkF Try.prog Try.f84 c84 = true := by kernel_rfl
theorem k85 : chkF Try.prog Try.f85 c85 = true := by kernel_rfl
theorem k86 : chkF Try.prog Try.f86 c86 = true := by kernel_rfl
theorem k87 : chkF Try.prog Try.f87 c87 = true := by kernel_rfl
theorem k88 : chkF Try.prog Try.f88 c88 = true := by kernel_rfl
theorem k89 : chkF Try.prog Try.f89 c89 = true := by kernel_rfl
theorem k90 : chkF Try.prog Try.f90 c90 = true := by kernel_rfl
theorem k91 : chkF Try.prog Try.f91 c91 = true := by kernel_rfl
theorem k92 : chkF Try.prog Try.f92 c92 = true := by kernel_rfl
theorem k93 : chkF Try.prog Try.f93 c93 = true := by kernel_rfl
theorem k94 : chkF Try.prog Try.f94 c94 = true := by kernel_rfl
theorem k95 : chkF Try.prog Try.f95 c95 = true := by kernel_rfl
theorem k96 : chkF Try.prog Try.f96 c96 = true := by kernel_rfl
theorem k97 : chkF Try.prog Try.f97 c97 = true := by kernel_rfl
theorem k98 : chkF Try.prog Try.f98 c98 = true := by kernel_rfl
theorem row0_ok : OkRow Try.prog 0 row0 := ⟨⟨_, Try.func3, k3⟩, ⟨_, Try.func4, k4⟩, ⟨_, Try.func5, k5⟩, ⟨_, Try.func6, k6⟩, ⟨_, Try.func7, k7⟩, ⟨_, Try.func8, k8⟩, ⟨_, Try.func9, k9⟩, ⟨_, Try.func10, k10⟩, ⟨_, Try.func11, k11⟩, ⟨_, Try.func12, k12⟩, ⟨_, Try.func13, k13⟩, ⟨_, Try.func14, k14⟩, ⟨_, Try.func15, k15⟩, trivial⟩
theorem row16_ok : OkRow Try.prog 16 row16 := ⟨⟨_, Try.func16, k16⟩, ⟨_, Try.func17, k17⟩, ⟨_, Try.func18, k18⟩, ⟨_, Try.func19, k19⟩, ⟨_, Try.func20, k20⟩, ⟨_, Try.func21, k21⟩, ⟨_, Try.func22, k22⟩, ⟨_, Try.func23, k23⟩, ⟨_, Try.func24, k24⟩, ⟨_, Try.func25, k25⟩, ⟨_, Try.func26, k26⟩, ⟨_, Try.func27, k27⟩, ⟨_, Try.func28, k28⟩, ⟨_, Try.func29, k29⟩, ⟨_, Try.func30, k30⟩, ⟨_, Try.func31, k31⟩, trivial⟩
theorem row32_ok : OkRow Try.prog 32 row32 := ⟨⟨_, Try.func32, k32⟩, ⟨_, Try.func33, k33⟩, ⟨_, Try.func34, k34⟩, ⟨_, Try.func35, k35⟩, ⟨_, Try.func36, k36⟩, ⟨_, Try.func37, k37⟩, ⟨_, Try.func38, k38⟩, ⟨_, Try.func39, k39⟩, ⟨_, Try.func40, k40⟩, ⟨_, Try.func41, k41⟩, ⟨_, Try.func42, k42⟩, ⟨_, Try.func43, k43⟩, ⟨_, Try.func44, k44⟩, ⟨_, Try.func45, k45⟩, ⟨_, Try.func46, k46⟩, ⟨_, Try.func47, k47⟩, trivial⟩
theorem row48_ok : OkRow Try.prog 48 row48 := ⟨⟨_, Try.func48, k48⟩, ⟨_, Try.func49, k49⟩, ⟨_, Try.func50, k50⟩, ⟨_, Try.func51, k51⟩, ⟨_, Try.func52, k52⟩, ⟨_, Try.func53, k53⟩, ⟨_, Try.func54, k54⟩, ⟨_, Try.func55, k55⟩, ⟨_, Try.func56, k56⟩, ⟨_, Try.func57, k57⟩, ⟨_, Try.func58, k58⟩, ⟨_, Try.func59, k59⟩, ⟨_, Try.func60, k60⟩, ⟨_, Try.func61, k61⟩, ⟨_, Try.func62, k62⟩, ⟨_, Try.func63, k63⟩, trivial⟩
theorem row64_ok : OkRow Try.prog 64 row64 := ⟨⟨_, Try.func64, k64⟩, ⟨_, Try.func65, k65⟩, ⟨_, Try.func66, k66⟩, ⟨_, Try.func67, k67⟩, ⟨_, Try.func68, k68⟩, ⟨_, Try.func69, k69⟩, ⟨_, Try.func70, k70⟩, ⟨_, Try.func71, k71⟩, ⟨_, Try.func72, k72⟩, ⟨_, Try.func73, k73⟩, ⟨_, Try.func74, k74⟩, ⟨_, Try.func75, k75⟩, ⟨_, Try.func76, k76⟩, ⟨_, Try.func77, k77⟩, ⟨_, Try.func78, k78⟩, ⟨_, Try.func79, k79⟩, trivial⟩
theorem row80_ok : OkRow Try.prog 80 row80 := ⟨⟨_, Try.func80, k80⟩, ⟨_, Try.func81, k81⟩, ⟨_, Try.func82, k82⟩, ⟨_, Try.func83, k83⟩, ⟨_, Try.func84, k84⟩, ⟨_, Try.func85, k85⟩, ⟨_, Try.func86, k86⟩, ⟨_, Try.func87, k87⟩, ⟨_, Try.func88, k88⟩, ⟨_, Try.func89, k89⟩, ⟨_, Try.func90, k90⟩, ⟨_, Try.func91, k91⟩, ⟨_, Try.func92, k92⟩, ⟨_, Try.func93, k93⟩, ⟨_, Try.func94, k94⟩, ⟨_, Try.func95, k95⟩, trivial⟩
theorem row96_ok : OkRow Try.prog 96 row96 := ⟨⟨_, Try.func96, k96⟩, ⟨_, Try.func97, k97⟩, ⟨_, Try.func98, k98⟩, trivial⟩
theorem rows_ok : OkRows Try.prog 0 rows := ⟨row0_ok, row16_ok, row32_ok, row48_ok, row64_ok, row80_ok, row96_ok, trivial⟩
theorem tab_ok : TabOk Try.prog tab := tabOf_ok rows_ok
end Go.Proofs.Ytpfocppjojgooaa
