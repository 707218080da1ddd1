/-
  The codes are those of the program. Written by a program (gencok.py).
-/
import Derived.Test.YtmdaaicmkmgkfaaGreatDoorCodeb
import Derived.Test.YtmdaaicmkmgkfaaGreatDoorProg
import Derived.KernelRfl
namespace Go.Proofs.YtmdaaicmkmgkfaaGreatDoor
open Go Go.B
theorem k3 : chkF Tryz.prog Tryz.f3 c3 = true := by kernel_rfl
theorem k4 : chkF Tryz.prog Tryz.f4 c4 = true := by kernel_rfl
theorem k5 : chkF Tryz.prog Tryz.f5 c5 = true := by kernel_rfl
theorem k6 : chkF Tryz.prog Tryz.f6 c6 = true := by kernel_rfl
theorem k7 : chkF Tryz.prog Tryz.f7 c7 = true := by kernel_rfl
theorem k8 : chkF Tryz.prog Tryz.f8 c8 = true := by kernel_rfl
theorem k9 : chkF Tryz.prog Tryz.f9 c9 = true := by kernel_rfl
theorem k10 : chkF Tryz.prog Tryz.f10 c10 = true := by kernel_rfl
theorem k11 : chkF Tryz.prog Tryz.f11 c11 = true := by kernel_rfl
theorem k12 : chkF Tryz.prog Tryz.f12 c12 = true := by kernel_rfl
theorem k13 : chkF Tryz.prog Tryz.f13 c13 = true := by kernel_rfl
theorem k14 : chkF Tryz.prog Tryz.f14 c14 = true := by kernel_rfl
theorem k15 : chkF Tryz.prog Tryz.f15 c15 = true := by kernel_rfl
theorem k16 : chkF Tryz.prog Tryz.f16 c16 = true := by kernel_rfl
theorem k17 : chkF Tryz.prog Tryz.f17 c17 = true := by kernel_rfl
theorem k18 : chkF Tryz.prog Tryz.f18 c18 = true := by kernel_rfl
theorem k19 : chkF Tryz.prog Tryz.f19 c19 = true := by kernel_rfl
theorem k20 : chkF Tryz.prog Tryz.f20 c20 = true := by kernel_rfl
theorem k21 : chkF Tryz.prog Tryz.f21 c21 = true := by kernel_rfl
theorem k22 : chkF Tryz.prog Tryz.f22 c22 = true := by kernel_rfl
theorem k23 : chkF Tryz.prog Tryz.f23 c23 = true := by kernel_rfl
theorem k24 : chkF Tryz.prog Tryz.f24 c24 = true := by kernel_rfl
theorem k25 : chkF Tryz.prog Tryz.f25 c25 = true := by kernel_rfl
theorem k26 : chkF Tryz.prog Tryz.f26 c26 = true := by kernel_rfl
theorem k27 : chkF Tryz.prog Tryz.f27 c27 = true := by kernel_rfl
theorem k28 : chkF Tryz.prog Tryz.f28 c28 = true := by kernel_rfl
theorem k29 : chkF Tryz.prog Tryz.f29 c29 = true := by kernel_rfl
theorem k30 : chkF Tryz.prog Tryz.f30 c30 = true := by kernel_rfl
theorem k31 : chkF Tryz.prog Tryz.f31 c31 = true := by kernel_rfl
theorem k32 : chkF Tryz.prog Tryz.f32 c32 = true := by kernel_rfl
theorem k33 : chkF Tryz.prog Tryz.f33 c33 = true := by kernel_rfl
theorem k34 : chkF Tryz.prog Tryz.f34 c34 = true := by kernel_rfl
theorem k35 : chkF Tryz.prog Tryz.f35 c35 = true := by kernel_rfl
theorem k36 : chkF Tryz.prog Tryz.f36 c36 = true := by kernel_rfl
theorem k37 : chkF Tryz.prog Tryz.f37 c37 = true := by kernel_rfl
theorem k38 : chkF Tryz.prog Tryz.f38 c38 = true := by kernel_rfl
theorem k39 : chkF Tryz.prog Tryz.f39 c39 = true := by kernel_rfl
theorem k40 : chkF Tryz.prog Tryz.f40 c40 = true := by kernel_rfl
theorem k41 : chkF Tryz.prog Tryz.f41 c41 = true := by kernel_rfl
theorem k42 : chkF Tryz.prog Tryz.f42 c42 = true := by kernel_rfl
theorem k43 : chkF Tryz.prog Tryz.f43 c43 = true := by kernel_rfl
theorem k44 : chkF Tryz.prog Tryz.f44 c44 = true := by kernel_rfl
theorem k45 : chkF Tryz.prog Tryz.f45 c45 = true := by kernel_rfl
theorem k46 : chkF Tryz.prog Tryz.f46 c46 = true := by kernel_rfl
theorem k47 : chkF Tryz.prog Tryz.f47 c47 = true := by kernel_rfl
theorem k48 : chkF Tryz.prog Tryz.f48 c48 = true := by kernel_rfl
theorem k49 : chkF Tryz.prog Tryz.f49 c49 = true := by kernel_rfl
theorem k50 : chkF Tryz.prog Tryz.f50 c50 = true := by kernel_rfl
theorem k51 : chkF Tryz.prog Tryz.f51 c51 = true := by kernel_rfl
theorem k52 : chkF Tryz.prog Tryz.f52 c52 = true := by kernel_rfl
theorem k54 : chkF Tryz.prog Tryz.f54 c54 = true := by kernel_rfl
theorem k55 : chkF Tryz.prog Tryz.f55 c55 = true := by kernel_rfl
theorem k56 : chkF Tryz.prog Tryz.f56 c56 = true := by kernel_rfl
theorem k57 : chkF Tryz.prog Tryz.f57 c57 = true := by kernel_rfl
theorem k58 : chkF Tryz.prog Tryz.f58 c58 = true := by kernel_rfl
theorem k59 : chkF Tryz.prog Tryz.f59 c59 = true := by kernel_rfl
theorem k60 : chkF Tryz.prog Tryz.f60 c60 = true := by kernel_rfl
theorem k61 : chkF Tryz.prog Tryz.f61 c61 = true := by kernel_rfl
theorem k62 : chkF Tryz.prog Tryz.f62 c62 = true := by kernel_rfl
theorem k63 : chkF Tryz.prog Tryz.f63 c63 = true := by kernel_rfl
theorem k64 : chkF Tryz.prog Tryz.f64 c64 = true := by kernel_rfl
theorem k65 : chkF Tryz.prog Tryz.f65 c65 = true := by kernel_rfl
theorem k66 : chkF Tryz.prog Tryz.f66 c66 = true := by kernel_rfl
theorem k67 : chkF Tryz.prog Tryz.f67 c67 = true := by kernel_rfl
theorem k68 : chkF Tryz.prog Tryz.f68 c68 = true := by kernel_rfl
theorem k69 : chkF Tryz.prog Tryz.f69 c69 = true := by kernel_rfl
theorem k70 : chkF Tryz.prog Tryz.f70 c70 = true := by kernel_rfl
theorem k71 : chkF Tryz.prog Tryz.f71 c71 = true := by kernel_rfl
theorem k72 : chkF Tryz.prog Tryz.f72 c72 = true := by kernel_rfl
theorem k73 : chkF Tryz.prog Tryz.f73 c73 = true := by kernel_rfl
theorem k74 : chkF Tryz.prog Tryz.f74 c74 = true := by kernel_rfl
theorem k75 : chkF Tryz.prog Tryz.f75 c75 = true := by kernel_rfl
theorem k76 : chkF Tryz.prog Tryz.f76 c76 = true := by kernel_rfl
theorem k77 : chkF Tryz.prog Tryz.f77 c77 = true := by kernel_rfl
theorem k78 : chkF Tryz.prog Tryz.f78 c78 = true := by kernel_rfl
theorem k79 : chkF Tryz.prog Tryz.f79 c79 = true := by kernel_rfl
theorem k80 : chkF Tryz.prog Tryz.f80 c80 = true := by kernel_rfl
theorem k81 : chkF Tryz.prog Tryz.f81 c81 = true := by kernel_rfl
theorem k82 : chkF Tryz.prog Tryz.f82 c82 = true := by kernel_rfl
end Go.Proofs.YtmdaaicmkmgkfaaGreatDoor
