/-
  The codes are those of the program. Written by a program (gencok.py).
-/
import Derived.Test.YtmdaaicmkmgkfaaGreatDoorCodeb
import Derived.Test.YtmdaaicmkmgkfaaGreatDoorProg
import Derived.KernelRfl
namespace Go.Proofs.YtmdaaicmkmgkfaaGreatDoor
open Go Go.B
theorem k84 : chkF Tryz.prog Tryz.f84 c84 = true := by kernel_rfl
theorem k85 : chkF Tryz.prog Tryz.f85 c85 = true := by kernel_rfl
theorem k86 : chkF Tryz.prog Tryz.f86 c86 = true := by kernel_rfl
theorem k87 : chkF Tryz.prog Tryz.f87 c87 = true := by kernel_rfl
theorem k88 : chkF Tryz.prog Tryz.f88 c88 = true := by kernel_rfl
theorem k89 : chkF Tryz.prog Tryz.f89 c89 = true := by kernel_rfl
theorem k90 : chkF Tryz.prog Tryz.f90 c90 = true := by kernel_rfl
theorem k91 : chkF Tryz.prog Tryz.f91 c91 = true := by kernel_rfl
theorem k93 : chkF Tryz.prog Tryz.f93 c93 = true := by kernel_rfl
theorem k95 : chkF Tryz.prog Tryz.f95 c95 = true := by kernel_rfl
theorem k96 : chkF Tryz.prog Tryz.f96 c96 = true := by kernel_rfl
theorem k97 : chkF Tryz.prog Tryz.f97 c97 = true := by kernel_rfl
theorem k98 : chkF Tryz.prog Tryz.f98 c98 = true := by kernel_rfl
theorem k99 : chkF Tryz.prog Tryz.f99 c99 = true := by kernel_rfl
theorem k100 : chkF Tryz.prog Tryz.f100 c100 = true := by kernel_rfl
theorem k101 : chkF Tryz.prog Tryz.f101 c101 = true := by kernel_rfl
theorem k102 : chkF Tryz.prog Tryz.f102 c102 = true := by kernel_rfl
theorem k103 : chkF Tryz.prog Tryz.f103 c103 = true := by kernel_rfl
theorem k104 : chkF Tryz.prog Tryz.f104 c104 = true := by kernel_rfl
theorem k105 : chkF Tryz.prog Tryz.f105 c105 = true := by kernel_rfl
theorem k106 : chkF Tryz.prog Tryz.f106 c106 = true := by kernel_rfl
theorem k107 : chkF Tryz.prog Tryz.f107 c107 = true := by kernel_rfl
theorem k108 : chkF Tryz.prog Tryz.f108 c108 = true := by kernel_rfl
theorem k109 : chkF Tryz.prog Tryz.f109 c109 = true := by kernel_rfl
theorem k110 : chkF Tryz.prog Tryz.f110 c110 = true := by kernel_rfl
theorem k111 : chkF Tryz.prog Tryz.f111 c111 = true := by kernel_rfl
theorem k112 : chkF Tryz.prog Tryz.f112 c112 = true := by kernel_rfl
theorem k113 : chkF Tryz.prog Tryz.f113 c113 = true := by kernel_rfl
theorem k114 : chkF Tryz.prog Tryz.f114 c114 = true := by kernel_rfl
theorem k116 : chkF Tryz.prog Tryz.f116 c116 = true := by kernel_rfl
theorem k117 : chkF Tryz.prog Tryz.f117 c117 = true := by kernel_rfl
theorem k119 : chkF Tryz.prog Tryz.f119 c119 = true := by kernel_rfl
theorem k120 : chkF Tryz.prog Tryz.f120 c120 = true := by kernel_rfl
theorem k122 : chkF Tryz.prog Tryz.f122 c122 = true := by kernel_rfl
theorem k123 : chkF Tryz.prog Tryz.f123 c123 = true := by kernel_rfl
theorem k124 : chkF Tryz.prog Tryz.f124 c124 = true := by kernel_rfl
theorem k125 : chkF Tryz.prog Tryz.f125 c125 = true := by kernel_rfl
theorem k126 : chkF Tryz.prog Tryz.f126 c126 = true := by kernel_rfl
theorem k127 : chkF Tryz.prog Tryz.f127 c127 = true := by kernel_rfl
theorem k128 : chkF Tryz.prog Tryz.f128 c128 = true := by kernel_rfl
theorem k129 : chkF Tryz.prog Tryz.f129 c129 = true := by kernel_rfl
theorem k130 : chkF Tryz.prog Tryz.f130 c130 = true := by kernel_rfl
theorem k131 : chkF Tryz.prog Tryz.f131 c131 = true := by kernel_rfl
theorem k132 : chkF Tryz.prog Tryz.f132 c132 = true := by kernel_rfl
theorem k133 : chkF Tryz.prog Tryz.f133 c133 = true := by kernel_rfl
theorem k136 : chkF Tryz.prog Tryz.f136 c136 = true := by kernel_rfl
theorem k140 : chkF Tryz.prog Tryz.f140 c140 = true := by kernel_rfl
theorem k141 : chkF Tryz.prog Tryz.f141 c141 = true := by kernel_rfl
theorem k142 : chkF Tryz.prog Tryz.f142 c142 = true := by kernel_rfl
theorem k144 : chkF Tryz.prog Tryz.f144 c144 = true := by kernel_rfl
theorem k146 : chkF Tryz.prog Tryz.f146 c146 = true := by kernel_rfl
theorem k147 : chkF Tryz.prog Tryz.f147 c147 = true := by kernel_rfl
theorem k148 : chkF Tryz.prog Tryz.f148 c148 = true := by kernel_rfl
theorem k149 : chkF Tryz.prog Tryz.f149 c149 = true := by kernel_rfl
theorem k150 : chkF Tryz.prog Tryz.f150 c150 = true := by kernel_rfl
theorem k151 : chkF Tryz.prog Tryz.f151 c151 = true := by kernel_rfl
theorem k152 : chkF Tryz.prog Tryz.f152 c152 = true := by kernel_rfl
theorem k153 : chkF Tryz.prog Tryz.f153 c153 = true := by kernel_rfl
theorem k154 : chkF Tryz.prog Tryz.f154 c154 = true := by kernel_rfl
theorem k155 : chkF Tryz.prog Tryz.f155 c155 = true := by kernel_rfl
theorem k156 : chkF Tryz.prog Tryz.f156 c156 = true := by kernel_rfl
theorem k158 : chkF Tryz.prog Tryz.f158 c158 = true := by kernel_rfl
theorem k159 : chkF Tryz.prog Tryz.f159 c159 = true := by kernel_rfl
theorem k160 : chkF Tryz.prog Tryz.f160 c160 = true := by kernel_rfl
theorem k161 : chkF Tryz.prog Tryz.f161 c161 = true := by kernel_rfl
theorem k163 : chkF Tryz.prog Tryz.f163 c163 = true := by kernel_rfl
theorem k164 : chkF Tryz.prog Tryz.f164 c164 = true := by kernel_rfl
theorem k165 : chkF Tryz.prog Tryz.f165 c165 = true := by kernel_rfl
theorem k166 : chkF Tryz.prog Tryz.f166 c166 = true := by kernel_rfl
theorem k167 : chkF Tryz.prog Tryz.f167 c167 = true := by kernel_rfl
theorem k168 : chkF Tryz.prog Tryz.f168 c168 = true := by kernel_rfl
theorem k170 : chkF Tryz.prog Tryz.f170 c170 = true := by kernel_rfl
theorem k171 : chkF Tryz.prog Tryz.f171 c171 = true := by kernel_rfl
theorem k172 : chkF Tryz.prog Tryz.f172 c172 = true := by kernel_rfl
theorem k173 : chkF Tryz.prog Tryz.f173 c173 = true := by kernel_rfl
theorem k174 : chkF Tryz.prog Tryz.f174 c174 = true := by kernel_rfl
theorem k176 : chkF Tryz.prog Tryz.f176 c176 = true := by kernel_rfl
theorem k182 : chkF Tryz.prog Tryz.f182 c182 = true := by kernel_rfl
theorem k183 : chkF Tryz.prog Tryz.f183 c183 = true := by kernel_rfl
end Go.Proofs.YtmdaaicmkmgkfaaGreatDoor
