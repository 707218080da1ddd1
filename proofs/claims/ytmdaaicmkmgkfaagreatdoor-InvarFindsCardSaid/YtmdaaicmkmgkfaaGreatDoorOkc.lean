/-
  The codes are those of the program. Written by a program (gencok.py).
-/
import Derived.Test.YtmdaaicmkmgkfaaGreatDoorCodeb
import Derived.Test.YtmdaaicmkmgkfaaGreatDoorProg
import Derived.KernelRfl
namespace Go.Proofs.YtmdaaicmkmgkfaaGreatDoor
open Go Go.B
theorem k184 : chkF Tryz.prog Tryz.f184 c184 = true := by kernel_rfl
theorem k185 : chkF Tryz.prog Tryz.f185 c185 = true := by kernel_rfl
theorem k186 : chkF Tryz.prog Tryz.f186 c186 = true := by kernel_rfl
theorem k189 : chkF Tryz.prog Tryz.f189 c189 = true := by kernel_rfl
theorem k190 : chkF Tryz.prog Tryz.f190 c190 = true := by kernel_rfl
theorem k191 : chkF Tryz.prog Tryz.f191 c191 = true := by kernel_rfl
theorem k192 : chkF Tryz.prog Tryz.f192 c192 = true := by kernel_rfl
theorem k194 : chkF Tryz.prog Tryz.f194 c194 = true := by kernel_rfl
theorem k195 : chkF Tryz.prog Tryz.f195 c195 = true := by kernel_rfl
theorem k196 : chkF Tryz.prog Tryz.f196 c196 = true := by kernel_rfl
theorem k198 : chkF Tryz.prog Tryz.f198 c198 = true := by kernel_rfl
theorem k200 : chkF Tryz.prog Tryz.f200 c200 = true := by kernel_rfl
theorem k201 : chkF Tryz.prog Tryz.f201 c201 = true := by kernel_rfl
theorem k202 : chkF Tryz.prog Tryz.f202 c202 = true := by kernel_rfl
theorem k203 : chkF Tryz.prog Tryz.f203 c203 = true := by kernel_rfl
theorem k204 : chkF Tryz.prog Tryz.f204 c204 = true := by kernel_rfl
theorem k205 : chkF Tryz.prog Tryz.f205 c205 = true := by kernel_rfl
theorem k206 : chkF Tryz.prog Tryz.f206 c206 = true := by kernel_rfl
theorem k207 : chkF Tryz.prog Tryz.f207 c207 = true := by kernel_rfl
theorem k208 : chkF Tryz.prog Tryz.f208 c208 = true := by kernel_rfl
theorem k209 : chkF Tryz.prog Tryz.f209 c209 = true := by kernel_rfl
theorem k210 : chkF Tryz.prog Tryz.f210 c210 = true := by kernel_rfl
theorem k211 : chkF Tryz.prog Tryz.f211 c211 = true := by kernel_rfl
theorem k212 : chkF Tryz.prog Tryz.f212 c212 = true := by kernel_rfl
theorem k213 : chkF Tryz.prog Tryz.f213 c213 = true := by kernel_rfl
theorem k214 : chkF Tryz.prog Tryz.f214 c214 = true := by kernel_rfl
theorem k218 : chkF Tryz.prog Tryz.f218 c218 = true := by kernel_rfl
theorem k219 : chkF Tryz.prog Tryz.f219 c219 = true := by kernel_rfl
theorem k221 : chkF Tryz.prog Tryz.f221 c221 = true := by kernel_rfl
theorem k222 : chkF Tryz.prog Tryz.f222 c222 = true := by kernel_rfl
theorem k223 : chkF Tryz.prog Tryz.f223 c223 = true := by kernel_rfl
theorem k224 : chkF Tryz.prog Tryz.f224 c224 = true := by kernel_rfl
theorem k225 : chkF Tryz.prog Tryz.f225 c225 = true := by kernel_rfl
theorem k226 : chkF Tryz.prog Tryz.f226 c226 = true := by kernel_rfl
theorem k227 : chkF Tryz.prog Tryz.f227 c227 = true := by kernel_rfl
theorem k228 : chkF Tryz.prog Tryz.f228 c228 = true := by kernel_rfl
theorem k229 : chkF Tryz.prog Tryz.f229 c229 = true := by kernel_rfl
theorem k230 : chkF Tryz.prog Tryz.f230 c230 = true := by kernel_rfl
theorem k232 : chkF Tryz.prog Tryz.f232 c232 = true := by kernel_rfl
theorem k233 : chkF Tryz.prog Tryz.f233 c233 = true := by kernel_rfl
theorem k234 : chkF Tryz.prog Tryz.f234 c234 = true := by kernel_rfl
theorem k235 : chkF Tryz.prog Tryz.f235 c235 = true := by kernel_rfl
theorem k238 : chkF Tryz.prog Tryz.f238 c238 = true := by kernel_rfl
theorem k244 : chkF Tryz.prog Tryz.f244 c244 = true := by kernel_rfl
theorem k251 : chkF Tryz.prog Tryz.f251 c251 = true := by kernel_rfl
theorem k252 : chkF Tryz.prog Tryz.f252 c252 = true := by kernel_rfl
theorem k253 : chkF Tryz.prog Tryz.f253 c253 = true := by kernel_rfl
theorem k254 : chkF Tryz.prog Tryz.f254 c254 = true := by kernel_rfl
theorem k255 : chkF Tryz.prog Tryz.f255 c255 = true := by kernel_rfl
theorem k256 : chkF Tryz.prog Tryz.f256 c256 = true := by kernel_rfl
theorem k257 : chkF Tryz.prog Tryz.f257 c257 = true := by kernel_rfl
theorem k258 : chkF Tryz.prog Tryz.f258 c258 = true := by kernel_rfl
theorem k259 : chkF Tryz.prog Tryz.f259 c259 = true := by kernel_rfl
theorem k263 : chkF Tryz.prog Tryz.f263 c263 = true := by kernel_rfl
theorem k264 : chkF Tryz.prog Tryz.f264 c264 = true := by kernel_rfl
theorem k265 : chkF Tryz.prog Tryz.f265 c265 = true := by kernel_rfl
theorem k266 : chkF Tryz.prog Tryz.f266 c266 = true := by kernel_rfl
theorem k267 : chkF Tryz.prog Tryz.f267 c267 = true := by kernel_rfl
theorem k271 : chkF Tryz.prog Tryz.f271 c271 = true := by kernel_rfl
theorem k274 : chkF Tryz.prog Tryz.f274 c274 = true := by kernel_rfl
theorem k275 : chkF Tryz.prog Tryz.f275 c275 = true := by kernel_rfl
theorem k281 : chkF Tryz.prog Tryz.f281 c281 = true := by kernel_rfl
theorem k282 : chkF Tryz.prog Tryz.f282 c282 = true := by kernel_rfl
theorem k292 : chkF Tryz.prog Tryz.f292 c292 = true := by kernel_rfl
theorem k293 : chkF Tryz.prog Tryz.f293 c293 = true := by kernel_rfl
theorem k294 : chkF Tryz.prog Tryz.f294 c294 = true := by kernel_rfl
theorem k295 : chkF Tryz.prog Tryz.f295 c295 = true := by kernel_rfl
theorem k300 : chkF Tryz.prog Tryz.f300 c300 = true := by kernel_rfl
theorem k326 : chkF Tryz.prog Tryz.f326 c326 = true := by kernel_rfl
theorem k327 : chkF Tryz.prog Tryz.f327 c327 = true := by kernel_rfl
theorem k333 : chkF Tryz.prog Tryz.f333 c333 = true := by kernel_rfl
theorem k346 : chkF Tryz.prog Tryz.f346 c346 = true := by kernel_rfl
theorem k354 : chkF Tryz.prog Tryz.f354 c354 = true := by kernel_rfl
theorem k401 : chkF Tryz.prog Tryz.f401 c401 = true := by kernel_rfl
theorem k402 : chkF Tryz.prog Tryz.f402 c402 = true := by kernel_rfl
theorem k403 : chkF Tryz.prog Tryz.f403 c403 = true := by kernel_rfl
theorem k404 : chkF Tryz.prog Tryz.f404 c404 = true := by kernel_rfl
end Go.Proofs.YtmdaaicmkmgkfaaGreatDoor
