/- A part of the proof: the calculus over pure values, contracts of functions, and plain lemmas. -/
import Derived.Test.YtccejlonkoafgaaGreatDoorW2
import Derived.Shelf.Strings.Builder1
import Derived.Shelf.Strings.Builder2
import Derived.Shelf.Strings.OnBuilder
import Derived.Shelf.Strings.Trim
import Derived.Shelf.Small.Utf8
import Derived.Shelf.Small.Strs
import Derived.Shelf.Small.Wraps
import Derived.Shelf.Strings.BuilderF
import Derived.Shelf.Strings.BuilderK
import Derived.Shelf.Utf8.RuneCount
import Derived.Shelf.Strings.Builder2Cap
import Derived.Shelf.Strings.Search1
import Derived.Shelf.Strings.Search2
import Derived.Shelf.Strings.Search3
import Derived.Shelf.Strings.Count
import Derived.Shelf.LaysM
import Derived.Shelf.Strings.Shaped
import Derived.Shelf.Strings.LastIndex
import Derived.Shelf.GgClosure.StringsIndexFunc
import Derived.Ground.GgwProg
import Derived.Shelf.GgClosure.StringsIndexFuncTop
import Derived.Shelf.GgClosure.StringsRunes
import Derived.Shelf.Strings.Prefix
import Derived.Shelf.Strings.Split
import Derived.Shelf.Strings.Fields
import Derived.Shelf.Strings.SplitShaped
import Derived.Shelf.Unicode.Latin
import Derived.Shelf.Unicode.Decode
import Derived.Shelf.Strings.Runes
import Derived.Shelf.Strings.RuneCount
import Derived.Shelf.Strings.AsciiSet
import Derived.Shelf.Strings.Explode
import Derived.Shelf.Unicode.DecodeSlow
import Derived.Shelf.Unicode.DecodeAny
import Derived.Shelf.Unicode.Is16White
import Derived.Shelf.Unicode.IsSpaceAny
import Derived.Shelf.Unicode.DecodeLast
import Derived.Shelf.Unicode.Is16WhiteD
import Derived.Shelf.Unicode.IsSpaceAnyD
import Derived.Shelf.Strings.FieldsAny
import Derived.Shelf.Strings.FieldsFuncAny
import Derived.Shelf.Unicode.Is16Any
import Derived.Shelf.Unicode.Is32Any
import Derived.Shelf.Unicode.ExclAny
import Derived.Shelf.Strings.FuncGrows
import Derived.Shelf.Strings.FieldsFuncGrows
import Derived.Shelf.Strings.BuilderCap
import Derived.Shelf.Slices.Turned
import Derived.Ground.Names2Prog
import Derived.Shelf.Slices.SearchI
import Derived.Ground.PaProg
import Derived.Shelf.Path.Small
import Derived.Test.YtccejlonkoafgaaGreatDoorProg
import Derived.Calls
section
set_option linter.unusedVariables false
set_option maxRecDepth 100000
namespace Go.Plane
open Go Go.Proofs
noncomputable def i3 : FI := -- cosigner/cosignerlaw01.LexPatches
 ⟨116, [.t 6],
 (.seq (.ops [.e none (some 5) (.box 24 (.t 2)),
  .q none (some 6) (.mv (.k (.d (.bool false))))])
 (.kp [0, 1, 5] (.seq (.seq (.ops [.q none (some 20) (.mv (.t 0)),
  .call none (some 21) 6 [(.t 20)],
  .q none (some 22) (.not (.t 21)),
  .q none (some 23) (.mv (.t 22)),
  .q (some (23, false)) (some 24) (.mv (.t 1)),
  .q (some (23, false)) (some 25) (.len (.t 24)),
  .q (some (23, false)) (some 26) (.bin .gtr (.t 25) (.k (.d (.int .i64 60)))),
  .q none (some 27) (.pick (.t 23) (.k (.d (.bool true))) (.t 26)),
  .q none (some 28) (.mv (.t 27)),
  .q (some (28, false)) (some 29) (.faddr 2 (.t 5)),
  .q (some (28, false)) (some 30) (.load 1 false (.t 29)),
  .q (some (28, false)) (some 31) (.slen (.t 30)),
  .q (some (28, false)) (some 32) (.bin .gtr (.t 31) (.k (.d (.int .i64 400)))),
  .q none (some 33) (.pick (.t 28) (.k (.d (.bool true))) (.t 32))])
 (.kp [0, 1, 5, 33] (.cond (.t 33) (.seq (.ops [.call none (some 34) 7 [],
  .q none (some 6) (.mv (.t 34))])
 .ret) .skip)))
 (.kp [0, 1, 5] (.seq (.ops [.q none (some 36) (.mv (.t 1)),
  .q none (some 37) (.mv (.t 0)),
  .q none (some 38) (.load 3 true (.t 5)),
  .call none (some 39) 8 [(.t 36), (.t 37), (.t 38)],
  .q none (some 35) (.mv (.t 39)),
  .q none (some 40) (.extract (.t 35) 0),
  .q none (some 41) (.extract (.t 35) 1),
  .q none (some 42) (.extract (.t 35) 2),
  .q none (some 43) (.extract (.t 35) 3),
  .e none (some 9) (.alloc 28 [(.d (.int .i64 0)), (.d (.int .i64 0))]),
  .q none (some 7) (.mv (.t 40)),
  .q none (some 8) (.mv (.t 41)),
  .e none none (.store 2 (.t 9) (.t 42)),
  .q none (some 10) (.mv (.t 43))])
 (.kp [0, 1, 5, 7, 8, 9, 10] (.seq (.ops [.q none (some 44) (.mv (.t 1)),
  .q none (some 45) (.mv (.t 0)),
  .q none (some 46) (.load 3 true (.t 5)),
  .call none (some 47) 9 [(.t 44), (.t 45), (.t 46)],
  .e none (some 11) (.alloc 33 [.snil, (.d (.int .i64 0)), (.d (.int .i64 0)), (.d (.int .i64 0)), (.d (.int .i64 0))]),
  .e none none (.store 5 (.t 11) (.t 47))])
 (.kp [0, 5, 7, 8, 9, 10, 11] (.seq (.ops [.q none (some 48) (.mv (.t 0)),
  .call none (some 49) 10 [(.t 48)],
  .e none (some 12) (.alloc 36 [.snil, .snil, (.d (.int .i64 0)), (.d (.int .i64 0)), (.d (.int .i64 0))]),
  .e none none (.store 5 (.t 12) (.t 49))])
 (.kp [0, 5, 7, 8, 9, 10, 11, 12] (.seq (.ops [.q none (some 51) (.faddr 0 (.t 12)),
  .q none (some 52) (.load 1 false (.t 51)),
  .q none (some 53) (.mv (.t 0)),
  .q none (some 54) (.load 3 true (.t 5)),
  .call none (some 55) 8 [(.t 52), (.t 53), (.t 54)],
  .q none (some 50) (.mv (.t 55)),
  .q none (some 56) (.extract (.t 50) 0),
  .q none (some 57) (.extract (.t 50) 1),
  .q none (some 58) (.extract (.t 50) 2),
  .q none (some 59) (.extract (.t 50) 3),
  .e none (some 15) (.alloc 28 [(.d (.int .i64 0)), (.d (.int .i64 0))]),
  .q none (some 13) (.mv (.t 56)),
  .q none (some 14) (.mv (.t 57)),
  .e none none (.store 2 (.t 15) (.t 58)),
  .q none (some 16) (.mv (.t 59))])
 (.kp [0, 5, 7, 8, 9, 10, 11, 12, 13, 14, 15, 16] (.seq (.ops [.q none (some 60) (.faddr 0 (.t 12)),
  .q none (some 61) (.load 1 false (.t 60)),
  .q none (some 62) (.mv (.t 0)),
  .q none (some 63) (.load 3 true (.t 5)),
  .call none (some 64) 9 [(.t 61), (.t 62), (.t 63)],
  .e none (some 17) (.alloc 33 [.snil, (.d (.int .i64 0)), (.d (.int .i64 0)), (.d (.int .i64 0)), (.d (.int .i64 0))]),
  .e none none (.store 5 (.t 17) (.t 64))])
 (.kp [7, 8, 9, 10, 11, 13, 14, 15, 16, 17] (.seq (.ops [.q none (some 65) (.mv (.t 7)),
  .q none (some 66) (.faddr 0 (.t 11)),
  .q none (some 67) (.load 1 false (.t 66)),
  .call none (some 68) 11 [(.t 65), (.t 67)],
  .q none (some 18) (.mv (.t 68))])
 (.kp [8, 9, 10, 11, 13, 14, 15, 16, 17, 18] (.seq (.ops [.q none (some 69) (.mv (.t 13)),
  .q none (some 70) (.faddr 0 (.t 17)),
  .q none (some 71) (.load 1 false (.t 70)),
  .call none (some 72) 11 [(.t 69), (.t 71)],
  .q none (some 19) (.mv (.t 72))])
 (.kp [8, 9, 10, 11, 14, 15, 16, 17, 18, 19] (.seq (.ops [.call none (some 73) 7 [],
  .q none (some 74) (.mv (.t 73)),
  .q (some (74, true)) (some 75) (.mv (.t 18)),
  .q none (some 76) (.pick (.t 74) (.t 75) (.k (.d (.bool false)))),
  .q none (some 77) (.mv (.t 76)),
  .q (some (77, true)) (some 78) (.mv (.t 8)),
  .q (some (77, true)) (some 79) (.faddr 1 (.t 11)),
  .q (some (77, true)) (some 80) (.load 1 false (.t 79)),
  .q (some (77, true)) (some 81) (.bin .eql (.t 78) (.t 80)),
  .q none (some 82) (.pick (.t 77) (.t 81) (.k (.d (.bool false)))),
  .q none (some 83) (.mv (.t 82)),
  .q (some (83, true)) (some 84) (.load 2 true (.t 9)),
  .q (some (83, true)) (some 85) (.faddr 2 (.t 11)),
  .q (some (83, true)) (some 86) (.load 2 true (.t 85)),
  .q (some (83, true)) (some 87) (.eqs false [.int .i64, .int .i64] (.t 84) (.t 86)),
  .q none (some 88) (.pick (.t 83) (.t 87) (.k (.d (.bool false)))),
  .q none (some 89) (.mv (.t 88)),
  .q (some (89, true)) (some 90) (.mv (.t 10)),
  .q (some (89, true)) (some 91) (.faddr 4 (.t 11)),
  .q (some (89, true)) (some 92) (.load 1 false (.t 91)),
  .q (some (89, true)) (some 93) (.bin .eql (.t 90) (.t 92)),
  .q none (some 94) (.pick (.t 89) (.t 93) (.k (.d (.bool false)))),
  .q none (some 95) (.mv (.t 94)),
  .q (some (95, true)) (some 96) (.mv (.t 19)),
  .q none (some 97) (.pick (.t 95) (.t 96) (.k (.d (.bool false)))),
  .q none (some 98) (.mv (.t 97)),
  .q (some (98, true)) (some 99) (.mv (.t 14)),
  .q (some (98, true)) (some 100) (.faddr 1 (.t 17)),
  .q (some (98, true)) (some 101) (.load 1 false (.t 100)),
  .q (some (98, true)) (some 102) (.bin .eql (.t 99) (.t 101)),
  .q none (some 103) (.pick (.t 98) (.t 102) (.k (.d (.bool false)))),
  .q none (some 104) (.mv (.t 103)),
  .q (some (104, true)) (some 105) (.load 2 true (.t 15)),
  .q (some (104, true)) (some 106) (.faddr 2 (.t 17)),
  .q (some (104, true)) (some 107) (.load 2 true (.t 106)),
  .q (some (104, true)) (some 108) (.eqs false [.int .i64, .int .i64] (.t 105) (.t 107)),
  .q none (some 109) (.pick (.t 104) (.t 108) (.k (.d (.bool false)))),
  .q none (some 110) (.mv (.t 109)),
  .q (some (110, true)) (some 111) (.mv (.t 16)),
  .q (some (110, true)) (some 112) (.faddr 4 (.t 17)),
  .q (some (110, true)) (some 113) (.load 1 false (.t 112)),
  .q (some (110, true)) (some 114) (.bin .eql (.t 111) (.t 113)),
  .q none (some 115) (.pick (.t 110) (.t 114) (.k (.d (.bool false)))),
  .q none (some 6) (.mv (.t 115))])
 .ret)))))))))))))))))))⟩
theorem c3 : chkF Γz.P Γz.E 3 3 i3 = true := by kernel_rfl
noncomputable def i4 : FI := -- cosigner/cosignerlaw01.LexWrites
 ⟨83, [.t 2],
 (.seq (.ops [.q none (some 2) (.mv (.k (.d (.bool false))))])
 (.kp [0] (.seq (.seq (.ops [.q none (some 12) (.mv (.t 0)),
  .call none (some 13) 12 [(.t 12)],
  .q none (some 14) (.not (.t 13))])
 (.kp [0, 14] (.cond (.t 14) (.seq (.ops [.call none (some 15) 7 [],
  .q none (some 2) (.mv (.t 15))])
 .ret) .skip)))
 (.kp [0] (.seq (.ops [.q none (some 17) (.mv (.t 0)),
  .call none (some 18) 13 [(.t 17)],
  .q none (some 16) (.mv (.t 18)),
  .q none (some 19) (.extract (.t 16) 0),
  .q none (some 20) (.extract (.t 16) 1),
  .q none (some 3) (.mv (.t 19)),
  .q none (some 4) (.mv (.t 20))])
 (.kp [0, 3, 4] (.seq (.ops [.q none (some 21) (.mv (.t 0)),
  .call none (some 22) 14 [(.t 21)],
  .e none (some 5) (.alloc 44 [(.d (.str [])), (.d (.int .i64 0))]),
  .e none none (.store 2 (.t 5) (.t 22))])
 (.kp [0, 3, 4, 5] (.seq (.ops [.q none (some 24) (.mv (.t 0)),
  .call none (some 25) 15 [(.t 24)],
  .q none (some 23) (.mv (.t 25)),
  .q none (some 26) (.extract (.t 23) 0),
  .q none (some 27) (.extract (.t 23) 1),
  .q none (some 6) (.mv (.t 26)),
  .q none (some 7) (.mv (.t 27))])
 (.kp [0, 3, 4, 5, 6, 7] (.seq (.ops [.q none (some 28) (.mv (.t 0)),
  .call none (some 29) 16 [(.t 28)],
  .e none (some 8) (.alloc 44 [(.d (.str [])), (.d (.int .i64 0))]),
  .e none none (.store 2 (.t 8) (.t 29))])
 (.kp [0, 3, 4, 5, 6, 7, 8] (.seq (.seq (.ops [.q none (some 30) (.mv (.t 3)),
  .q none (some 31) (.faddr 0 (.t 5)),
  .q none (some 32) (.load 1 false (.t 31)),
  .q none (some 33) (.bin .neq (.t 30) (.t 32)),
  .q none (some 34) (.mv (.t 33)),
  .q (some (34, false)) (some 35) (.mv (.t 4)),
  .q (some (34, false)) (some 36) (.faddr 1 (.t 5)),
  .q (some (34, false)) (some 37) (.load 1 false (.t 36)),
  .q (some (34, false)) (some 38) (.bin .neq (.t 35) (.t 37)),
  .q none (some 39) (.pick (.t 34) (.k (.d (.bool true))) (.t 38)),
  .q none (some 40) (.mv (.t 39)),
  .q (some (40, false)) (some 41) (.mv (.t 6)),
  .q (some (40, false)) (some 42) (.faddr 0 (.t 8)),
  .q (some (40, false)) (some 43) (.load 1 false (.t 42)),
  .q (some (40, false)) (some 44) (.bin .neq (.t 41) (.t 43)),
  .q none (some 45) (.pick (.t 40) (.k (.d (.bool true))) (.t 44)),
  .q none (some 46) (.mv (.t 45)),
  .q (some (46, false)) (some 47) (.mv (.t 7)),
  .q (some (46, false)) (some 48) (.faddr 1 (.t 8)),
  .q (some (46, false)) (some 49) (.load 1 false (.t 48)),
  .q (some (46, false)) (some 50) (.bin .neq (.t 47) (.t 49)),
  .q none (some 51) (.pick (.t 46) (.k (.d (.bool true))) (.t 50))])
 (.kp [0, 51] (.cond (.t 51) (.seq (.ops [.q none (some 2) (.mv (.k (.d (.bool false))))])
 .ret) .skip)))
 (.kp [0] (.seq (.seq (.ops [.q none (some 52) (.mv (.t 0)),
  .q none (some 53) (.len (.t 52)),
  .q none (some 54) (.bin .geq (.t 53) (.k (.d (.int .i64 2))))])
 (.kp [0, 54] (.cond (.t 54) (.seq (.draw (.q 0 (.q none (some 56) (.mv (.t 0))) (.q 1 (.q none (some 57) (.iaddr 4 (.t 56) (.k (.d (.int .i64 0))))) (.q 2 (.q none (some 58) (.load 4 true (.t 57))) (.q 3 (.q none (some 59) (.mv (.t 0))) (.q 4 (.q none (some 60) (.iaddr 4 (.t 59) (.k (.d (.int .i64 1))))) (.q 5 (.q none (some 61) (.load 4 true (.t 60))) (.br (.cons 6 [2, 5] (.call none (some 62) 17 [(.t 58), (.t 61)]) (.q 7 (.q none (some 55) (.mv (.t 62))) (.q 8 (.q none (some 63) (.extract (.t 55) 0)) (.q 9 (.q none (some 64) (.extract (.t 55) 1)) (.q 10 (.q none (some 9) (.mv (.t 63))) (.q 11 (.q none (some 10) (.mv (.t 64))) .done))))) .nil)))))))))
 (.kp [0, 9, 10] (.seq (.draw (.q 0 (.q none (some 65) (.mv (.t 0))) (.q 1 (.q none (some 66) (.iaddr 4 (.t 65) (.k (.d (.int .i64 0))))) (.q 2 (.q none (some 67) (.load 4 true (.t 66))) (.q 3 (.q none (some 68) (.mv (.t 0))) (.q 4 (.q none (some 69) (.iaddr 4 (.t 68) (.k (.d (.int .i64 1))))) (.q 5 (.q none (some 70) (.load 4 true (.t 69))) (.br (.cons 6 [2, 5] (.call none (some 71) 18 [(.t 67), (.t 70)]) (.br (.cons 7 [] (.e none (some 11) (.alloc 51 [(.d (.bool false)), (.d (.int .i64 0))])) (.br (.cons 8 [0, 1, 2, 3, 4, 5, 6, 7] (.e none none (.store 2 (.t 11) (.t 71))) .done .nil)) .nil)) (.cons 7 [] (.e none (some 11) (.alloc 51 [(.d (.bool false)), (.d (.int .i64 0))])) (.br (.cons 6 [2, 5] (.call none (some 71) 18 [(.t 67), (.t 70)]) (.br (.cons 8 [0, 1, 2, 3, 4, 5, 6, 7] (.e none none (.store 2 (.t 11) (.t 71))) .done .nil)) .nil)) .nil))))))))))
 (.kp [9, 10, 11] (.seq (.ops [.q none (some 72) (.mv (.t 9)),
  .q none (some 73) (.faddr 0 (.t 11)),
  .q none (some 74) (.load 1 false (.t 73)),
  .q none (some 75) (.eqb true (.t 72) (.t 74)),
  .q none (some 76) (.mv (.t 75)),
  .q (some (76, false)) (some 77) (.mv (.t 10)),
  .q (some (76, false)) (some 78) (.faddr 1 (.t 11)),
  .q (some (76, false)) (some 79) (.load 1 false (.t 78)),
  .q (some (76, false)) (some 80) (.bin .neq (.t 77) (.t 79)),
  .q none (some 81) (.pick (.t 76) (.k (.d (.bool true))) (.t 80))])
 (.kp [81] (.cond (.t 81) (.seq (.ops [.q none (some 2) (.mv (.k (.d (.bool false))))])
 .ret) .skip))))))) .skip)))
 (.kp [] (.seq (.ops [.call none (some 82) 7 [],
  .q none (some 2) (.mv (.t 82))])
 .ret)))))))))))))))))⟩
theorem c4 : chkF Γz.P Γz.E 4 1 i4 = true := by kernel_rfl
noncomputable def i5 : FI := -- cosigner/cosignerlaw01.LexStrips
 ⟨61, [.t 4],
 (.seq (.ops [.q none (some 4) (.mv (.k (.d (.bool false))))])
 (.kp [0, 1] (.seq (.seq (.ops [.q none (some 11) (.mv (.t 0)),
  .call none (some 12) 6 [(.t 11)],
  .q none (some 13) (.not (.t 12)),
  .q none (some 14) (.mv (.t 13)),
  .q (some (14, false)) (some 15) (.mv (.t 1)),
  .call (some (14, false)) (some 16) 6 [(.t 15)],
  .q (some (14, false)) (some 17) (.not (.t 16)),
  .q none (some 18) (.pick (.t 14) (.k (.d (.bool true))) (.t 17))])
 (.kp [0, 1, 18] (.cond (.t 18) (.seq (.ops [.call none (some 19) 7 [],
  .q none (some 4) (.mv (.t 19))])
 .ret) .skip)))
 (.kp [0, 1] (.seq (.ops [.q none (some 21) (.mv (.t 0)),
  .call none (some 22) 19 [(.t 21)],
  .q none (some 20) (.mv (.t 22)),
  .q none (some 23) (.extract (.t 20) 0),
  .q none (some 24) (.extract (.t 20) 1),
  .q none (some 5) (.mv (.t 23)),
  .q none (some 6) (.mv (.t 24))])
 (.kp [0, 1, 5, 6] (.seq (.ops [.q none (some 25) (.mv (.t 0)),
  .call none (some 26) 20 [(.t 25)],
  .e none (some 7) (.alloc 44 [(.d (.str [])), (.d (.int .i64 0))]),
  .e none none (.store 2 (.t 7) (.t 26))])
 (.kp [0, 1, 5, 6, 7] (.seq (.ops [.q none (some 28) (.mv (.t 0)),
  .q none (some 29) (.mv (.t 1)),
  .call none (some 30) 21 [(.t 28), (.t 29)],
  .q none (some 27) (.mv (.t 30)),
  .q none (some 31) (.extract (.t 27) 0),
  .q none (some 32) (.extract (.t 27) 1),
  .q none (some 8) (.mv (.t 31)),
  .q none (some 9) (.mv (.t 32))])
 (.kp [0, 1, 5, 6, 7, 8, 9] (.seq (.ops [.q none (some 33) (.mv (.t 0)),
  .q none (some 34) (.mv (.t 1)),
  .call none (some 35) 22 [(.t 33), (.t 34)],
  .e none (some 10) (.alloc 51 [(.d (.bool false)), (.d (.int .i64 0))]),
  .e none none (.store 2 (.t 10) (.t 35))])
 (.kp [5, 6, 7, 8, 9, 10] (.seq (.ops [.call none (some 36) 7 [],
  .q none (some 37) (.mv (.t 36)),
  .q (some (37, true)) (some 38) (.mv (.t 5)),
  .q (some (37, true)) (some 39) (.faddr 0 (.t 7)),
  .q (some (37, true)) (some 40) (.load 1 false (.t 39)),
  .q (some (37, true)) (some 41) (.bin .eql (.t 38) (.t 40)),
  .q none (some 42) (.pick (.t 37) (.t 41) (.k (.d (.bool false)))),
  .q none (some 43) (.mv (.t 42)),
  .q (some (43, true)) (some 44) (.mv (.t 6)),
  .q (some (43, true)) (some 45) (.faddr 1 (.t 7)),
  .q (some (43, true)) (some 46) (.load 1 false (.t 45)),
  .q (some (43, true)) (some 47) (.bin .eql (.t 44) (.t 46)),
  .q none (some 48) (.pick (.t 43) (.t 47) (.k (.d (.bool false)))),
  .q none (some 49) (.mv (.t 48)),
  .q (some (49, true)) (some 50) (.mv (.t 8)),
  .q (some (49, true)) (some 51) (.faddr 0 (.t 10)),
  .q (some (49, true)) (some 52) (.load 1 false (.t 51)),
  .q (some (49, true)) (some 53) (.eqb false (.t 50) (.t 52)),
  .q none (some 54) (.pick (.t 49) (.t 53) (.k (.d (.bool false)))),
  .q none (some 55) (.mv (.t 54)),
  .q (some (55, true)) (some 56) (.mv (.t 9)),
  .q (some (55, true)) (some 57) (.faddr 1 (.t 10)),
  .q (some (55, true)) (some 58) (.load 1 false (.t 57)),
  .q (some (55, true)) (some 59) (.bin .eql (.t 56) (.t 58)),
  .q none (some 60) (.pick (.t 55) (.t 59) (.k (.d (.bool false)))),
  .q none (some 4) (.mv (.t 60))])
 .ret)))))))))))))⟩
theorem c5 : chkF Γz.P Γz.E 5 2 i5 = true := by kernel_rfl
noncomputable def i6 : FI := -- cosigner/cosignerlaw01.short
 ⟨16, [.t 2],
 (.seq (.ops [.q none (some 2) (.mv (.k (.d (.bool false))))])
 (.kp [0] (.seq (.ops [.q none (some 3) (.mv (.t 0)),
  .q none (some 4) (.slen (.t 3)),
  .q none (some 5) (.bin .leq (.t 4) (.k (.d (.int .i64 400)))),
  .q none (some 6) (.mv (.t 5)),
  .q (some (6, false)) (some 7) (.mv (.t 0)),
  .q (some (6, false)) (some 8) (.slen (.t 7)),
  .q (some (6, false)) (some 9) (.bin .gtr (.t 8) (.k (.d (.int .i64 20000)))),
  .q (some (6, false)) (some 10) (.mv (.t 9)),
  .q (some (10, true)) (some 11) (.mv (.t 0)),
  .q (some (10, true)) (some 12) (.slen (.t 11)),
  .q (some (10, true)) (some 13) (.bin .leq (.t 12) (.k (.d (.int .i64 20100)))),
  .q (some (6, false)) (some 14) (.pick (.t 10) (.t 13) (.k (.d (.bool false)))),
  .q none (some 15) (.pick (.t 6) (.k (.d (.bool true))) (.t 14)),
  .q none (some 2) (.mv (.t 15))])
 .ret)))⟩
theorem c6 : chkF Γz.P Γz.E 6 1 i6 = true := by kernel_rfl
noncomputable def i7 : FI := -- cosigner/cosignerlaw01.sanity
 ⟨213, [.t 0],
 (.seq (.ops [.q none (some 0) (.mv (.k (.d (.bool false))))])
 (.kp [] (.seq (.ops [.call none (some 32) 23 [(.k (.d (.str [120, 32, 58, 61, 32, 97, 47, 47, 50, 32, 45, 45, 32, 104, 97, 108, 102])))],
  .q none (some 31) (.mv (.t 32)),
  .q none (some 33) (.extract (.t 31) 0),
  .q none (some 34) (.extract (.t 31) 1),
  .q none (some 35) (.extract (.t 31) 2),
  .e none (some 2) (.alloc 28 [(.d (.int .i64 0)), (.d (.int .i64 0))]),
  .q none (some 1) (.mv (.t 33)),
  .e none none (.store 2 (.t 2) (.t 34)),
  .q none (some 3) (.mv (.t 35))])
 (.kp [1, 3] (.seq (.ops [.call none (some 37) 23 [(.k (.d (.str [65, 46, 98, 10, 32, 48, 49])))],
  .q none (some 36) (.mv (.t 37)),
  .q none (some 38) (.extract (.t 36) 0),
  .q none (some 39) (.extract (.t 36) 1),
  .q none (some 40) (.extract (.t 36) 2),
  .e none (some 5) (.alloc 28 [(.d (.int .i64 0)), (.d (.int .i64 0))]),
  .q none (some 4) (.mv (.t 38)),
  .e none none (.store 2 (.t 5) (.t 39)),
  .q none (some 6) (.mv (.t 40))])
 (.kp [1, 3, 5, 6] (.seq (.ops [.call none (some 42) 23 [(.k (.d (.str [114, 101, 115, 117, 108, 116])))],
  .q none (some 41) (.mv (.t 42)),
  .q none (some 43) (.extract (.t 41) 0),
  .q none (some 44) (.extract (.t 41) 1),
  .q none (some 45) (.extract (.t 41) 2),
  .e none (some 8) (.alloc 28 [(.d (.int .i64 0)), (.d (.int .i64 0))]),
  .q none (some 7) (.mv (.t 43)),
  .e none none (.store 2 (.t 8) (.t 44)),
  .q none (some 9) (.mv (.t 45))])
 (.kp [1, 3, 5, 6, 9] (.seq (.ops [.call none (some 47) 23 [(.k (.d (.str [82, 101, 115, 117, 108, 116, 115])))],
  .q none (some 46) (.mv (.t 47)),
  .q none (some 48) (.extract (.t 46) 0),
  .q none (some 49) (.extract (.t 46) 1),
  .q none (some 50) (.extract (.t 46) 2),
  .e none (some 11) (.alloc 28 [(.d (.int .i64 0)), (.d (.int .i64 0))]),
  .q none (some 10) (.mv (.t 48)),
  .e none none (.store 2 (.t 11) (.t 49)),
  .q none (some 12) (.mv (.t 50))])
 (.kp [1, 3, 5, 6, 9, 12] (.seq (.ops [.q none (some 52) (.build [(.int .i64 0), (.str []), (.int .i64 0), (.int .i64 0)] [(0, 1, (.k (.d (.int .i64 3)))), (1, 1, (.k (.d (.str [105, 102]))))]),
  .q none (some 53) (.build [(.int .i64 0), (.str []), (.int .i64 0), (.int .i64 0)] [(0, 1, (.k (.d (.int .i64 1)))), (1, 1, (.k (.d (.str [97]))))]),
  .q none (some 54) (.build [(.int .i64 0), (.str []), (.int .i64 0), (.int .i64 0)] [(0, 1, (.k (.d (.int .i64 5)))), (1, 1, (.k (.d (.str [60]))))]),
  .q none (some 55) (.build [(.int .i64 0), (.str []), (.int .i64 0), (.int .i64 0)] [(0, 1, (.k (.d (.int .i64 5)))), (1, 1, (.k (.d (.str [61]))))]),
  .q none (some 56) (.build [(.int .i64 0), (.str []), (.int .i64 0), (.int .i64 0)] [(0, 1, (.k (.d (.int .i64 3)))), (1, 1, (.k (.d (.str [116, 104, 101, 110]))))]),
  .e none (some 57) (.bslice 4 [(.t 52), (.t 53), (.t 54), (.t 55), (.t 56)]),
  .call none (some 58) 15 [(.t 57)],
  .q none (some 51) (.mv (.t 58)),
  .q none (some 59) (.extract (.t 51) 0),
  .q none (some 60) (.extract (.t 51) 1),
  .q none (some 13) (.mv (.t 59)),
  .q none (some 14) (.mv (.t 60))])
 (.kp [1, 3, 5, 6, 9, 12, 13, 14] (.seq (.ops [.call none (some 62) 25 [(.k (.d (.int .i64 2))), (.k (.d (.int .i64 3)))],
  .call none (some 63) 24 [(.k (.d (.str [97, 98, 10, 99, 100]))), (.t 62)],
  .q none (some 61) (.mv (.t 63)),
  .q none (some 64) (.extract (.t 61) 0),
  .q none (some 65) (.extract (.t 61) 1),
  .q none (some 15) (.mv (.t 64)),
  .q none (some 16) (.mv (.t 65))])
 (.kp [1, 3, 5, 6, 9, 12, 13, 14, 15, 16] (.seq (.ops [.call none (some 67) 25 [(.k (.d (.int .i64 2))), (.k (.d (.int .i64 4)))],
  .call none (some 68) 24 [(.k (.d (.str [97, 98, 10, 99, 100]))), (.t 67)],
  .q none (some 66) (.mv (.t 68)),
  .q none (some 69) (.extract (.t 66) 0),
  .q none (some 70) (.extract (.t 66) 1),
  .q none (some 17) (.mv (.t 69)),
  .q none (some 18) (.mv (.t 70))])
 (.kp [1, 3, 5, 6, 9, 12, 13, 14, 15, 16, 18] (.seq (.ops [.call none (some 72) 23 [(.k (.d (.str [97, 10, 98, 32, 99, 10, 100])))],
  .q none (some 71) (.mv (.t 72)),
  .q none (some 73) (.extract (.t 71) 0),
  .q none (some 74) (.extract (.t 71) 1),
  .q none (some 75) (.extract (.t 71) 2),
  .e none (some 20) (.alloc 28 [(.d (.int .i64 0)), (.d (.int .i64 0))]),
  .q none (some 19) (.mv (.t 73)),
  .e none none (.store 2 (.t 20) (.t 74)),
  .q none (some 21) (.mv (.t 75))])
 (.kp [1, 3, 5, 6, 9, 12, 13, 14, 15, 16, 18, 19, 21] (.seq (.ops [.q none (some 77) (.mv (.t 19)),
  .q none (some 78) (.build [(.int .i64 0), (.int .i64 0), (.str [])] [(0, 1, (.k (.d (.int .i64 2)))), (1, 1, (.k (.d (.int .i64 3)))), (2, 1, (.k (.d (.str [120, 10, 121]))))]),
  .call none (some 79) 8 [(.t 77), (.k (.d (.str [97, 10, 98, 32, 99, 10, 100]))), (.t 78)],
  .q none (some 76) (.mv (.t 79)),
  .q none (some 80) (.extract (.t 76) 0),
  .q none (some 81) (.extract (.t 76) 1),
  .q none (some 82) (.extract (.t 76) 2),
  .q none (some 83) (.extract (.t 76) 3),
  .e none (some 24) (.alloc 28 [(.d (.int .i64 0)), (.d (.int .i64 0))]),
  .q none (some 22) (.mv (.t 80)),
  .q none (some 23) (.mv (.t 81)),
  .e none none (.store 2 (.t 24) (.t 82)),
  .q none (some 25) (.mv (.t 83))])
 (.kp [1, 3, 5, 6, 9, 12, 13, 14, 15, 16, 18, 21, 22, 23, 25] (.seq (.ops [.e none (some 85) (.bslice 1 [(.k (.d (.str [97]))), (.k (.d (.str [98, 10])))]),
  .call none (some 86) 26 [(.t 85)],
  .q none (some 84) (.mv (.t 86)),
  .q none (some 87) (.extract (.t 84) 0),
  .q none (some 88) (.extract (.t 84) 1),
  .q none (some 89) (.extract (.t 84) 2),
  .q none (some 26) (.mv (.t 87)),
  .q none (some 27) (.mv (.t 88)),
  .q none (some 28) (.mv (.t 89))])
 (.kp [1, 3, 5, 6, 9, 12, 13, 14, 15, 16, 18, 21, 22, 23, 25, 26, 27, 28] (.seq (.seq (.ops [.q none (some 90) (.mv (.t 3)),
  .q none (some 91) (.bin .neq (.t 90) (.k (.d (.int .i64 0)))),
  .q none (some 92) (.mv (.t 91)),
  .q (some (92, false)) (some 93) (.mv (.t 6)),
  .q (some (92, false)) (some 94) (.bin .neq (.t 93) (.k (.d (.int .i64 2)))),
  .q none (some 95) (.pick (.t 92) (.k (.d (.bool true))) (.t 94)),
  .q none (some 96) (.mv (.t 95)),
  .q (some (96, false)) (some 97) (.mv (.t 9)),
  .q (some (96, false)) (some 98) (.bin .neq (.t 97) (.k (.d (.int .i64 4)))),
  .q none (some 99) (.pick (.t 96) (.k (.d (.bool true))) (.t 98)),
  .q none (some 100) (.mv (.t 99)),
  .q (some (100, false)) (some 101) (.mv (.t 12)),
  .q (some (100, false)) (some 102) (.bin .neq (.t 101) (.k (.d (.int .i64 2)))),
  .q none (some 103) (.pick (.t 100) (.k (.d (.bool true))) (.t 102)),
  .q none (some 104) (.mv (.t 103)),
  .q (some (104, false)) (some 105) (.mv (.t 14)),
  .q (some (104, false)) (some 106) (.bin .neq (.t 105) (.k (.d (.int .i64 0)))),
  .q none (some 107) (.pick (.t 104) (.k (.d (.bool true))) (.t 106)),
  .q none (some 108) (.mv (.t 107)),
  .q (some (108, false)) (some 109) (.mv (.t 16)),
  .q (some (108, false)) (some 110) (.bin .neq (.t 109) (.k (.d (.int .i64 0)))),
  .q none (some 111) (.pick (.t 108) (.k (.d (.bool true))) (.t 110)),
  .q none (some 112) (.mv (.t 111)),
  .q (some (112, false)) (some 113) (.mv (.t 18)),
  .q (some (112, false)) (some 114) (.bin .neq (.t 113) (.k (.d (.int .i64 1)))),
  .q none (some 115) (.pick (.t 112) (.k (.d (.bool true))) (.t 114)),
  .q none (some 116) (.mv (.t 115)),
  .q (some (116, false)) (some 117) (.mv (.t 21)),
  .q (some (116, false)) (some 118) (.bin .neq (.t 117) (.k (.d (.int .i64 0)))),
  .q none (some 119) (.pick (.t 116) (.k (.d (.bool true))) (.t 118)),
  .q none (some 120) (.mv (.t 119)),
  .q (some (120, false)) (some 121) (.mv (.t 25)),
  .q (some (120, false)) (some 122) (.bin .neq (.t 121) (.k (.d (.int .i64 0)))),
  .q none (some 123) (.pick (.t 120) (.k (.d (.bool true))) (.t 122)),
  .q none (some 124) (.mv (.t 123)),
  .q (some (124, false)) (some 125) (.mv (.t 28)),
  .q (some (124, false)) (some 126) (.bin .neq (.t 125) (.k (.d (.int .i64 0)))),
  .q none (some 127) (.pick (.t 124) (.k (.d (.bool true))) (.t 126)),
  .q none (some 128) (.mv (.t 127)),
  .q (some (128, false)) (some 129) (.mv (.t 1)),
  .q (some (128, false)) (some 130) (.len (.t 129)),
  .q (some (128, false)) (some 131) (.bin .neq (.t 130) (.k (.d (.int .i64 5)))),
  .q none (some 132) (.pick (.t 128) (.k (.d (.bool true))) (.t 131)),
  .q none (some 133) (.mv (.t 132)),
  .q (some (133, false)) (some 134) (.mv (.t 22)),
  .q (some (133, false)) (some 135) (.len (.t 134)),
  .q (some (133, false)) (some 136) (.bin .neq (.t 135) (.k (.d (.int .i64 5)))),
  .q none (some 137) (.pick (.t 133) (.k (.d (.bool true))) (.t 136)),
  .q none (some 138) (.mv (.t 137)),
  .q (some (138, false)) (some 139) (.mv (.t 27)),
  .q (some (138, false)) (some 140) (.len (.t 139)),
  .q (some (138, false)) (some 141) (.bin .neq (.t 140) (.k (.d (.int .i64 2)))),
  .q none (some 142) (.pick (.t 138) (.k (.d (.bool true))) (.t 141))])
 (.kp [1, 5, 13, 15, 22, 23, 26, 27, 142] (.cond (.t 142) (.seq (.ops [.q none (some 0) (.mv (.k (.d (.bool false))))])
 .ret) .skip)))
 (.kp [1, 5, 13, 15, 22, 23, 26, 27] (.seq (.draw (.q 0 (.q none (some 143) (.mv (.t 1))) (.q 1 (.q none (some 144) (.iaddr 4 (.t 143) (.k (.d (.int .i64 1))))) (.q 2 (.q none (some 145) (.load 4 true (.t 144))) (.br (.cons 3 [] (.call none (some 146) 25 [(.k (.d (.int .i64 1))), (.k (.d (.int .i64 3)))]) (.q 4 (.q none (some 147) (.build [(.int .i64 0), (.str []), (.int .i64 0), (.int .i64 0)] [(0, 1, (.k (.d (.int .i64 5)))), (1, 1, (.k (.d (.str [58, 61])))), (2, 2, (.t 146))])) (.q 5 (.q none (some 148) (.eqs false [.int .i64, .str, .int .i64, .int .i64] (.t 145) (.t 147))) (.q 6 (.q none (some 149) (.mv (.t 148))) (.q 7 (.q (some (149, true)) (some 150) (.mv (.t 1))) (.q 8 (.q (some (149, true)) (some 151) (.iaddr 4 (.t 150) (.k (.d (.int .i64 4))))) (.q 9 (.q (some (149, true)) (some 152) (.load 4 true (.t 151))) (.br (.cons 10 [6] (.call (some (149, true)) (some 153) 25 [(.k (.d (.int .i64 1))), (.k (.d (.int .i64 9)))]) (.q 11 (.q (some (149, true)) (some 154) (.build [(.int .i64 0), (.str []), (.int .i64 0), (.int .i64 0)] [(0, 1, (.k (.d (.int .i64 4)))), (1, 1, (.k (.d (.str [50])))), (2, 2, (.t 153))])) (.q 12 (.q (some (149, true)) (some 155) (.eqs false [.int .i64, .str, .int .i64, .int .i64] (.t 152) (.t 154))) (.q 13 (.q none (some 156) (.pick (.t 149) (.t 155) (.k (.d (.bool false))))) (.q 14 (.q none (some 157) (.mv (.t 156))) (.q 15 (.q (some (157, true)) (some 158) (.load 2 true (.t 5))) (.br (.cons 16 [14] (.call (some (157, true)) (some 159) 25 [(.k (.d (.int .i64 2))), (.k (.d (.int .i64 2)))]) (.q 17 (.q (some (157, true)) (some 160) (.eqs false [.int .i64, .int .i64] (.t 158) (.t 159))) (.q 18 (.q none (some 161) (.pick (.t 157) (.t 160) (.k (.d (.bool false))))) (.q 19 (.q none (some 162) (.mv (.t 161))) (.q 20 (.q (some (162, true)) (some 163) (.mv (.t 13))) (.q 21 (.q (some (162, true)) (some 164) (.bin .eql (.t 163) (.k (.d (.str [105, 102, 32, 97, 60, 32, 61, 116, 104, 101, 110]))))) (.q 22 (.q none (some 165) (.pick (.t 162) (.t 164) (.k (.d (.bool false))))) (.q 23 (.q none (some 166) (.mv (.t 165))) (.q 24 (.q (some (166, true)) (some 167) (.mv (.t 15))) (.q 25 (.q (some (166, true)) (some 168) (.bin .eql (.t 167) (.k (.d (.int .i64 5))))) (.q 26 (.q none (some 169) (.pick (.t 166) (.t 168) (.k (.d (.bool false))))) (.q 27 (.q none (some 29) (.mv (.t 169))) .done))))))))))) .nil))))))) .nil)))))))) .nil))))))
 (.kp [22, 23, 26, 27, 29] (.seq (.draw (.q 0 (.q none (some 170) (.mv (.t 22))) (.q 1 (.q none (some 171) (.iaddr 4 (.t 170) (.k (.d (.int .i64 2))))) (.q 2 (.q none (some 172) (.load 4 true (.t 171))) (.br (.cons 3 [] (.call none (some 173) 25 [(.k (.d (.int .i64 3))), (.k (.d (.int .i64 1)))]) (.q 4 (.q none (some 174) (.build [(.int .i64 0), (.str []), (.int .i64 0), (.int .i64 0)] [(0, 1, (.k (.d (.int .i64 1)))), (1, 1, (.k (.d (.str [121])))), (2, 2, (.t 173))])) (.q 5 (.q none (some 175) (.eqs false [.int .i64, .str, .int .i64, .int .i64] (.t 172) (.t 174))) (.q 6 (.q none (some 176) (.mv (.t 175))) (.q 7 (.q (some (176, true)) (some 177) (.mv (.t 22))) (.q 8 (.q (some (176, true)) (some 178) (.iaddr 4 (.t 177) (.k (.d (.int .i64 4))))) (.q 9 (.q (some (176, true)) (some 179) (.faddr 2 (.t 178))) (.q 10 (.q (some (176, true)) (some 180) (.load 2 true (.t 179))) (.br (.cons 11 [6] (.call (some (176, true)) (some 181) 25 [(.k (.d (.int .i64 4))), (.k (.d (.int .i64 1)))]) (.q 12 (.q (some (176, true)) (some 182) (.eqs false [.int .i64, .int .i64] (.t 180) (.t 181))) (.q 13 (.q none (some 183) (.pick (.t 176) (.t 182) (.k (.d (.bool false))))) (.q 14 (.q none (some 184) (.mv (.t 183))) (.q 15 (.q (some (184, true)) (some 185) (.mv (.t 23))) (.q 16 (.q (some (184, true)) (some 186) (.bin .eql (.t 185) (.k (.d (.int .i64 3))))) (.q 17 (.q none (some 187) (.pick (.t 184) (.t 186) (.k (.d (.bool false))))) (.q 18 (.q none (some 188) (.mv (.t 187))) (.q 19 (.q (some (188, true)) (some 189) (.mv (.t 26))) (.q 20 (.q (some (188, true)) (some 190) (.bin .eql (.t 189) (.k (.d (.str [97, 10, 98, 10, 10]))))) (.q 21 (.q none (some 191) (.pick (.t 188) (.t 190) (.k (.d (.bool false))))) (.q 22 (.q none (some 192) (.mv (.t 191))) (.q 23 (.q (some (192, true)) (some 193) (.mv (.t 27))) (.q 24 (.q (some (192, true)) (some 194) (.iaddr 1 (.t 193) (.k (.d (.int .i64 0))))) (.q 25 (.q (some (192, true)) (some 195) (.load 1 false (.t 194))) (.q 26 (.q (some (192, true)) (some 196) (.bin .eql (.t 195) (.k (.d (.int .i64 1))))) (.q 27 (.q none (some 197) (.pick (.t 192) (.t 196) (.k (.d (.bool false))))) (.q 28 (.q none (some 198) (.mv (.t 197))) (.q 29 (.q (some (198, true)) (some 199) (.mv (.t 27))) (.q 30 (.q (some (198, true)) (some 200) (.iaddr 1 (.t 199) (.k (.d (.int .i64 1))))) (.q 31 (.q (some (198, true)) (some 201) (.load 1 false (.t 200))) (.q 32 (.q (some (198, true)) (some 202) (.bin .eql (.t 201) (.k (.d (.int .i64 2))))) (.q 33 (.q none (some 203) (.pick (.t 198) (.t 202) (.k (.d (.bool false))))) (.q 34 (.q none (some 30) (.mv (.t 203))) .done))))))))))))))))))))))) .nil))))))))) .nil))))))
 (.kp [29, 30] (.seq (.ops [.q none (some 204) (.mv (.t 29)),
  .q none (some 205) (.mv (.t 204)),
  .q (some (205, true)) (some 206) (.mv (.t 30)),
  .q none (some 207) (.pick (.t 205) (.t 206) (.k (.d (.bool false)))),
  .q none (some 208) (.mv (.t 207)),
  .call (some (208, true)) (some 209) 27 [],
  .q (some (208, true)) (some 210) (.len (.t 209)),
  .q (some (208, true)) (some 211) (.bin .eql (.t 210) (.k (.d (.int .i64 37)))),
  .q none (some 212) (.pick (.t 208) (.t 211) (.k (.d (.bool false)))),
  .q none (some 0) (.mv (.t 212))])
 .ret)))))))))))))))))))))))))))))⟩
theorem c7 : chkF Γz.P Γz.E 7 0 i7 = true := by kernel_rfl
noncomputable def i8 : FI := -- cosigner/lex.Patch
 ⟨181, [.t 6, .t 7, .c 8 2 true, .t 9],
 (.seq (.ops [.e none (some 5) (.box 24 (.t 2)),
  .q none (some 6) (.mv (.k .snil)),
  .q none (some 7) (.mv (.k (.d (.int .i64 0)))),
  .e none (some 8) (.alloc 28 [(.d (.int .i64 0)), (.d (.int .i64 0))]),
  .q none (some 9) (.mv (.k (.d (.int .i64 0))))])
 (.kp [0, 1, 5, 8] (.seq (.ops [.q none (some 30) (.mv (.t 1)),
  .q none (some 31) (.load 3 true (.t 5)),
  .call none (some 32) 28 [(.t 30), (.t 31)],
  .q none (some 29) (.mv (.t 32)),
  .q none (some 33) (.extract (.t 29) 0),
  .q none (some 34) (.extract (.t 29) 1),
  .q none (some 10) (.mv (.t 33)),
  .q none (some 11) (.mv (.t 34))])
 (.kp [0, 1, 5, 8, 10, 11] (.seq (.seq (.ops [.q none (some 35) (.mv (.t 11)),
  .q none (some 36) (.bin .neq (.t 35) (.k (.d (.int .i64 0))))])
 (.kp [0, 1, 5, 8, 10, 11, 36] (.cond (.t 36) (.seq (.ops [.q none (some 37) (.build [(.int .i64 0), (.int .i64 0)] []),
  .q none (some 38) (.mv (.t 11)),
  .q none (some 6) (.mv (.k .snil)),
  .q none (some 7) (.mv (.k (.d (.int .i64 0)))),
  .e none none (.store 2 (.t 8) (.t 37)),
  .q none (some 9) (.mv (.t 38))])
 .ret) .skip)))
 (.kp [0, 1, 5, 8, 10] (.seq (.seq (.ops [.q none (some 39) (.mv (.t 0)),
  .q none (some 40) (.len (.t 39)),
  .q none (some 41) (.mv (.k (.d (.int .i64 0))))])
 (.kp [0, 1, 5, 8, 10, 39, 40, 41] (.block 0 (.loop [0, 1, 5, 8, 10, 39, 40, 41] (.seq (.ops [.q none (some 42) (.bin .lss (.t 41) (.t 40))])
 (.kp [0, 1, 5, 8, 10, 39, 40, 41, 42] (.seq (.cond (.t 42) .skip (.exit 0))
 (.kp [0, 1, 5, 8, 10, 39, 40, 41] (.seq (.block 1 (.seq (.ops [.q none (some 43) (.mv (.t 41)),
  .q none (some 44) (.iaddr 4 (.t 39) (.t 41)),
  .q none (some 45) (.load 4 true (.t 44)),
  .e none (some 13) (.alloc 49 [(.d (.int .i64 0)), (.d (.str [])), (.d (.int .i64 0)), (.d (.int .i64 0))]),
  .q none (some 12) (.mv (.t 43)),
  .e none none (.store 4 (.t 13) (.t 45))])
 (.kp [0, 1, 5, 8, 10, 12, 13, 39, 40, 41] (.seq (.ops [.q none (some 47) (.mv (.t 1)),
  .q none (some 48) (.faddr 2 (.t 13)),
  .q none (some 49) (.load 2 true (.t 48)),
  .call none (some 50) 24 [(.t 47), (.t 49)],
  .q none (some 46) (.mv (.t 50)),
  .q none (some 51) (.extract (.t 46) 0),
  .q none (some 52) (.extract (.t 46) 1),
  .q none (some 14) (.mv (.t 51)),
  .q none (some 15) (.mv (.t 52))])
 (.kp [0, 1, 5, 8, 10, 12, 13, 15, 39, 40, 41] (.seq (.draw (.q 0 (.q none (some 53) (.mv (.t 15))) (.q 1 (.q none (some 54) (.bin .neq (.t 53) (.k (.d (.int .i64 0))))) (.q 2 (.q none (some 55) (.mv (.t 54))) (.q 3 (.q (some (55, false)) (some 56) (.mv (.t 12))) (.q 4 (.q (some (55, false)) (some 57) (.bin .gtr (.t 56) (.k (.d (.int .i64 0))))) (.q 5 (.q (some (55, false)) (some 58) (.mv (.t 57))) (.q 6 (.q (some (58, true)) (some 59) (.mv (.t 0))) (.q 7 (.q (some (58, true)) (some 60) (.mv (.t 12))) (.q 8 (.q (some (58, true)) (some 61) (.bin .sub (.t 60) (.k (.d (.int .i64 1))))) (.q 9 (.q (some (58, true)) (some 62) (.iaddr 4 (.t 59) (.t 61))) (.q 10 (.q (some (58, true)) (some 63) (.faddr 2 (.t 62))) (.q 11 (.q (some (58, true)) (some 64) (.load 2 true (.t 63))) (.q 12 (.q (some (58, true)) (some 65) (.faddr 2 (.t 13))) (.q 13 (.q (some (58, true)) (some 66) (.load 2 true (.t 65))) (.q 14 (.q (some (58, true)) (some 67) (.eqs false [.int .i64, .int .i64] (.t 64) (.t 66))) (.q 15 (.q (some (58, true)) (some 68) (.mv (.t 67))) (.q 16 (.q (some (68, false)) (some 69) (.mv (.t 0))) (.q 17 (.q (some (68, false)) (some 70) (.mv (.t 12))) (.q 18 (.q (some (68, false)) (some 71) (.bin .sub (.t 70) (.k (.d (.int .i64 1))))) (.q 19 (.q (some (68, false)) (some 72) (.iaddr 4 (.t 69) (.t 71))) (.q 20 (.q (some (68, false)) (some 73) (.faddr 2 (.t 72))) (.q 21 (.q (some (68, false)) (some 74) (.load 2 true (.t 73))) (.q 22 (.q (some (68, false)) (some 75) (.faddr 2 (.t 13))) (.q 23 (.q (some (68, false)) (some 76) (.load 2 true (.t 75))) (.br (.cons 24 [15, 21, 23] (.call (some (68, false)) (some 77) 29 [(.t 74), (.t 76)]) (.q 25 (.q (some (68, false)) (some 78) (.bin .gtr (.t 77) (.k (.d (.int .i64 0))))) (.q 26 (.q (some (58, true)) (some 79) (.pick (.t 68) (.k (.d (.bool true))) (.t 78))) (.q 27 (.q (some (55, false)) (some 80) (.pick (.t 58) (.t 79) (.k (.d (.bool false))))) (.q 28 (.q none (some 81) (.pick (.t 55) (.k (.d (.bool true))) (.t 80))) .done)))) .nil)))))))))))))))))))))))))))
 (.kp [0, 1, 5, 8, 10, 39, 40, 41, 81] (.cond (.t 81) (.seq (.ops [.q none (some 82) (.build [(.int .i64 0), (.int .i64 0)] []),
  .q none (some 6) (.mv (.k .snil)),
  .q none (some 7) (.mv (.k (.d (.int .i64 0)))),
  .e none none (.store 2 (.t 8) (.t 82)),
  .q none (some 9) (.mv (.k (.d (.int .i64 1))))])
 .ret) .skip))))))))
 (.kp [0, 1, 5, 8, 10, 39, 40, 41] (.ops [.q none (some 83) (.bin .add (.t 41) (.k (.d (.int .i64 1)))),
  .q none (some 41) (.mv (.t 83))])))))))))))
 (.kp [0, 1, 5, 8, 10] (.seq (.ops [.q none (some 85) (.mv (.t 1)),
  .q none (some 86) (.faddr 0 (.t 5)),
  .q none (some 87) (.load 1 false (.t 86)),
  .call none (some 88) 30 [(.t 85), (.t 87)],
  .q none (some 84) (.mv (.t 88)),
  .q none (some 89) (.extract (.t 84) 0),
  .q none (some 90) (.extract (.t 84) 1),
  .e none (some 16) (.alloc 28 [(.d (.int .i64 0)), (.d (.int .i64 0))]),
  .e none none (.store 2 (.t 16) (.t 89)),
  .q none (some 17) (.mv (.t 90))])
 (.kp [0, 1, 5, 8, 10, 16] (.seq (.ops [.q none (some 92) (.mv (.t 1)),
  .q none (some 93) (.faddr 1 (.t 5)),
  .q none (some 94) (.load 1 false (.t 93)),
  .call none (some 95) 30 [(.t 92), (.t 94)],
  .q none (some 91) (.mv (.t 95)),
  .q none (some 96) (.extract (.t 91) 0),
  .q none (some 97) (.extract (.t 91) 1),
  .e none (some 18) (.alloc 28 [(.d (.int .i64 0)), (.d (.int .i64 0))]),
  .e none none (.store 2 (.t 18) (.t 96)),
  .q none (some 19) (.mv (.t 97))])
 (.kp [0, 5, 8, 10, 16, 18] (.seq (.ops [.q none (some 99) (.mv (.t 10)),
  .q none (some 100) (.faddr 0 (.t 5)),
  .q none (some 101) (.load 1 false (.t 100)),
  .q none (some 102) (.faddr 2 (.t 5)),
  .q none (some 103) (.load 1 false (.t 102)),
  .q none (some 104) (.slen (.t 103)),
  .q none (some 105) (.bin .add (.t 101) (.t 104)),
  .call none (some 106) 30 [(.t 99), (.t 105)],
  .q none (some 98) (.mv (.t 106)),
  .q none (some 107) (.extract (.t 98) 0),
  .q none (some 108) (.extract (.t 98) 1),
  .e none (some 20) (.alloc 28 [(.d (.int .i64 0)), (.d (.int .i64 0))]),
  .e none none (.store 2 (.t 20) (.t 107)),
  .q none (some 21) (.mv (.t 108))])
 (.kp [0, 8, 10, 16, 18, 20] (.seq (.draw (.q 0 (.q none (some 110) (.mv (.t 10))) (.q 2 (.q none (some 112) (.faddr 0 (.t 16))) (.q 3 (.q none (some 113) (.load 1 false (.t 112))) (.q 4 (.q none (some 114) (.bin .sub (.t 113) (.k (.d (.int .i64 1))))) (.q 5 (.q none (some 115) (.faddr 0 (.t 20))) (.q 6 (.q none (some 116) (.load 1 false (.t 115))) (.q 8 (.q none (some 118) (.faddr 0 (.t 16))) (.q 9 (.q none (some 119) (.load 1 false (.t 118))) (.br (.cons 1 [0] (.call none (some 111) 32 [(.t 110), (.k (.d (.str [10])))]) (.q 7 (.q none (some 117) (.lslice 1 (.t 111) (some (.t 114)) (some (.t 116)))) (.br (.cons 10 [1, 7, 9] (.call none (some 120) 31 [(.t 117), (.t 119), (.f 33)]) (.q 11 (.q none (some 109) (.mv (.t 120))) (.q 12 (.q none (some 121) (.extract (.t 109) 0)) (.q 13 (.q none (some 122) (.extract (.t 109) 1)) (.q 14 (.q none (some 123) (.extract (.t 109) 2)) (.br (.cons 15 [] (.e none (some 23) (.alloc 28 [(.d (.int .i64 0)), (.d (.int .i64 0))])) (.q 16 (.q none (some 22) (.mv (.t 121))) (.br (.cons 17 [0, 1, 2, 3, 4, 5, 6, 7, 8, 9, 10, 11, 12, 13, 15, 16] (.e none none (.store 2 (.t 23) (.t 122))) (.q 18 (.q none (some 11) (.mv (.t 123))) .done) .nil))) .nil)))))) (.cons 15 [] (.e none (some 23) (.alloc 28 [(.d (.int .i64 0)), (.d (.int .i64 0))])) (.br (.cons 10 [1, 7, 9] (.call none (some 120) 31 [(.t 117), (.t 119), (.f 33)]) (.q 11 (.q none (some 109) (.mv (.t 120))) (.q 12 (.q none (some 121) (.extract (.t 109) 0)) (.q 13 (.q none (some 122) (.extract (.t 109) 1)) (.q 14 (.q none (some 123) (.extract (.t 109) 2)) (.q 16 (.q none (some 22) (.mv (.t 121))) (.br (.cons 17 [0, 1, 2, 3, 4, 5, 6, 7, 8, 9, 10, 11, 12, 13, 15, 16] (.e none none (.store 2 (.t 23) (.t 122))) (.q 18 (.q none (some 11) (.mv (.t 123))) .done) .nil))))))) .nil)) .nil)))) (.cons 15 [] (.e none (some 23) (.alloc 28 [(.d (.int .i64 0)), (.d (.int .i64 0))])) (.br (.cons 1 [0] (.call none (some 111) 32 [(.t 110), (.k (.d (.str [10])))]) (.q 7 (.q none (some 117) (.lslice 1 (.t 111) (some (.t 114)) (some (.t 116)))) (.br (.cons 10 [1, 7, 9] (.call none (some 120) 31 [(.t 117), (.t 119), (.f 33)]) (.q 11 (.q none (some 109) (.mv (.t 120))) (.q 12 (.q none (some 121) (.extract (.t 109) 0)) (.q 13 (.q none (some 122) (.extract (.t 109) 1)) (.q 14 (.q none (some 123) (.extract (.t 109) 2)) (.q 16 (.q none (some 22) (.mv (.t 121))) (.br (.cons 17 [0, 1, 2, 3, 4, 5, 6, 7, 8, 9, 10, 11, 12, 13, 15, 16] (.e none none (.store 2 (.t 23) (.t 122))) (.q 18 (.q none (some 11) (.mv (.t 123))) .done) .nil))))))) .nil))) .nil)) .nil))))))))))))
 (.kp [0, 8, 11, 16, 18, 20, 22, 23] (.seq (.seq (.ops [.q none (some 124) (.mv (.t 11)),
  .q none (some 125) (.bin .neq (.t 124) (.k (.d (.int .i64 0))))])
 (.kp [0, 8, 11, 16, 18, 20, 22, 23, 125] (.cond (.t 125) (.seq (.draw (.q 0 (.q none (some 126) (.load 2 true (.t 23))) (.q 1 (.q none (some 127) (.mv (.t 11))) (.q 2 (.q none (some 6) (.mv (.k .snil))) (.q 3 (.q none (some 7) (.mv (.k (.d (.int .i64 0))))) (.br (.cons 4 [0, 2, 3] (.e none none (.store 2 (.t 8) (.t 126))) (.q 5 (.q none (some 9) (.mv (.t 127))) .done) .nil)))))))
 .ret) .skip)))
 (.kp [0, 8, 16, 18, 20, 22] (.seq (.ops [.q none (some 24) (.mv (.k .snil)),
  .own 24 (49, 4),
  .q none (some 25) (.mv (.k .snil)),
  .own 25 (49, 4)])
 (.kp [0, 8, 16, 18, 20, 22, 24, 25] (.seq (.seq (.ops [.q none (some 128) (.mv (.t 0)),
  .q none (some 129) (.len (.t 128)),
  .q none (some 130) (.mv (.k (.d (.int .i64 0))))])
 (.kp [8, 16, 18, 20, 22, 24, 25, 128, 129, 130] (.block 2 (.loop [8, 16, 18, 20, 22, 24, 25, 128, 129, 130] (.seq (.ops [.q none (some 131) (.bin .lss (.t 130) (.t 129))])
 (.kp [8, 16, 18, 20, 22, 24, 25, 128, 129, 130, 131] (.seq (.cond (.t 131) .skip (.exit 2))
 (.kp [8, 16, 18, 20, 22, 24, 25, 128, 129, 130] (.seq (.block 3 (.seq (.ops [.q none (some 132) (.iaddr 4 (.t 128) (.t 130)),
  .q none (some 133) (.load 4 true (.t 132)),
  .e none (some 27) (.alloc 49 [(.d (.int .i64 0)), (.d (.str [])), (.d (.int .i64 0)), (.d (.int .i64 0))]),
  .e none none (.store 4 (.t 27) (.t 133))])
 (.kp [8, 16, 18, 20, 22, 24, 25, 27, 128, 129, 130] (.block 4 (.seq (.ops [.q none (some 135) (.faddr 2 (.t 27)),
  .q none (some 136) (.faddr 0 (.t 135)),
  .q none (some 137) (.load 1 false (.t 136)),
  .q none (some 138) (.faddr 0 (.t 16)),
  .q none (some 139) (.load 1 false (.t 138)),
  .q none (some 140) (.bin .lss (.t 137) (.t 139)),
  .q none (some 134) (.mv (.t 140))])
 (.kp [8, 16, 18, 20, 22, 24, 25, 27, 128, 129, 130, 134] (.cond (.t 134) (.ops [.q none (some 141) (.mv (.t 24)),
  .q none (some 142) (.load 4 true (.t 27)),
  .e none (some 143) (.bslice 4 [(.t 142)]),
  .e none (some 144) (.append 49 4 false (.t 141) (.t 143)),
  .q none (some 24) (.mv (.t 144))]) (.seq (.ops [.q none (some 146) (.faddr 2 (.t 27)),
  .q none (some 147) (.faddr 0 (.t 146)),
  .q none (some 148) (.load 1 false (.t 147)),
  .q none (some 149) (.faddr 0 (.t 18)),
  .q none (some 150) (.load 1 false (.t 149)),
  .q none (some 151) (.bin .gtr (.t 148) (.t 150)),
  .q none (some 145) (.mv (.t 151))])
 (.kp [8, 16, 18, 20, 22, 24, 25, 27, 128, 129, 130, 145] (.cond (.t 145) (.seq (.ops [.q none (some 152) (.faddr 2 (.t 27)),
  .q none (some 153) (.faddr 0 (.t 152)),
  .q none (some 154) (.load 1 false (.t 153)),
  .q none (some 155) (.faddr 0 (.t 20)),
  .q none (some 156) (.load 1 false (.t 155)),
  .q none (some 157) (.faddr 0 (.t 18)),
  .q none (some 158) (.load 1 false (.t 157)),
  .q none (some 159) (.bin .sub (.t 156) (.t 158)),
  .q none (some 160) (.bin .add (.t 154) (.t 159)),
  .q none (some 161) (.faddr 2 (.t 27)),
  .q none (some 162) (.faddr 0 (.t 161)),
  .e none none (.store 1 (.t 162) (.t 160))])
 (.kp [8, 16, 18, 20, 22, 24, 25, 27, 128, 129, 130] (.ops [.q none (some 163) (.mv (.t 25)),
  .q none (some 164) (.load 4 true (.t 27)),
  .e none (some 165) (.bslice 4 [(.t 164)]),
  .e none (some 166) (.append 49 4 false (.t 163) (.t 165)),
  .q none (some 25) (.mv (.t 166))]))) .skip))))))))))
 (.kp [8, 16, 18, 20, 22, 24, 25, 128, 129, 130] (.ops [.q none (some 167) (.bin .add (.t 130) (.k (.d (.int .i64 1)))),
  .q none (some 130) (.mv (.t 167))])))))))))))
 (.kp [8, 22, 24, 25] (.seq (.ops [.q none (some 168) (.mv (.t 24)),
  .q none (some 169) (.mv (.t 22)),
  .q none (some 170) (.mv (.t 25)),
  .e none (some 171) (.bslice 1 [(.t 168), (.t 169), (.t 170)]),
  .call none (some 172) 34 [(.t 171)],
  .q none (some 28) (.mv (.t 172))])
 (.kp [8, 22, 28] (.seq (.seq (.ops [.q none (some 173) (.mv (.t 28)),
  .q none (some 174) (.len (.t 173)),
  .q none (some 175) (.bin .gtr (.t 174) (.k (.d (.int .i64 6000))))])
 (.kp [8, 22, 28, 175] (.cond (.t 175) (.seq (.ops [.q none (some 176) (.build [(.int .i64 0), (.int .i64 0)] []),
  .q none (some 6) (.mv (.k .snil)),
  .q none (some 7) (.mv (.k (.d (.int .i64 0)))),
  .e none none (.store 2 (.t 8) (.t 176)),
  .q none (some 9) (.mv (.k (.d (.int .i64 3))))])
 .ret) .skip)))
 (.kp [8, 22, 28] (.seq (.ops [.q none (some 177) (.mv (.t 28)),
  .q none (some 178) (.mv (.t 22)),
  .q none (some 179) (.len (.t 178)),
  .q none (some 180) (.build [(.int .i64 0), (.int .i64 0)] []),
  .q none (some 6) (.mv (.t 177)),
  .q none (some 7) (.mv (.t 179)),
  .e none none (.store 2 (.t 8) (.t 180)),
  .q none (some 9) (.mv (.k (.d (.int .i64 0))))])
 .ret)))))))))))))))))))))))))))⟩
theorem c8 : chkF Γz.P Γz.E 8 3 i8 = true := by kernel_rfl
noncomputable def i9 : FI := -- cosigner/cosignerref01.Patch
 ⟨173, [.c 6 5 true],
 (.seq (.ops [.e none (some 5) (.box 24 (.t 2)),
  .e none (some 6) (.alloc 33 [.snil, (.d (.int .i64 0)), (.d (.int .i64 0)), (.d (.int .i64 0)), (.d (.int .i64 0))])])
 (.kp [0, 1, 5, 6] (.seq (.ops [.q none (some 20) (.mv (.t 1)),
  .q none (some 21) (.load 3 true (.t 5)),
  .call none (some 22) 35 [(.t 20), (.t 21)],
  .e none (some 7) (.alloc 44 [(.d (.str [])), (.d (.int .i64 0))]),
  .e none none (.store 2 (.t 7) (.t 22))])
 (.kp [0, 1, 5, 6, 7] (.seq (.seq (.ops [.q none (some 23) (.faddr 1 (.t 7)),
  .q none (some 24) (.load 1 false (.t 23)),
  .q none (some 25) (.bin .neq (.t 24) (.k (.d (.int .i64 0))))])
 (.kp [0, 1, 5, 6, 7, 25] (.cond (.t 25) (.seq (.ops [.q none (some 26) (.faddr 1 (.t 7)),
  .q none (some 27) (.load 1 false (.t 26)),
  .q none (some 28) (.build [(.slice []), (.int .i64 0), (.int .i64 0), (.int .i64 0), (.int .i64 0)] [(4, 1, (.t 27))]),
  .e none none (.store 5 (.t 6) (.t 28))])
 .ret) .skip)))
 (.kp [0, 1, 5, 6, 7] (.seq (.ops [.q none (some 29) (.mv (.t 0)),
  .q none (some 30) (.mv (.t 1)),
  .call none (some 31) 36 [(.t 29), (.t 30)],
  .q none (some 8) (.mv (.t 31))])
 (.kp [0, 1, 5, 6, 7, 8] (.seq (.seq (.ops [.q none (some 32) (.mv (.t 8)),
  .q none (some 33) (.not (.t 32))])
 (.kp [0, 1, 5, 6, 7, 33] (.cond (.t 33) (.seq (.ops [.q none (some 34) (.build [(.slice []), (.int .i64 0), (.int .i64 0), (.int .i64 0), (.int .i64 0)] [(4, 1, (.k (.d (.int .i64 1))))]),
  .e none none (.store 5 (.t 6) (.t 34))])
 .ret) .skip)))
 (.kp [0, 1, 5, 6, 7] (.seq (.ops [.q none (some 35) (.mv (.t 1)),
  .q none (some 36) (.faddr 0 (.t 5)),
  .q none (some 37) (.load 1 false (.t 36)),
  .call none (some 38) 37 [(.t 35), (.t 37)],
  .q none (some 39) (.field 0 1 false (.t 38)),
  .q none (some 9) (.mv (.t 39))])
 (.kp [0, 1, 5, 6, 7, 9] (.seq (.ops [.q none (some 40) (.mv (.t 1)),
  .q none (some 41) (.faddr 1 (.t 5)),
  .q none (some 42) (.load 1 false (.t 41)),
  .call none (some 43) 37 [(.t 40), (.t 42)],
  .q none (some 44) (.field 0 1 false (.t 43)),
  .q none (some 10) (.mv (.t 44))])
 (.kp [0, 1, 6, 7, 9, 10] (.seq (.ops [.q none (some 45) (.faddr 0 (.t 7)),
  .q none (some 46) (.load 1 false (.t 45)),
  .call none (some 47) 38 [(.t 46)],
  .q none (some 48) (.len (.t 47)),
  .q none (some 49) (.mv (.t 1)),
  .call none (some 50) 38 [(.t 49)],
  .q none (some 51) (.len (.t 50)),
  .q none (some 52) (.bin .sub (.t 48) (.t 51)),
  .q none (some 11) (.mv (.t 52))])
 (.kp [0, 6, 7, 9, 10, 11] (.seq (.ops [.q none (some 53) (.bz [(.slice []), (.int .i64 0), (.int .i64 0), (.int .i64 0), (.int .i64 0)]),
  .e none (some 12) (.alloc 33 [.snil, (.d (.int .i64 0)), (.d (.int .i64 0)), (.d (.int .i64 0)), (.d (.int .i64 0))]),
  .e none none (.store 5 (.t 12) (.t 53)),
  .ownb 12 0 (49, 4)])
 (.kp [0, 6, 7, 9, 10, 11, 12] (.seq (.seq (.ops [.q none (some 13) (.mv (.k (.d (.int .i64 0))))])
 (.kp [0, 6, 7, 9, 10, 11, 12, 13] (.block 0 (.loop [0, 6, 7, 9, 10, 11, 12, 13] (.seq (.seq (.ops [.q none (some 54) (.mv (.t 13)),
  .q none (some 55) (.mv (.t 0)),
  .q none (some 56) (.len (.t 55)),
  .q none (some 57) (.bin .lss (.t 54) (.t 56))])
 (.kp [0, 6, 7, 9, 10, 11, 12, 13, 57] (.cond (.t 57) .skip (.exit 0))))
 (.kp [0, 6, 7, 9, 10, 11, 12, 13] (.seq (.block 1 (.seq (.ops [.q none (some 60) (.mv (.t 0)),
  .q none (some 61) (.mv (.t 13)),
  .q none (some 62) (.iaddr 4 (.t 60) (.t 61)),
  .q none (some 63) (.faddr 2 (.t 62)),
  .q none (some 64) (.faddr 0 (.t 63)),
  .q none (some 65) (.load 1 false (.t 64)),
  .q none (some 66) (.mv (.t 9)),
  .q none (some 67) (.bin .lss (.t 65) (.t 66))])
 (.kp [0, 6, 7, 9, 10, 11, 12, 13, 67] (.cond (.t 67) (.draw (.q 0 (.q none (some 68) (.faddr 0 (.t 12))) (.q 1 (.q none (some 69) (.load 1 false (.t 68))) (.q 2 (.q none (some 70) (.mv (.t 0))) (.q 3 (.q none (some 71) (.mv (.t 13))) (.q 4 (.q none (some 72) (.iaddr 4 (.t 70) (.t 71))) (.q 5 (.q none (some 73) (.load 4 true (.t 72))) (.br (.cons 6 [5] (.e none (some 74) (.bslice 4 [(.t 73)])) (.br (.cons 7 [1, 6] (.e none (some 75) (.append 49 4 false (.t 69) (.t 74))) (.q 8 (.q none (some 76) (.faddr 0 (.t 12))) (.br (.cons 9 [0, 1, 2, 3, 4, 5, 6, 7, 8] (.e none none (.store 1 (.t 76) (.t 75))) .done .nil))) .nil)) .nil))))))))) .skip))))
 (.kp [0, 6, 7, 9, 10, 11, 12, 13] (.ops [.q none (some 58) (.mv (.t 13)),
  .q none (some 59) (.bin .add (.t 58) (.k (.d (.int .i64 1)))),
  .q none (some 13) (.mv (.t 59))])))))))))
 (.kp [0, 6, 7, 9, 10, 11, 12] (.seq (.ops [.q none (some 77) (.faddr 0 (.t 7)),
  .q none (some 78) (.load 1 false (.t 77)),
  .call none (some 79) 38 [(.t 78)],
  .q none (some 14) (.mv (.t 79))])
 (.kp [0, 6, 9, 10, 11, 12, 14] (.seq (.seq (.ops [.q none (some 80) (.mv (.t 9)),
  .q none (some 15) (.mv (.t 80))])
 (.kp [0, 6, 10, 11, 12, 14, 15] (.block 2 (.loop [0, 6, 10, 11, 12, 14, 15] (.seq (.seq (.ops [.q none (some 81) (.mv (.t 15)),
  .q none (some 82) (.mv (.t 10)),
  .q none (some 83) (.mv (.t 11)),
  .q none (some 84) (.bin .add (.t 82) (.t 83)),
  .q none (some 85) (.bin .leq (.t 81) (.t 84))])
 (.kp [0, 6, 10, 11, 12, 14, 15, 85] (.cond (.t 85) .skip (.exit 2))))
 (.kp [0, 6, 10, 11, 12, 14, 15] (.seq (.block 3 (.seq (.ops [.q none (some 88) (.mv (.t 14)),
  .q none (some 89) (.mv (.t 15)),
  .q none (some 90) (.bin .sub (.t 89) (.k (.d (.int .i64 1)))),
  .q none (some 91) (.iaddr 1 (.t 88) (.t 90)),
  .q none (some 92) (.load 1 false (.t 91)),
  .call none (some 93) 39 [(.t 92)],
  .e none (some 16) (.alloc 36 [.snil, .snil, (.d (.int .i64 0)), (.d (.int .i64 0)), (.d (.int .i64 0))]),
  .e none none (.store 5 (.t 16) (.t 93))])
 (.kp [0, 6, 10, 11, 12, 14, 15, 16] (.seq (.seq (.ops [.q none (some 94) (.faddr 4 (.t 16)),
  .q none (some 95) (.load 1 false (.t 94)),
  .q none (some 96) (.bin .neq (.t 95) (.k (.d (.int .i64 0))))])
 (.kp [0, 6, 10, 11, 12, 14, 15, 16, 96] (.cond (.t 96) (.seq (.ops [.q none (some 97) (.mv (.t 15)),
  .q none (some 98) (.faddr 2 (.t 16)),
  .q none (some 99) (.faddr 1 (.t 98)),
  .q none (some 100) (.load 1 false (.t 99)),
  .q none (some 101) (.build [(.int .i64 0), (.int .i64 0)] [(0, 1, (.t 97)), (1, 1, (.t 100))]),
  .q none (some 102) (.faddr 4 (.t 16)),
  .q none (some 103) (.load 1 false (.t 102)),
  .q none (some 104) (.build [(.slice []), (.int .i64 0), (.int .i64 0), (.int .i64 0), (.int .i64 0)] [(2, 2, (.t 101)), (4, 1, (.t 103))]),
  .e none none (.store 5 (.t 6) (.t 104))])
 .ret) .skip)))
 (.kp [0, 6, 10, 11, 12, 14, 15, 16] (.seq (.seq (.ops [.q none (some 17) (.mv (.k (.d (.int .i64 0))))])
 (.kp [0, 6, 10, 11, 12, 14, 15, 16, 17] (.block 4 (.loop [0, 6, 10, 11, 12, 14, 15, 16, 17] (.seq (.seq (.ops [.q none (some 105) (.mv (.t 17)),
  .q none (some 106) (.faddr 0 (.t 16)),
  .q none (some 107) (.load 1 false (.t 106)),
  .q none (some 108) (.len (.t 107)),
  .q none (some 109) (.bin .lss (.t 105) (.t 108))])
 (.kp [0, 6, 10, 11, 12, 14, 15, 16, 17, 109] (.cond (.t 109) .skip (.exit 4))))
 (.kp [0, 6, 10, 11, 12, 14, 15, 16, 17] (.seq (.block 5 (.seq (.ops [.q none (some 112) (.faddr 0 (.t 16)),
  .q none (some 113) (.load 1 false (.t 112)),
  .q none (some 114) (.mv (.t 17)),
  .q none (some 115) (.mv (.t 15)),
  .q none (some 116) (.iaddr 4 (.t 113) (.t 114)),
  .q none (some 117) (.faddr 2 (.t 116)),
  .q none (some 118) (.faddr 0 (.t 117)),
  .e none none (.store 1 (.t 118) (.t 115))])
 (.kp [0, 6, 10, 11, 12, 14, 15, 16, 17] (.draw (.q 0 (.q none (some 119) (.faddr 0 (.t 12))) (.q 1 (.q none (some 120) (.load 1 false (.t 119))) (.q 2 (.q none (some 121) (.faddr 0 (.t 16))) (.q 3 (.q none (some 122) (.load 1 false (.t 121))) (.q 4 (.q none (some 123) (.mv (.t 17))) (.q 5 (.q none (some 124) (.iaddr 4 (.t 122) (.t 123))) (.q 6 (.q none (some 125) (.load 4 true (.t 124))) (.br (.cons 7 [6] (.e none (some 126) (.bslice 4 [(.t 125)])) (.br (.cons 8 [1, 7] (.e none (some 127) (.append 49 4 false (.t 120) (.t 126))) (.q 9 (.q none (some 128) (.faddr 0 (.t 12))) (.br (.cons 10 [0, 1, 2, 3, 4, 5, 6, 7, 8, 9] (.e none none (.store 1 (.t 128) (.t 127))) .done .nil))) .nil)) .nil)))))))))))))
 (.kp [0, 6, 10, 11, 12, 14, 15, 16, 17] (.ops [.q none (some 110) (.mv (.t 17)),
  .q none (some 111) (.bin .add (.t 110) (.k (.d (.int .i64 1)))),
  .q none (some 17) (.mv (.t 111))])))))))))
 (.kp [0, 6, 10, 11, 12, 14, 15, 16] (.ops [.q none (some 129) (.faddr 1 (.t 12)),
  .q none (some 130) (.load 1 false (.t 129)),
  .q none (some 131) (.faddr 0 (.t 16)),
  .q none (some 132) (.load 1 false (.t 131)),
  .q none (some 133) (.len (.t 132)),
  .q none (some 134) (.bin .add (.t 130) (.t 133)),
  .q none (some 135) (.faddr 1 (.t 12)),
  .e none none (.store 1 (.t 135) (.t 134))]))))))))
 (.kp [0, 6, 10, 11, 12, 14, 15] (.ops [.q none (some 86) (.mv (.t 15)),
  .q none (some 87) (.bin .add (.t 86) (.k (.d (.int .i64 1)))),
  .q none (some 15) (.mv (.t 87))])))))))))
 (.kp [0, 6, 10, 11, 12] (.seq (.seq (.ops [.q none (some 18) (.mv (.k (.d (.int .i64 0))))])
 (.kp [0, 6, 10, 11, 12, 18] (.block 6 (.loop [0, 6, 10, 11, 12, 18] (.seq (.seq (.ops [.q none (some 136) (.mv (.t 18)),
  .q none (some 137) (.mv (.t 0)),
  .q none (some 138) (.len (.t 137)),
  .q none (some 139) (.bin .lss (.t 136) (.t 138))])
 (.kp [0, 6, 10, 11, 12, 18, 139] (.cond (.t 139) .skip (.exit 6))))
 (.kp [0, 6, 10, 11, 12, 18] (.seq (.block 7 (.seq (.ops [.q none (some 142) (.mv (.t 0)),
  .q none (some 143) (.mv (.t 18)),
  .q none (some 144) (.iaddr 4 (.t 142) (.t 143)),
  .q none (some 145) (.faddr 2 (.t 144)),
  .q none (some 146) (.faddr 0 (.t 145)),
  .q none (some 147) (.load 1 false (.t 146)),
  .q none (some 148) (.mv (.t 10)),
  .q none (some 149) (.bin .gtr (.t 147) (.t 148))])
 (.kp [0, 6, 10, 11, 12, 18, 149] (.cond (.t 149) (.seq (.ops [.q none (some 150) (.mv (.t 0)),
  .q none (some 151) (.mv (.t 18)),
  .q none (some 152) (.iaddr 4 (.t 150) (.t 151)),
  .q none (some 153) (.load 4 true (.t 152)),
  .e none (some 19) (.alloc 49 [(.d (.int .i64 0)), (.d (.str [])), (.d (.int .i64 0)), (.d (.int .i64 0))]),
  .e none none (.store 4 (.t 19) (.t 153))])
 (.kp [0, 6, 10, 11, 12, 18, 19] (.seq (.ops [.q none (some 154) (.faddr 2 (.t 19)),
  .q none (some 155) (.faddr 0 (.t 154)),
  .q none (some 156) (.load 1 false (.t 155)),
  .q none (some 157) (.mv (.t 11)),
  .q none (some 158) (.bin .add (.t 156) (.t 157)),
  .q none (some 159) (.faddr 2 (.t 19)),
  .q none (some 160) (.faddr 0 (.t 159)),
  .e none none (.store 1 (.t 160) (.t 158))])
 (.kp [0, 6, 10, 11, 12, 18, 19] (.ops [.q none (some 161) (.faddr 0 (.t 12)),
  .q none (some 162) (.load 1 false (.t 161)),
  .q none (some 163) (.load 4 true (.t 19)),
  .e none (some 164) (.bslice 4 [(.t 163)]),
  .e none (some 165) (.append 49 4 false (.t 162) (.t 164)),
  .q none (some 166) (.faddr 0 (.t 12)),
  .e none none (.store 1 (.t 166) (.t 165))]))))) .skip))))
 (.kp [0, 6, 10, 11, 12, 18] (.ops [.q none (some 140) (.mv (.t 18)),
  .q none (some 141) (.bin .add (.t 140) (.k (.d (.int .i64 1)))),
  .q none (some 18) (.mv (.t 141))])))))))))
 (.kp [6, 12] (.seq (.seq (.ops [.q none (some 167) (.faddr 0 (.t 12)),
  .q none (some 168) (.load 1 false (.t 167)),
  .q none (some 169) (.len (.t 168)),
  .q none (some 170) (.bin .gtr (.t 169) (.k (.d (.int .i64 6000))))])
 (.kp [6, 12, 170] (.cond (.t 170) (.seq (.ops [.q none (some 171) (.build [(.slice []), (.int .i64 0), (.int .i64 0), (.int .i64 0), (.int .i64 0)] [(4, 1, (.k (.d (.int .i64 3))))]),
  .e none none (.store 5 (.t 6) (.t 171))])
 .ret) .skip)))
 (.kp [6, 12] (.seq (.ops [.q none (some 172) (.load 5 true (.t 12)),
  .e none none (.store 5 (.t 6) (.t 172))])
 .ret)))))))))))))))))))))))))))))⟩
theorem c9 : chkF Γz.P Γz.E 9 3 i9 = true := by kernel_rfl
noncomputable def i10 : FI := -- cosigner/cosignerref01.Tokens
 ⟨21, [.c 2 5 true],
 (.seq (.ops [.e none (some 2) (.alloc 36 [.snil, .snil, (.d (.int .i64 0)), (.d (.int .i64 0)), (.d (.int .i64 0))])])
 (.kp [0, 2] (.seq (.seq (.ops [.q none (some 4) (.mv (.t 0)),
  .q none (some 5) (.slen (.t 4)),
  .q none (some 6) (.bin .gtr (.t 5) (.k (.d (.int .i64 20000))))])
 (.kp [0, 2, 6] (.cond (.t 6) (.seq (.ops [.q none (some 7) (.build [(.slice []), (.slice []), (.int .i64 0), (.int .i64 0), (.int .i64 0)] [(4, 1, (.k (.d (.int .i64 3))))]),
  .e none none (.store 5 (.t 2) (.t 7))])
 .ret) .skip)))
 (.kp [0, 2] (.seq (.ops [.q none (some 8) (.mv (.t 0)),
  .call none (some 9) 39 [(.t 8)],
  .e none (some 3) (.alloc 36 [.snil, .snil, (.d (.int .i64 0)), (.d (.int .i64 0)), (.d (.int .i64 0))]),
  .e none none (.store 5 (.t 3) (.t 9))])
 (.kp [2, 3] (.seq (.seq (.ops [.q none (some 10) (.faddr 4 (.t 3)),
  .q none (some 11) (.load 1 false (.t 10)),
  .q none (some 12) (.bin .eql (.t 11) (.k (.d (.int .i64 0)))),
  .q none (some 13) (.mv (.t 12)),
  .q (some (13, true)) (some 14) (.faddr 0 (.t 3)),
  .q (some (13, true)) (some 15) (.load 1 false (.t 14)),
  .q (some (13, true)) (some 16) (.len (.t 15)),
  .q (some (13, true)) (some 17) (.bin .gtr (.t 16) (.k (.d (.int .i64 6000)))),
  .q none (some 18) (.pick (.t 13) (.t 17) (.k (.d (.bool false))))])
 (.kp [2, 3, 18] (.cond (.t 18) (.seq (.ops [.q none (some 19) (.build [(.slice []), (.slice []), (.int .i64 0), (.int .i64 0), (.int .i64 0)] [(4, 1, (.k (.d (.int .i64 3))))]),
  .e none none (.store 5 (.t 2) (.t 19))])
 .ret) .skip)))
 (.kp [2, 3] (.seq (.ops [.q none (some 20) (.load 5 true (.t 3)),
  .e none none (.store 5 (.t 2) (.t 20))])
 .ret)))))))))⟩
theorem c10 : chkF Γz.P Γz.E 10 1 i10 = true := by kernel_rfl
noncomputable def i11 : FI := -- cosigner/cosignerref01.SameTokens
 ⟨26, [.t 4],
 (.seq (.ops [.q none (some 4) (.mv (.k (.d (.bool false))))])
 (.kp [0, 1] (.seq (.seq (.ops [.q none (some 6) (.mv (.t 0)),
  .q none (some 7) (.len (.t 6)),
  .q none (some 8) (.mv (.t 1)),
  .q none (some 9) (.len (.t 8)),
  .q none (some 10) (.bin .neq (.t 7) (.t 9))])
 (.kp [0, 1, 10] (.cond (.t 10) (.seq (.ops [.q none (some 4) (.mv (.k (.d (.bool false))))])
 .ret) .skip)))
 (.kp [0, 1] (.seq (.seq (.ops [.q none (some 5) (.mv (.k (.d (.int .i64 0))))])
 (.kp [0, 1, 5] (.block 0 (.loop [0, 1, 5] (.seq (.seq (.ops [.q none (some 11) (.mv (.t 5)),
  .q none (some 12) (.mv (.t 0)),
  .q none (some 13) (.len (.t 12)),
  .q none (some 14) (.bin .lss (.t 11) (.t 13))])
 (.kp [0, 1, 5, 14] (.cond (.t 14) .skip (.exit 0))))
 (.kp [0, 1, 5] (.seq (.block 1 (.seq (.draw (.q 0 (.q none (some 17) (.mv (.t 0))) (.q 1 (.q none (some 18) (.mv (.t 5))) (.q 2 (.q none (some 19) (.iaddr 4 (.t 17) (.t 18))) (.q 3 (.q none (some 20) (.load 4 true (.t 19))) (.q 4 (.q none (some 21) (.mv (.t 1))) (.q 5 (.q none (some 22) (.mv (.t 5))) (.q 6 (.q none (some 23) (.iaddr 4 (.t 21) (.t 22))) (.q 7 (.q none (some 24) (.load 4 true (.t 23))) (.q 8 (.q none (some 25) (.eqs true [.int .i64, .str, .int .i64, .int .i64] (.t 20) (.t 24))) .done))))))))))
 (.kp [0, 1, 5, 25] (.cond (.t 25) (.seq (.ops [.q none (some 4) (.mv (.k (.d (.bool false))))])
 .ret) .skip))))
 (.kp [0, 1, 5] (.ops [.q none (some 15) (.mv (.t 5)),
  .q none (some 16) (.bin .add (.t 15) (.k (.d (.int .i64 1)))),
  .q none (some 5) (.mv (.t 16))])))))))))
 (.kp [] (.seq (.ops [.q none (some 4) (.mv (.k (.d (.bool true))))])
 .ret)))))))⟩
theorem c11 : chkF Γz.P Γz.E 11 2 i11 = true := by kernel_rfl
noncomputable def i12 : FI := -- cosigner/cosignerlaw01.few
 ⟨30, [.t 2],
 (.seq (.ops [.q none (some 2) (.mv (.k (.d (.bool false))))])
 (.kp [0] (.seq (.seq (.ops [.q none (some 3) (.mv (.k (.d (.int .i64 0))))])
 (.kp [0, 3] (.block 0 (.loop [0, 3] (.seq (.seq (.ops [.q none (some 4) (.mv (.t 3)),
  .q none (some 5) (.mv (.t 0)),
  .q none (some 6) (.len (.t 5)),
  .q none (some 7) (.bin .lss (.t 4) (.t 6))])
 (.kp [0, 3, 7] (.cond (.t 7) .skip (.exit 0))))
 (.kp [0, 3] (.seq (.block 1 (.seq (.ops [.q none (some 10) (.mv (.t 0)),
  .q none (some 11) (.mv (.t 3)),
  .q none (some 12) (.iaddr 4 (.t 10) (.t 11)),
  .q none (some 13) (.faddr 1 (.t 12)),
  .q none (some 14) (.load 1 false (.t 13)),
  .q none (some 15) (.slen (.t 14)),
  .q none (some 16) (.bin .gtr (.t 15) (.k (.d (.int .i64 60))))])
 (.kp [0, 3, 16] (.cond (.t 16) (.seq (.ops [.q none (some 2) (.mv (.k (.d (.bool false))))])
 .ret) .skip))))
 (.kp [0, 3] (.ops [.q none (some 8) (.mv (.t 3)),
  .q none (some 9) (.bin .add (.t 8) (.k (.d (.int .i64 1)))),
  .q none (some 3) (.mv (.t 9))])))))))))
 (.kp [0] (.seq (.ops [.q none (some 17) (.mv (.t 0)),
  .q none (some 18) (.len (.t 17)),
  .q none (some 19) (.bin .leq (.t 18) (.k (.d (.int .i64 40)))),
  .q none (some 20) (.mv (.t 19)),
  .q (some (20, false)) (some 21) (.mv (.t 0)),
  .q (some (20, false)) (some 22) (.len (.t 21)),
  .q (some (20, false)) (some 23) (.bin .gtr (.t 22) (.k (.d (.int .i64 6000)))),
  .q (some (20, false)) (some 24) (.mv (.t 23)),
  .q (some (24, true)) (some 25) (.mv (.t 0)),
  .q (some (24, true)) (some 26) (.len (.t 25)),
  .q (some (24, true)) (some 27) (.bin .leq (.t 26) (.k (.d (.int .i64 6010)))),
  .q (some (20, false)) (some 28) (.pick (.t 24) (.t 27) (.k (.d (.bool false)))),
  .q none (some 29) (.pick (.t 20) (.k (.d (.bool true))) (.t 28)),
  .q none (some 2) (.mv (.t 29))])
 .ret)))))⟩
theorem c12 : chkF Γz.P Γz.E 12 1 i12 = true := by kernel_rfl
noncomputable def i13 : FI := -- cosigner/lex.Write
 ⟨8, [.t 2, .t 3],
 (.seq (.ops [.q none (some 2) (.mv (.k (.d (.str [])))),
  .q none (some 3) (.mv (.k (.d (.int .i64 0))))])
 (.kp [0] (.seq (.ops [.q none (some 4) (.mv (.t 0)),
  .call none (some 5) 40 [(.t 4), (.f 41)],
  .q none (some 6) (.extract (.t 5) 0),
  .q none (some 7) (.extract (.t 5) 1),
  .q none (some 2) (.mv (.t 6)),
  .q none (some 3) (.mv (.t 7))])
 .ret)))⟩
theorem c13 : chkF Γz.P Γz.E 13 1 i13 = true := by kernel_rfl
noncomputable def i14 : FI := -- cosigner/cosignerref01.Write
 ⟨5, [.c 2 2 true],
 (.seq (.ops [.e none (some 2) (.alloc 44 [(.d (.str [])), (.d (.int .i64 0))])])
 (.kp [0, 2] (.seq (.ops [.q none (some 3) (.mv (.t 0)),
  .call none (some 4) 42 [(.t 3), (.k (.d (.bool true)))],
  .e none none (.store 2 (.t 2) (.t 4))])
 .ret)))⟩
theorem c14 : chkF Γz.P Γz.E 14 1 i14 = true := by kernel_rfl
noncomputable def i15 : FI := -- cosigner/lex.Tight
 ⟨8, [.t 2, .t 3],
 (.seq (.ops [.q none (some 2) (.mv (.k (.d (.str [])))),
  .q none (some 3) (.mv (.k (.d (.int .i64 0))))])
 (.kp [0] (.seq (.ops [.q none (some 4) (.mv (.t 0)),
  .call none (some 5) 40 [(.t 4), (.f 43)],
  .q none (some 6) (.extract (.t 5) 0),
  .q none (some 7) (.extract (.t 5) 1),
  .q none (some 2) (.mv (.t 6)),
  .q none (some 3) (.mv (.t 7))])
 .ret)))⟩
theorem c15 : chkF Γz.P Γz.E 15 1 i15 = true := by kernel_rfl
noncomputable def i16 : FI := -- cosigner/cosignerref01.Tight
 ⟨5, [.c 2 2 true],
 (.seq (.ops [.e none (some 2) (.alloc 44 [(.d (.str [])), (.d (.int .i64 0))])])
 (.kp [0, 2] (.seq (.ops [.q none (some 3) (.mv (.t 0)),
  .call none (some 4) 42 [(.t 3), (.k (.d (.bool false)))],
  .e none none (.store 2 (.t 2) (.t 4))])
 .ret)))⟩
theorem c16 : chkF Γz.P Γz.E 16 1 i16 = true := by kernel_rfl
noncomputable def i17 : FI := -- cosigner/lex.Needs
 ⟨17, [.t 4, .t 5],
 (.seq (.ops [.e none (some 2) (.box 49 (.t 0)),
  .e none (some 3) (.box 49 (.t 1)),
  .q none (some 4) (.mv (.k (.d (.bool false)))),
  .q none (some 5) (.mv (.k (.d (.int .i64 0))))])
 (.kp [2, 3] (.seq (.seq (.ops [.q none (some 6) (.load 4 true (.t 2)),
  .call none (some 7) 44 [(.t 6)],
  .q none (some 8) (.not (.t 7)),
  .q none (some 9) (.mv (.t 8)),
  .q (some (9, false)) (some 10) (.load 4 true (.t 3)),
  .call (some (9, false)) (some 11) 44 [(.t 10)],
  .q (some (9, false)) (some 12) (.not (.t 11)),
  .q none (some 13) (.pick (.t 9) (.k (.d (.bool true))) (.t 12))])
 (.kp [2, 3, 13] (.cond (.t 13) (.seq (.ops [.q none (some 4) (.mv (.k (.d (.bool false)))),
  .q none (some 5) (.mv (.k (.d (.int .i64 1))))])
 .ret) .skip)))
 (.kp [2, 3] (.seq (.ops [.q none (some 14) (.load 4 true (.t 2)),
  .q none (some 15) (.load 4 true (.t 3)),
  .call none (some 16) 43 [(.t 14), (.t 15)],
  .q none (some 4) (.mv (.t 16)),
  .q none (some 5) (.mv (.k (.d (.int .i64 0))))])
 .ret)))))⟩
theorem c17 : chkF Γz.P Γz.E 17 2 i17 = true := by kernel_rfl
noncomputable def i18 : FI := -- cosigner/cosignerref01.Needs
 ⟨22, [.c 4 2 true],
 (.seq (.ops [.e none (some 2) (.box 49 (.t 0)),
  .e none (some 3) (.box 49 (.t 1)),
  .e none (some 4) (.alloc 51 [(.d (.bool false)), (.d (.int .i64 0))])])
 (.kp [2, 3, 4] (.seq (.ops [.q none (some 7) (.load 4 true (.t 2)),
  .call none (some 8) 45 [(.t 7)],
  .q none (some 5) (.mv (.t 8))])
 (.kp [2, 3, 4, 5] (.seq (.ops [.q none (some 9) (.load 4 true (.t 3)),
  .call none (some 10) 45 [(.t 9)],
  .q none (some 6) (.mv (.t 10))])
 (.kp [2, 3, 4, 5, 6] (.seq (.seq (.ops [.q none (some 11) (.mv (.t 5)),
  .q none (some 12) (.not (.t 11)),
  .q none (some 13) (.mv (.t 12)),
  .q (some (13, false)) (some 14) (.mv (.t 6)),
  .q (some (13, false)) (some 15) (.not (.t 14)),
  .q none (some 16) (.pick (.t 13) (.k (.d (.bool true))) (.t 15))])
 (.kp [2, 3, 4, 16] (.cond (.t 16) (.seq (.ops [.q none (some 17) (.build [(.bool false), (.int .i64 0)] [(1, 1, (.k (.d (.int .i64 1))))]),
  .e none none (.store 2 (.t 4) (.t 17))])
 .ret) .skip)))
 (.kp [2, 3, 4] (.seq (.ops [.q none (some 18) (.load 4 true (.t 2)),
  .q none (some 19) (.load 4 true (.t 3)),
  .call none (some 20) 46 [(.t 18), (.t 19)],
  .q none (some 21) (.build [(.bool false), (.int .i64 0)] [(0, 1, (.t 20))]),
  .e none none (.store 2 (.t 4) (.t 21))])
 .ret)))))))))⟩
theorem c18 : chkF Γz.P Γz.E 18 2 i18 = true := by kernel_rfl
noncomputable def i19 : FI := -- cosigner/lex.Strip
 ⟨61, [.t 2, .t 3],
 (.seq (.ops [.q none (some 2) (.mv (.k (.d (.str [])))),
  .q none (some 3) (.mv (.k (.d (.int .i64 0))))])
 (.kp [0] (.seq (.ops [.q none (some 12) (.mv (.t 0)),
  .call none (some 13) 47 [(.t 12)],
  .q none (some 11) (.mv (.t 13)),
  .q none (some 14) (.extract (.t 11) 0),
  .q none (some 15) (.extract (.t 11) 1),
  .q none (some 4) (.mv (.t 14)),
  .q none (some 5) (.mv (.t 15))])
 (.kp [0, 4, 5] (.seq (.seq (.ops [.q none (some 16) (.mv (.t 5)),
  .q none (some 17) (.bin .neq (.t 16) (.k (.d (.int .i64 0))))])
 (.kp [0, 4, 5, 17] (.cond (.t 17) (.seq (.ops [.q none (some 18) (.mv (.t 5)),
  .q none (some 2) (.mv (.k (.d (.str [])))),
  .q none (some 3) (.mv (.t 18))])
 .ret) .skip)))
 (.kp [0, 4] (.seq (.ops [.q none (some 19) (.mv (.t 0)),
  .call none (some 20) 32 [(.t 19), (.k (.d (.str [10])))],
  .q none (some 6) (.mv (.t 20))])
 (.kp [4, 6] (.seq (.seq (.ops [.q none (some 21) (.mv (.t 4)),
  .q none (some 22) (.len (.t 21)),
  .q none (some 23) (.mv (.k (.d (.int .i64 0))))])
 (.kp [6, 21, 22, 23] (.block 0 (.loop [6, 21, 22, 23] (.seq (.ops [.q none (some 24) (.bin .lss (.t 23) (.t 22))])
 (.kp [6, 21, 22, 23, 24] (.seq (.cond (.t 24) .skip (.exit 0))
 (.kp [6, 21, 22, 23] (.seq (.block 1 (.seq (.ops [.q none (some 25) (.iaddr 4 (.t 21) (.t 23)),
  .q none (some 26) (.load 4 true (.t 25)),
  .e none (some 8) (.alloc 49 [(.d (.int .i64 0)), (.d (.str [])), (.d (.int .i64 0)), (.d (.int .i64 0))]),
  .e none none (.store 4 (.t 8) (.t 26))])
 (.kp [6, 8, 21, 22, 23] (.draw (.q 0 (.q none (some 27) (.mv (.t 6))) (.q 1 (.q none (some 28) (.faddr 2 (.t 8))) (.q 2 (.q none (some 29) (.faddr 0 (.t 28))) (.q 3 (.q none (some 30) (.load 1 false (.t 29))) (.q 4 (.q none (some 31) (.bin .sub (.t 30) (.k (.d (.int .i64 1))))) (.q 5 (.q none (some 32) (.mv (.t 6))) (.q 6 (.q none (some 33) (.faddr 2 (.t 8))) (.q 7 (.q none (some 34) (.faddr 0 (.t 33))) (.q 8 (.q none (some 35) (.load 1 false (.t 34))) (.q 9 (.q none (some 36) (.bin .sub (.t 35) (.k (.d (.int .i64 1))))) (.q 10 (.q none (some 37) (.iaddr 1 (.t 32) (.t 36))) (.q 11 (.q none (some 38) (.load 1 false (.t 37))) (.q 12 (.q none (some 39) (.faddr 2 (.t 8))) (.q 13 (.q none (some 40) (.faddr 1 (.t 39))) (.q 14 (.q none (some 41) (.load 1 false (.t 40))) (.q 15 (.q none (some 42) (.bin .sub (.t 41) (.k (.d (.int .i64 1))))) (.q 16 (.q none (some 43) (.sslice (.t 38) none (some (.t 42)))) (.q 17 (.q none (some 44) (.iaddr 1 (.t 27) (.t 31))) (.br (.cons 18 [0, 1, 2, 3, 4, 5, 6, 7, 8, 9, 10, 11, 12, 13, 14, 15, 16, 17] (.e none none (.store 1 (.t 44) (.t 43))) .done .nil))))))))))))))))))))))))
 (.kp [6, 21, 22, 23] (.ops [.q none (some 45) (.bin .add (.t 23) (.k (.d (.int .i64 1)))),
  .q none (some 23) (.mv (.t 45))])))))))))))
 (.kp [6] (.seq (.seq (.ops [.q none (some 46) (.mv (.t 6)),
  .q none (some 47) (.len (.t 46)),
  .q none (some 48) (.mv (.k (.d (.int .i64 0))))])
 (.kp [6, 46, 47, 48] (.block 2 (.loop [6, 46, 47, 48] (.seq (.ops [.q none (some 49) (.bin .lss (.t 48) (.t 47))])
 (.kp [6, 46, 47, 48, 49] (.seq (.cond (.t 49) .skip (.exit 2))
 (.kp [6, 46, 47, 48] (.seq (.block 3 (.seq (.ops [.q none (some 50) (.mv (.t 48)),
  .q none (some 51) (.iaddr 1 (.t 46) (.t 48)),
  .q none (some 52) (.load 1 false (.t 51)),
  .q none (some 9) (.mv (.t 50)),
  .q none (some 10) (.mv (.t 52))])
 (.kp [6, 9, 10, 46, 47, 48] (.ops [.q none (some 53) (.mv (.t 6)),
  .q none (some 54) (.mv (.t 9)),
  .q none (some 55) (.mv (.t 10)),
  .call none (some 56) 48 [(.t 55), (.k (.d (.str [32])))],
  .q none (some 57) (.iaddr 1 (.t 53) (.t 54)),
  .e none none (.store 1 (.t 57) (.t 56))]))))
 (.kp [6, 46, 47, 48] (.ops [.q none (some 58) (.bin .add (.t 48) (.k (.d (.int .i64 1)))),
  .q none (some 48) (.mv (.t 58))])))))))))))
 (.kp [6] (.seq (.ops [.q none (some 59) (.mv (.t 6)),
  .call none (some 60) 49 [(.t 59), (.k (.d (.str [10])))],
  .q none (some 2) (.mv (.t 60)),
  .q none (some 3) (.mv (.k (.d (.int .i64 0))))])
 .ret)))))))))))))⟩
theorem c19 : chkF Γz.P Γz.E 19 1 i19 = true := by kernel_rfl
noncomputable def i20 : FI := -- cosigner/cosignerref01.Strip
 ⟨37, [.c 2 2 true],
 (.seq (.ops [.e none (some 2) (.alloc 44 [(.d (.str [])), (.d (.int .i64 0))])])
 (.kp [0, 2] (.seq (.ops [.q none (some 7) (.mv (.t 0)),
  .call none (some 8) 10 [(.t 7)],
  .e none (some 3) (.alloc 36 [.snil, .snil, (.d (.int .i64 0)), (.d (.int .i64 0)), (.d (.int .i64 0))]),
  .e none none (.store 5 (.t 3) (.t 8))])
 (.kp [0, 2, 3] (.seq (.seq (.ops [.q none (some 9) (.faddr 4 (.t 3)),
  .q none (some 10) (.load 1 false (.t 9)),
  .q none (some 11) (.bin .neq (.t 10) (.k (.d (.int .i64 0))))])
 (.kp [0, 2, 3, 11] (.cond (.t 11) (.seq (.ops [.q none (some 12) (.faddr 4 (.t 3)),
  .q none (some 13) (.load 1 false (.t 12)),
  .q none (some 14) (.build [(.str []), (.int .i64 0)] [(1, 1, (.t 13))]),
  .e none none (.store 2 (.t 2) (.t 14))])
 .ret) .skip)))
 (.kp [0, 2] (.seq (.ops [.q none (some 15) (.mv (.t 0)),
  .call none (some 16) 38 [(.t 15)],
  .q none (some 4) (.mv (.t 16))])
 (.kp [2, 4] (.seq (.ops [.q none (some 17) (.mv (.t 4)),
  .q none (some 18) (.iaddr 1 (.t 17) (.k (.d (.int .i64 0)))),
  .q none (some 19) (.load 1 false (.t 18)),
  .call none (some 20) 50 [(.t 19)],
  .q none (some 5) (.mv (.t 20))])
 (.kp [2, 4, 5] (.seq (.seq (.ops [.q none (some 6) (.mv (.k (.d (.int .i64 1))))])
 (.kp [2, 4, 5, 6] (.block 0 (.loop [2, 4, 5, 6] (.seq (.seq (.ops [.q none (some 21) (.mv (.t 6)),
  .q none (some 22) (.mv (.t 4)),
  .q none (some 23) (.len (.t 22)),
  .q none (some 24) (.bin .lss (.t 21) (.t 23))])
 (.kp [2, 4, 5, 6, 24] (.cond (.t 24) .skip (.exit 0))))
 (.kp [2, 4, 5, 6] (.seq (.block 1 (.ops [.q none (some 27) (.mv (.t 5)),
  .q none (some 28) (.bin .add (.t 27) (.k (.d (.str [10])))),
  .q none (some 29) (.mv (.t 4)),
  .q none (some 30) (.mv (.t 6)),
  .q none (some 31) (.iaddr 1 (.t 29) (.t 30)),
  .q none (some 32) (.load 1 false (.t 31)),
  .call none (some 33) 50 [(.t 32)],
  .q none (some 34) (.bin .add (.t 28) (.t 33)),
  .q none (some 5) (.mv (.t 34))]))
 (.kp [2, 4, 5, 6] (.ops [.q none (some 25) (.mv (.t 6)),
  .q none (some 26) (.bin .add (.t 25) (.k (.d (.int .i64 1)))),
  .q none (some 6) (.mv (.t 26))])))))))))
 (.kp [2, 5] (.seq (.ops [.q none (some 35) (.mv (.t 5)),
  .q none (some 36) (.build [(.str []), (.int .i64 0)] [(0, 1, (.t 35))]),
  .e none none (.store 2 (.t 2) (.t 36))])
 .ret)))))))))))))⟩
theorem c20 : chkF Γz.P Γz.E 20 1 i20 = true := by kernel_rfl
noncomputable def i21 : FI := -- cosigner/lex.Same
 ⟨32, [.t 4, .t 5],
 (.seq (.ops [.q none (some 4) (.mv (.k (.d (.bool false)))),
  .q none (some 5) (.mv (.k (.d (.int .i64 0))))])
 (.kp [0, 1] (.seq (.ops [.q none (some 12) (.mv (.t 0)),
  .call none (some 13) 23 [(.t 12)],
  .q none (some 11) (.mv (.t 13)),
  .q none (some 14) (.extract (.t 11) 0),
  .q none (some 15) (.extract (.t 11) 1),
  .q none (some 16) (.extract (.t 11) 2),
  .e none (some 7) (.alloc 28 [(.d (.int .i64 0)), (.d (.int .i64 0))]),
  .q none (some 6) (.mv (.t 14)),
  .e none none (.store 2 (.t 7) (.t 15)),
  .q none (some 8) (.mv (.t 16))])
 (.kp [1, 6, 8] (.seq (.seq (.ops [.q none (some 17) (.mv (.t 8)),
  .q none (some 18) (.bin .neq (.t 17) (.k (.d (.int .i64 0))))])
 (.kp [1, 6, 8, 18] (.cond (.t 18) (.seq (.ops [.q none (some 19) (.mv (.t 8)),
  .q none (some 4) (.mv (.k (.d (.bool false)))),
  .q none (some 5) (.mv (.t 19))])
 .ret) .skip)))
 (.kp [1, 6] (.seq (.ops [.q none (some 21) (.mv (.t 1)),
  .call none (some 22) 23 [(.t 21)],
  .q none (some 20) (.mv (.t 22)),
  .q none (some 23) (.extract (.t 20) 0),
  .q none (some 24) (.extract (.t 20) 1),
  .q none (some 25) (.extract (.t 20) 2),
  .e none (some 10) (.alloc 28 [(.d (.int .i64 0)), (.d (.int .i64 0))]),
  .q none (some 9) (.mv (.t 23)),
  .e none none (.store 2 (.t 10) (.t 24)),
  .q none (some 8) (.mv (.t 25))])
 (.kp [6, 8, 9] (.seq (.seq (.ops [.q none (some 26) (.mv (.t 8)),
  .q none (some 27) (.bin .neq (.t 26) (.k (.d (.int .i64 0))))])
 (.kp [6, 8, 9, 27] (.cond (.t 27) (.seq (.ops [.q none (some 28) (.mv (.t 8)),
  .q none (some 4) (.mv (.k (.d (.bool false)))),
  .q none (some 5) (.mv (.t 28))])
 .ret) .skip)))
 (.kp [6, 9] (.seq (.ops [.q none (some 29) (.mv (.t 6)),
  .q none (some 30) (.mv (.t 9)),
  .call none (some 31) 51 [(.t 29), (.t 30), (.f 52)],
  .q none (some 4) (.mv (.t 31)),
  .q none (some 5) (.mv (.k (.d (.int .i64 0))))])
 .ret)))))))))))⟩
theorem c21 : chkF Γz.P Γz.E 21 2 i21 = true := by kernel_rfl
noncomputable def i22 : FI := -- cosigner/cosignerref01.Same
 ⟨31, [.c 4 2 true],
 (.seq (.ops [.e none (some 4) (.alloc 51 [(.d (.bool false)), (.d (.int .i64 0))])])
 (.kp [0, 1, 4] (.seq (.ops [.q none (some 8) (.mv (.t 0)),
  .call none (some 9) 10 [(.t 8)],
  .e none (some 5) (.alloc 36 [.snil, .snil, (.d (.int .i64 0)), (.d (.int .i64 0)), (.d (.int .i64 0))]),
  .e none none (.store 5 (.t 5) (.t 9))])
 (.kp [1, 4, 5] (.seq (.seq (.ops [.q none (some 10) (.faddr 4 (.t 5)),
  .q none (some 11) (.load 1 false (.t 10)),
  .q none (some 12) (.bin .neq (.t 11) (.k (.d (.int .i64 0))))])
 (.kp [1, 4, 5, 12] (.cond (.t 12) (.seq (.ops [.q none (some 13) (.faddr 4 (.t 5)),
  .q none (some 14) (.load 1 false (.t 13)),
  .q none (some 15) (.build [(.bool false), (.int .i64 0)] [(1, 1, (.t 14))]),
  .e none none (.store 2 (.t 4) (.t 15))])
 .ret) .skip)))
 (.kp [1, 4, 5] (.seq (.ops [.q none (some 16) (.mv (.t 1)),
  .call none (some 17) 10 [(.t 16)],
  .e none (some 6) (.alloc 36 [.snil, .snil, (.d (.int .i64 0)), (.d (.int .i64 0)), (.d (.int .i64 0))]),
  .e none none (.store 5 (.t 6) (.t 17))])
 (.kp [4, 5, 6] (.seq (.seq (.ops [.q none (some 18) (.faddr 4 (.t 6)),
  .q none (some 19) (.load 1 false (.t 18)),
  .q none (some 20) (.bin .neq (.t 19) (.k (.d (.int .i64 0))))])
 (.kp [4, 5, 6, 20] (.cond (.t 20) (.seq (.ops [.q none (some 21) (.faddr 4 (.t 6)),
  .q none (some 22) (.load 1 false (.t 21)),
  .q none (some 23) (.build [(.bool false), (.int .i64 0)] [(1, 1, (.t 22))]),
  .e none none (.store 2 (.t 4) (.t 23))])
 .ret) .skip)))
 (.kp [4, 5, 6] (.seq (.ops [.q none (some 24) (.faddr 0 (.t 5)),
  .q none (some 25) (.load 1 false (.t 24)),
  .q none (some 26) (.faddr 0 (.t 6)),
  .q none (some 27) (.load 1 false (.t 26)),
  .call none (some 28) 53 [(.t 25), (.t 27)],
  .q none (some 7) (.mv (.t 28))])
 (.kp [4, 7] (.seq (.ops [.q none (some 29) (.mv (.t 7)),
  .q none (some 30) (.build [(.bool false), (.int .i64 0)] [(0, 1, (.t 29))]),
  .e none none (.store 2 (.t 4) (.t 30))])
 .ret)))))))))))))⟩
theorem c22 : chkF Γz.P Γz.E 22 2 i22 = true := by kernel_rfl
noncomputable def i23 : FI := -- cosigner/lex.Tokens
 ⟨30, [.t 2, .c 3 2 true, .t 4],
 (.seq (.ops [.q none (some 2) (.mv (.k .snil)),
  .e none (some 3) (.alloc 28 [(.d (.int .i64 0)), (.d (.int .i64 0))]),
  .q none (some 4) (.mv (.k (.d (.int .i64 0))))])
 (.kp [0, 3] (.seq (.seq (.ops [.q none (some 8) (.mv (.t 0)),
  .q none (some 9) (.slen (.t 8)),
  .q none (some 10) (.bin .gtr (.t 9) (.k (.d (.int .i64 20000))))])
 (.kp [0, 3, 10] (.cond (.t 10) (.seq (.ops [.q none (some 11) (.build [(.int .i64 0), (.int .i64 0)] []),
  .q none (some 2) (.mv (.k .snil)),
  .e none none (.store 2 (.t 3) (.t 11)),
  .q none (some 4) (.mv (.k (.d (.int .i64 3))))])
 .ret) .skip)))
 (.kp [0, 3] (.seq (.ops [.q none (some 13) (.mv (.t 0)),
  .call none (some 14) 32 [(.t 13), (.k (.d (.str [10])))],
  .call none (some 15) 31 [(.t 14), (.k (.d (.int .i64 1))), (.f 33)],
  .q none (some 12) (.mv (.t 15)),
  .q none (some 16) (.extract (.t 12) 0),
  .q none (some 17) (.extract (.t 12) 1),
  .q none (some 18) (.extract (.t 12) 2),
  .e none (some 6) (.alloc 28 [(.d (.int .i64 0)), (.d (.int .i64 0))]),
  .q none (some 5) (.mv (.t 16)),
  .e none none (.store 2 (.t 6) (.t 17)),
  .q none (some 7) (.mv (.t 18))])
 (.kp [3, 5, 6, 7] (.seq (.seq (.ops [.q none (some 19) (.mv (.t 7)),
  .q none (some 20) (.bin .eql (.t 19) (.k (.d (.int .i64 0)))),
  .q none (some 21) (.mv (.t 20)),
  .q (some (21, true)) (some 22) (.mv (.t 5)),
  .q (some (21, true)) (some 23) (.len (.t 22)),
  .q (some (21, true)) (some 24) (.bin .gtr (.t 23) (.k (.d (.int .i64 6000)))),
  .q none (some 25) (.pick (.t 21) (.t 24) (.k (.d (.bool false))))])
 (.kp [3, 5, 6, 7, 25] (.cond (.t 25) (.seq (.ops [.q none (some 26) (.build [(.int .i64 0), (.int .i64 0)] []),
  .q none (some 2) (.mv (.k .snil)),
  .e none none (.store 2 (.t 3) (.t 26)),
  .q none (some 4) (.mv (.k (.d (.int .i64 3))))])
 .ret) .skip)))
 (.kp [3, 5, 6, 7] (.seq (.draw (.q 0 (.q none (some 27) (.mv (.t 5))) (.q 1 (.q none (some 28) (.load 2 true (.t 6))) (.q 2 (.q none (some 29) (.mv (.t 7))) (.q 3 (.q none (some 2) (.mv (.t 27))) (.br (.cons 4 [0, 1, 3] (.e none none (.store 2 (.t 3) (.t 28))) (.q 5 (.q none (some 4) (.mv (.t 29))) .done) .nil)))))))
 .ret)))))))))⟩
theorem c23 : chkF Γz.P Γz.E 23 1 i23 = true := by kernel_rfl
noncomputable def i24 : FI := -- cosigner/lex.Offset
 ⟨60, [.t 4, .t 5],
 (.seq (.ops [.e none (some 3) (.box 28 (.t 1)),
  .q none (some 4) (.mv (.k (.d (.int .i64 0)))),
  .q none (some 5) (.mv (.k (.d (.int .i64 0))))])
 (.kp [0, 3] (.seq (.ops [.q none (some 10) (.mv (.t 0)),
  .call none (some 11) 32 [(.t 10), (.k (.d (.str [10])))],
  .q none (some 6) (.mv (.t 11))])
 (.kp [3, 6] (.seq (.seq (.draw (.q 0 (.q none (some 12) (.faddr 0 (.t 3))) (.q 1 (.q none (some 13) (.load 1 false (.t 12))) (.q 2 (.q none (some 14) (.bin .lss (.t 13) (.k (.d (.int .i64 1))))) (.q 3 (.q none (some 15) (.mv (.t 14))) (.q 4 (.q (some (15, false)) (some 16) (.faddr 0 (.t 3))) (.q 5 (.q (some (15, false)) (some 17) (.load 1 false (.t 16))) (.q 6 (.q (some (15, false)) (some 18) (.mv (.t 6))) (.q 7 (.q (some (15, false)) (some 19) (.len (.t 18))) (.q 8 (.q (some (15, false)) (some 20) (.bin .gtr (.t 17) (.t 19))) (.q 9 (.q none (some 21) (.pick (.t 15) (.k (.d (.bool true))) (.t 20))) (.q 10 (.q none (some 22) (.mv (.t 21))) (.q 11 (.q (some (22, false)) (some 23) (.faddr 1 (.t 3))) (.q 12 (.q (some (22, false)) (some 24) (.load 1 false (.t 23))) (.q 13 (.q (some (22, false)) (some 25) (.bin .lss (.t 24) (.k (.d (.int .i64 1))))) (.q 14 (.q none (some 26) (.pick (.t 22) (.k (.d (.bool true))) (.t 25))) (.q 15 (.q none (some 27) (.mv (.t 26))) (.q 16 (.q (some (27, false)) (some 28) (.faddr 1 (.t 3))) (.q 17 (.q (some (27, false)) (some 29) (.load 1 false (.t 28))) (.q 18 (.q (some (27, false)) (some 30) (.mv (.t 6))) (.q 19 (.q (some (27, false)) (some 31) (.faddr 0 (.t 3))) (.q 20 (.q (some (27, false)) (some 32) (.load 1 false (.t 31))) (.q 21 (.q (some (27, false)) (some 33) (.bin .sub (.t 32) (.k (.d (.int .i64 1))))) (.q 22 (.q (some (27, false)) (some 34) (.iaddr 1 (.t 30) (.t 33))) (.q 23 (.q (some (27, false)) (some 35) (.load 1 false (.t 34))) (.q 24 (.q (some (27, false)) (some 36) (.slen (.t 35))) (.q 25 (.q (some (27, false)) (some 37) (.bin .add (.t 36) (.k (.d (.int .i64 1))))) (.q 26 (.q (some (27, false)) (some 38) (.bin .gtr (.t 29) (.t 37))) (.q 27 (.q none (some 39) (.pick (.t 27) (.k (.d (.bool true))) (.t 38))) .done)))))))))))))))))))))))))))))
 (.kp [3, 6, 39] (.cond (.t 39) (.seq (.ops [.q none (some 4) (.mv (.k (.d (.int .i64 0)))),
  .q none (some 5) (.mv (.k (.d (.int .i64 1))))])
 .ret) .skip)))
 (.kp [3, 6] (.seq (.ops [.q none (some 40) (.faddr 1 (.t 3)),
  .q none (some 41) (.load 1 false (.t 40)),
  .q none (some 42) (.bin .sub (.t 41) (.k (.d (.int .i64 1)))),
  .q none (some 7) (.mv (.t 42))])
 (.kp [3, 6, 7] (.seq (.seq (.ops [.q none (some 43) (.mv (.t 6)),
  .q none (some 44) (.faddr 0 (.t 3)),
  .q none (some 45) (.load 1 false (.t 44)),
  .q none (some 46) (.bin .sub (.t 45) (.k (.d (.int .i64 1)))),
  .q none (some 47) (.lslice 1 (.t 43) none (some (.t 46))),
  .q none (some 48) (.len (.t 47)),
  .q none (some 49) (.mv (.k (.d (.int .i64 0))))])
 (.kp [7, 47, 48, 49] (.block 0 (.loop [7, 47, 48, 49] (.seq (.ops [.q none (some 50) (.bin .lss (.t 49) (.t 48))])
 (.kp [7, 47, 48, 49, 50] (.seq (.cond (.t 50) .skip (.exit 0))
 (.kp [7, 47, 48, 49] (.seq (.block 1 (.seq (.ops [.q none (some 51) (.iaddr 1 (.t 47) (.t 49)),
  .q none (some 52) (.load 1 false (.t 51)),
  .q none (some 9) (.mv (.t 52))])
 (.kp [7, 9, 47, 48, 49] (.ops [.q none (some 53) (.mv (.t 7)),
  .q none (some 54) (.mv (.t 9)),
  .q none (some 55) (.slen (.t 54)),
  .q none (some 56) (.bin .add (.t 55) (.k (.d (.int .i64 1)))),
  .q none (some 57) (.bin .add (.t 53) (.t 56)),
  .q none (some 7) (.mv (.t 57))]))))
 (.kp [7, 47, 48, 49] (.ops [.q none (some 58) (.bin .add (.t 49) (.k (.d (.int .i64 1)))),
  .q none (some 49) (.mv (.t 58))])))))))))))
 (.kp [7] (.seq (.ops [.q none (some 59) (.mv (.t 7)),
  .q none (some 4) (.mv (.t 59)),
  .q none (some 5) (.mv (.k (.d (.int .i64 0))))])
 .ret)))))))))))⟩
theorem c24 : chkF Γz.P Γz.E 24 2 i24 = true := by kernel_rfl
noncomputable def i25 : FI := -- cosigner/cosignerlaw01.at
 ⟨8, [.c 4 2 true],
 (.seq (.ops [.e none (some 4) (.alloc 28 [(.d (.int .i64 0)), (.d (.int .i64 0))])])
 (.kp [0, 1, 4] (.seq (.ops [.q none (some 5) (.mv (.t 0)),
  .q none (some 6) (.mv (.t 1)),
  .q none (some 7) (.build [(.int .i64 0), (.int .i64 0)] [(0, 1, (.t 5)), (1, 1, (.t 6))]),
  .e none none (.store 2 (.t 4) (.t 7))])
 .ret)))⟩
theorem c25 : chkF Γz.P Γz.E 25 2 i25 = true := by kernel_rfl
noncomputable def i26 : FI := -- cosigner/lex.Join
 ⟨39, [.t 2, .t 3, .t 4],
 (.seq (.ops [.q none (some 2) (.mv (.k (.d (.str [])))),
  .q none (some 3) (.mv (.k .snil)),
  .q none (some 4) (.mv (.k (.d (.int .i64 0))))])
 (.kp [0] (.seq (.seq (.ops [.q none (some 10) (.mv (.t 0)),
  .q none (some 11) (.len (.t 10)),
  .q none (some 12) (.bin .gtr (.t 11) (.k (.d (.int .i64 24))))])
 (.kp [0, 12] (.cond (.t 12) (.seq (.ops [.q none (some 2) (.mv (.k (.d (.str [])))),
  .q none (some 3) (.mv (.k .snil)),
  .q none (some 4) (.mv (.k (.d (.int .i64 3))))])
 .ret) .skip)))
 (.kp [0] (.seq (.ops [.e none (some 5) (.alloc 93 [.nilp, .snil]),
  .ownb 5 1 (5, 1)])
 (.kp [0, 5] (.seq (.ops [.q none (some 6) (.mv (.k .snil)),
  .own 6 (3, 1)])
 (.kp [0, 5, 6] (.seq (.ops [.q none (some 7) (.mv (.k (.d (.int .i64 1))))])
 (.kp [0, 5, 6, 7] (.seq (.seq (.ops [.q none (some 13) (.mv (.t 0)),
  .q none (some 14) (.len (.t 13)),
  .q none (some 15) (.mv (.k (.d (.int .i64 0))))])
 (.kp [5, 6, 7, 13, 14, 15] (.block 0 (.loop [5, 6, 7, 13, 14, 15] (.seq (.ops [.q none (some 16) (.bin .lss (.t 15) (.t 14))])
 (.kp [5, 6, 7, 13, 14, 15, 16] (.seq (.cond (.t 16) .skip (.exit 0))
 (.kp [5, 6, 7, 13, 14, 15] (.seq (.block 1 (.seq (.ops [.q none (some 17) (.iaddr 1 (.t 13) (.t 15)),
  .q none (some 18) (.load 1 false (.t 17)),
  .q none (some 9) (.mv (.t 18))])
 (.kp [5, 6, 7, 9, 13, 14, 15] (.seq (.seq (.ops [.q none (some 19) (.mv (.t 9)),
  .q none (some 20) (.slen (.t 19)),
  .q none (some 21) (.bin .gtr (.t 20) (.k (.d (.int .i64 20000))))])
 (.kp [5, 6, 7, 9, 13, 14, 15, 21] (.cond (.t 21) (.seq (.ops [.q none (some 2) (.mv (.k (.d (.str [])))),
  .q none (some 3) (.mv (.k .snil)),
  .q none (some 4) (.mv (.k (.d (.int .i64 3))))])
 .ret) .skip)))
 (.kp [5, 6, 7, 9, 13, 14, 15] (.seq (.ops [.q none (some 22) (.mv (.t 6)),
  .q none (some 23) (.mv (.t 7)),
  .e none (some 24) (.bslice 1 [(.t 23)]),
  .e none (some 25) (.append 3 1 false (.t 22) (.t 24)),
  .q none (some 6) (.mv (.t 25))])
 (.kp [5, 6, 7, 9, 13, 14, 15] (.seq (.ops [.q none (some 26) (.mv (.t 7)),
  .q none (some 27) (.mv (.t 9)),
  .call none (some 28) 54 [(.t 27), (.k (.d (.str [10])))],
  .q none (some 29) (.bin .add (.k (.d (.int .i64 1))) (.t 28)),
  .q none (some 30) (.bin .add (.t 26) (.t 29)),
  .q none (some 7) (.mv (.t 30))])
 (.kp [5, 6, 7, 9, 13, 14, 15] (.ops [.q none (some 31) (.mv (.t 9)),
  .q none (some 32) (.bin .add (.t 31) (.k (.d (.str [10])))),
  .call none (some 33) 55 [(.t 5), (.t 32)]]))))))))))
 (.kp [5, 6, 7, 13, 14, 15] (.ops [.q none (some 34) (.bin .add (.t 15) (.k (.d (.int .i64 1)))),
  .q none (some 15) (.mv (.t 34))])))))))))))
 (.kp [5, 6] (.seq (.seq (.ops [.call none (some 35) 56 [(.t 5)],
  .q none (some 36) (.bin .gtr (.t 35) (.k (.d (.int .i64 20000))))])
 (.kp [5, 6, 36] (.cond (.t 36) (.seq (.ops [.q none (some 2) (.mv (.k (.d (.str [])))),
  .q none (some 3) (.mv (.k .snil)),
  .q none (some 4) (.mv (.k (.d (.int .i64 3))))])
 .ret) .skip)))
 (.kp [5, 6] (.seq (.ops [.call none (some 37) 57 [(.t 5)],
  .q none (some 38) (.mv (.t 6)),
  .q none (some 2) (.mv (.t 37)),
  .q none (some 3) (.mv (.t 38)),
  .q none (some 4) (.mv (.k (.d (.int .i64 0))))])
 .ret)))))))))))))))⟩
theorem c26 : chkF Γz.P Γz.E 26 1 i26 = true := by kernel_rfl
noncomputable def i27 : FI := -- cosigner/lex.Keywords
 ⟨2, [.t 0],
 (.seq (.ops [.q none (some 0) (.mv (.k .snil))])
 (.kp [] (.seq (.ops [.call none (some 1) 58 [(.k (.d (.str [97, 110, 100, 32, 97, 115, 32, 97, 116, 116, 97, 99, 104, 101, 100, 32, 99, 104, 101, 99, 107, 32, 99, 108, 97, 115, 115, 32, 99, 114, 101, 97, 116, 101, 32, 100, 101, 102, 101, 114, 114, 101, 100, 32, 100, 101, 116, 97, 99, 104, 97, 98, 108, 101, 32, 100, 111, 32, 101, 108, 115, 101, 32, 101, 110, 100, 32, 101, 110, 115, 117, 114, 101, 32, 102, 101, 97, 116, 117, 114, 101, 32, 102, 114, 111, 109, 32, 105, 102, 32, 105, 109, 112, 108, 105, 101, 115, 32, 105, 110, 104, 101, 114, 105, 116, 32, 105, 110, 118, 97, 114, 105, 97, 110, 116, 32, 108, 111, 99, 97, 108, 32, 108, 111, 111, 112, 32, 110, 111, 116, 32, 111, 108, 100, 32, 111, 114, 32, 112, 117, 116, 32, 114, 97, 105, 115, 101, 32, 114, 101, 100, 101, 102, 105, 110, 101, 32, 114, 101, 110, 97, 109, 101, 32, 114, 101, 113, 117, 105, 114, 101, 32, 114, 101, 115, 99, 117, 101, 32, 114, 101, 116, 114, 121, 32, 115, 101, 108, 101, 99, 116, 32, 115, 101, 112, 97, 114, 97, 116, 101, 32, 116, 104, 101, 110, 32, 117, 110, 100, 101, 102, 105, 110, 101, 32, 117, 110, 116, 105, 108, 32, 118, 97, 114, 105, 97, 110, 116, 32, 119, 104, 101, 110])))],
  .q none (some 0) (.mv (.t 1))])
 .ret)))⟩
theorem c27 : chkF Γz.P Γz.E 27 0 i27 = true := by kernel_rfl
noncomputable def i28 : FI := -- cosigner/lex.Edit
 ⟨48, [.t 4, .t 5],
 (.seq (.ops [.e none (some 3) (.box 24 (.t 1)),
  .q none (some 4) (.mv (.k (.d (.str [])))),
  .q none (some 5) (.mv (.k (.d (.int .i64 0))))])
 (.kp [0, 3] (.seq (.seq (.ops [.q none (some 6) (.faddr 0 (.t 3)),
  .q none (some 7) (.load 1 false (.t 6)),
  .q none (some 8) (.bin .lss (.t 7) (.k (.d (.int .i64 0)))),
  .q none (some 9) (.mv (.t 8)),
  .q (some (9, false)) (some 10) (.faddr 0 (.t 3)),
  .q (some (9, false)) (some 11) (.load 1 false (.t 10)),
  .q (some (9, false)) (some 12) (.faddr 1 (.t 3)),
  .q (some (9, false)) (some 13) (.load 1 false (.t 12)),
  .q (some (9, false)) (some 14) (.bin .gtr (.t 11) (.t 13)),
  .q none (some 15) (.pick (.t 9) (.k (.d (.bool true))) (.t 14)),
  .q none (some 16) (.mv (.t 15)),
  .q (some (16, false)) (some 17) (.faddr 1 (.t 3)),
  .q (some (16, false)) (some 18) (.load 1 false (.t 17)),
  .q (some (16, false)) (some 19) (.mv (.t 0)),
  .q (some (16, false)) (some 20) (.slen (.t 19)),
  .q (some (16, false)) (some 21) (.bin .gtr (.t 18) (.t 20)),
  .q none (some 22) (.pick (.t 16) (.k (.d (.bool true))) (.t 21))])
 (.kp [0, 3, 22] (.cond (.t 22) (.seq (.ops [.q none (some 4) (.mv (.k (.d (.str [])))),
  .q none (some 5) (.mv (.k (.d (.int .i64 1))))])
 .ret) .skip)))
 (.kp [0, 3] (.seq (.seq (.ops [.q none (some 23) (.mv (.t 0)),
  .q none (some 24) (.slen (.t 23)),
  .q none (some 25) (.faddr 1 (.t 3)),
  .q none (some 26) (.load 1 false (.t 25)),
  .q none (some 27) (.faddr 0 (.t 3)),
  .q none (some 28) (.load 1 false (.t 27)),
  .q none (some 29) (.bin .sub (.t 26) (.t 28)),
  .q none (some 30) (.bin .sub (.t 24) (.t 29)),
  .q none (some 31) (.faddr 2 (.t 3)),
  .q none (some 32) (.load 1 false (.t 31)),
  .q none (some 33) (.slen (.t 32)),
  .q none (some 34) (.bin .add (.t 30) (.t 33)),
  .q none (some 35) (.bin .gtr (.t 34) (.k (.d (.int .i64 20000))))])
 (.kp [0, 3, 35] (.cond (.t 35) (.seq (.ops [.q none (some 4) (.mv (.k (.d (.str [])))),
  .q none (some 5) (.mv (.k (.d (.int .i64 3))))])
 .ret) .skip)))
 (.kp [0, 3] (.seq (.draw (.q 0 (.q none (some 36) (.mv (.t 0))) (.q 1 (.q none (some 37) (.faddr 0 (.t 3))) (.q 2 (.q none (some 38) (.load 1 false (.t 37))) (.q 3 (.q none (some 39) (.sslice (.t 36) none (some (.t 38)))) (.q 4 (.q none (some 40) (.faddr 2 (.t 3))) (.q 5 (.q none (some 41) (.load 1 false (.t 40))) (.q 6 (.q none (some 42) (.bin .add (.t 39) (.t 41))) (.q 7 (.q none (some 43) (.mv (.t 0))) (.q 8 (.q none (some 44) (.faddr 1 (.t 3))) (.q 9 (.q none (some 45) (.load 1 false (.t 44))) (.q 10 (.q none (some 46) (.sslice (.t 43) (some (.t 45)) none)) (.q 11 (.q none (some 47) (.bin .add (.t 42) (.t 46))) (.q 12 (.q none (some 4) (.mv (.t 47))) (.q 13 (.q none (some 5) (.mv (.k (.d (.int .i64 0))))) .done)))))))))))))))
 .ret)))))))⟩
theorem c28 : chkF Γz.P Γz.E 28 2 i28 = true := by kernel_rfl
noncomputable def i29 : FI := -- cosigner/lex.compare
 ⟨17, [.t 4],
 (.seq (.ops [.e none (some 2) (.box 28 (.t 0)),
  .e none (some 3) (.box 28 (.t 1)),
  .q none (some 4) (.mv (.k (.d (.int .i64 0))))])
 (.kp [2, 3] (.seq (.draw (.q 0 (.q none (some 5) (.faddr 0 (.t 2))) (.q 1 (.q none (some 6) (.load 1 false (.t 5))) (.q 2 (.q none (some 7) (.faddr 0 (.t 3))) (.q 3 (.q none (some 8) (.load 1 false (.t 7))) (.q 5 (.q none (some 10) (.faddr 1 (.t 2))) (.q 6 (.q none (some 11) (.load 1 false (.t 10))) (.q 7 (.q none (some 12) (.faddr 1 (.t 3))) (.q 8 (.q none (some 13) (.load 1 false (.t 12))) (.br (.cons 4 [1, 3] (.call none (some 9) 60 [(.t 6), (.t 8)]) (.br (.cons 9 [4, 6, 8] (.call none (some 14) 60 [(.t 11), (.t 13)]) (.br (.cons 10 [4, 9] (.e none (some 15) (.bslice 1 [(.t 9), (.t 14)])) (.br (.cons 11 [9, 10] (.call none (some 16) 59 [(.t 15)]) (.q 12 (.q none (some 4) (.mv (.t 16))) .done) .nil)) .nil)) .nil)) .nil)))))))))))
 .ret)))⟩
theorem c29 : chkF Γz.P Γz.E 29 2 i29 = true := by kernel_rfl
noncomputable def i30 : FI := -- cosigner/lex.PlaceOf
 ⟨27, [.c 4 2 true, .t 5],
 (.seq (.ops [.e none (some 4) (.alloc 28 [(.d (.int .i64 0)), (.d (.int .i64 0))]),
  .q none (some 5) (.mv (.k (.d (.int .i64 0))))])
 (.kp [0, 1, 4] (.seq (.seq (.ops [.q none (some 7) (.mv (.t 1)),
  .q none (some 8) (.bin .lss (.t 7) (.k (.d (.int .i64 0)))),
  .q none (some 9) (.mv (.t 8)),
  .q (some (9, false)) (some 10) (.mv (.t 1)),
  .q (some (9, false)) (some 11) (.mv (.t 0)),
  .q (some (9, false)) (some 12) (.slen (.t 11)),
  .q (some (9, false)) (some 13) (.bin .gtr (.t 10) (.t 12)),
  .q none (some 14) (.pick (.t 9) (.k (.d (.bool true))) (.t 13))])
 (.kp [0, 1, 4, 14] (.cond (.t 14) (.seq (.ops [.q none (some 15) (.build [(.int .i64 0), (.int .i64 0)] []),
  .e none none (.store 2 (.t 4) (.t 15)),
  .q none (some 5) (.mv (.k (.d (.int .i64 1))))])
 .ret) .skip)))
 (.kp [0, 1, 4] (.seq (.ops [.q none (some 16) (.mv (.t 0)),
  .q none (some 17) (.mv (.t 1)),
  .q none (some 18) (.sslice (.t 16) none (some (.t 17))),
  .q none (some 6) (.mv (.t 18))])
 (.kp [1, 4, 6] (.seq (.ops [.q none (some 19) (.mv (.t 6)),
  .call none (some 20) 54 [(.t 19), (.k (.d (.str [10])))],
  .q none (some 21) (.bin .add (.k (.d (.int .i64 1))) (.t 20)),
  .q none (some 22) (.mv (.t 1)),
  .q none (some 23) (.mv (.t 6)),
  .call none (some 24) 61 [(.t 23), (.k (.d (.int .u8 10)))],
  .q none (some 25) (.bin .sub (.t 22) (.t 24)),
  .q none (some 26) (.build [(.int .i64 0), (.int .i64 0)] [(0, 1, (.t 21)), (1, 1, (.t 25))]),
  .e none none (.store 2 (.t 4) (.t 26)),
  .q none (some 5) (.mv (.k (.d (.int .i64 0))))])
 .ret)))))))⟩
theorem c30 : chkF Γz.P Γz.E 30 2 i30 = true := by kernel_rfl
noncomputable def i31 : FI := -- cosigner/lex.read
 ⟨53, [.c 6 1 false, .c 7 2 true, .c 8 1 false],
 (.seq (.ops [.e none (some 4) (.box 3 (.t 1)),
  .e none (some 5) (.box 74 (.t 2)),
  .e none (some 6) (.alloc 22 [.snil]),
  .e none (some 7) (.alloc 28 [(.d (.int .i64 0)), (.d (.int .i64 0))]),
  .e none (some 8) (.alloc 29 [(.d (.int .i64 0))])])
 (.kp [0, 4, 5, 6, 7, 8] (.seq (.ops [.e none (some 9) (.alloc 22 [.snil]),
  .ownb 9 0 (49, 4)])
 (.kp [0, 4, 5, 6, 7, 8, 9] (.seq (.seq (.ops [.q none (some 13) (.mv (.t 0)),
  .q none (some 14) (.len (.t 13)),
  .q none (some 15) (.mv (.k (.d (.int .i64 0))))])
 (.kp [4, 5, 6, 7, 8, 9, 13, 14, 15] (.block 0 (.loop [4, 5, 6, 7, 8, 9, 13, 14, 15] (.seq (.ops [.q none (some 16) (.bin .lss (.t 15) (.t 14))])
 (.kp [4, 5, 6, 7, 8, 9, 13, 14, 15, 16] (.seq (.cond (.t 16) .skip (.exit 0))
 (.kp [4, 5, 6, 7, 8, 9, 13, 14, 15] (.seq (.block 1 (.seq (.ops [.q none (some 17) (.mv (.t 15)),
  .q none (some 18) (.iaddr 1 (.t 13) (.t 15)),
  .q none (some 19) (.load 1 false (.t 18)),
  .e none (some 10) (.alloc 3 [(.d (.int .i64 0))]),
  .e none none (.store 1 (.t 10) (.t 17)),
  .q none (some 11) (.mv (.t 19))])
 (.kp [4, 5, 6, 7, 8, 9, 10, 11, 13, 14, 15] (.seq (.ops [.q none (some 20) (.mv (.t 11)),
  .call none (some 21) 62 [(.t 20)]])
 (.kp [4, 5, 6, 7, 8, 9, 10, 13, 14, 15, 21] (.block 2 (.rf (.t 21) 22 (.ops [.e none (some 12) (.alloc 108 [(.d (.int .i64 0)), (.d (.str [])), (.d (.int .i64 0)), (.d (.int .i64 0)), (.d (.int .i64 0)), (.d (.int .i64 0))]),
  .e none none (.store 6 (.t 12) (.t 22))])
 (.kp [4, 5, 6, 7, 8, 9, 10, 12] (.block 3 (.seq (.ops [.q none (some 23) (.load 1 false (.t 4)),
  .q none (some 24) (.load 1 false (.t 10)),
  .q none (some 25) (.bin .add (.t 23) (.t 24)),
  .q none (some 26) (.faddr 4 (.t 12)),
  .q none (some 27) (.load 1 false (.t 26)),
  .q none (some 28) (.bin .add (.k (.d (.int .i64 1))) (.t 27)),
  .q none (some 29) (.build [(.int .i64 0), (.int .i64 0)] [(0, 1, (.t 25)), (1, 1, (.t 28))]),
  .q none (some 30) (.faddr 0 (.t 12)),
  .q none (some 31) (.faddr 2 (.t 30)),
  .e none none (.store 2 (.t 31) (.t 29))])
 (.kp [5, 6, 7, 8, 9, 12] (.seq (.seq (.ops [.q none (some 32) (.faddr 5 (.t 12)),
  .q none (some 33) (.load 1 false (.t 32)),
  .q none (some 34) (.bin .neq (.t 33) (.k (.d (.int .i64 0))))])
 (.kp [5, 6, 7, 8, 9, 12, 34] (.cond (.t 34) (.seq (.draw (.q 0 (.q none (some 35) (.faddr 0 (.t 12))) (.q 1 (.q none (some 36) (.faddr 2 (.t 35))) (.q 2 (.q none (some 37) (.load 2 true (.t 36))) (.q 3 (.q none (some 38) (.faddr 5 (.t 12))) (.q 4 (.q none (some 39) (.load 1 false (.t 38))) (.br (.cons 5 [] (.e none none (.store 1 (.t 6) (.k .snil))) (.br (.cons 6 [0, 1, 2, 5] (.e none none (.store 2 (.t 7) (.t 37))) (.br (.cons 7 [0, 1, 2, 3, 4, 5, 6] (.e none none (.store 1 (.t 8) (.t 39))) .done .nil)) .nil)) .nil))))))))
 .ret) .skip)))
 (.kp [5, 9, 12] (.seq (.ops [.q none (some 40) (.load 1 false (.t 5)),
  .q none (some 41) (.faddr 0 (.t 12)),
  .q none (some 42) (.faddr 0 (.t 41)),
  .q none (some 43) (.load 1 false (.t 42)),
  .callv none (some 44) (.t 40) [(.t 43)]])
 (.kp [9, 12, 44] (.cond (.t 44) (.ops [.q none (some 45) (.load 1 false (.t 9)),
  .q none (some 46) (.faddr 0 (.t 12)),
  .q none (some 47) (.load 4 true (.t 46)),
  .e none (some 48) (.bslice 4 [(.t 47)]),
  .e none (some 49) (.append 49 4 false (.t 45) (.t 48)),
  .e none none (.store 1 (.t 9) (.t 49))]) .skip))))))))))))))))
 (.kp [4, 5, 6, 7, 8, 9, 13, 14, 15] (.ops [.q none (some 50) (.bin .add (.t 15) (.k (.d (.int .i64 1)))),
  .q none (some 15) (.mv (.t 50))])))))))))))
 (.kp [6, 7, 8, 9] (.seq (.ops [.q none (some 51) (.load 1 false (.t 9)),
  .q none (some 52) (.build [(.int .i64 0), (.int .i64 0)] []),
  .e none none (.store 1 (.t 6) (.t 51)),
  .e none none (.store 2 (.t 7) (.t 52)),
  .e none none (.store 1 (.t 8) (.k (.d (.int .i64 0))))])
 .ret)))))))⟩
theorem c31 : chkF Γz.P Γz.E 31 3 i31 = true := by kernel_rfl
noncomputable def i33 : FI := -- cosigner/lex.token
 ⟨5, [.t 2],
 (.seq (.ops [.q none (some 2) (.mv (.k (.d (.bool false))))])
 (.kp [0] (.seq (.ops [.q none (some 3) (.mv (.t 0)),
  .q none (some 4) (.bin .neq (.t 3) (.k (.d (.int .i64 6)))),
  .q none (some 2) (.mv (.t 4))])
 .ret)))⟩
theorem c33 : chkF Γz.P Γz.E 33 1 i33 = true := by kernel_rfl
noncomputable def i34 : FI := -- cosigner/lex.joined[cosigner/api.Token]
 ⟨17, [.t 2],
 (.seq (.ops [.q none (some 2) (.mv (.k .snil))])
 (.kp [0] (.seq (.ops [.q none (some 3) (.mv (.k .snil)),
  .own 3 (49, 4)])
 (.kp [0, 3] (.seq (.seq (.ops [.q none (some 6) (.mv (.t 0)),
  .q none (some 7) (.len (.t 6)),
  .q none (some 8) (.mv (.k (.d (.int .i64 0))))])
 (.kp [3, 6, 7, 8] (.block 0 (.loop [3, 6, 7, 8] (.seq (.ops [.q none (some 9) (.bin .lss (.t 8) (.t 7))])
 (.kp [3, 6, 7, 8, 9] (.seq (.cond (.t 9) .skip (.exit 0))
 (.kp [3, 6, 7, 8] (.seq (.block 1 (.seq (.ops [.q none (some 10) (.iaddr 1 (.t 6) (.t 8)),
  .q none (some 11) (.load 1 false (.t 10)),
  .q none (some 5) (.mv (.t 11))])
 (.kp [3, 5, 6, 7, 8] (.ops [.q none (some 12) (.mv (.t 3)),
  .q none (some 13) (.mv (.t 5)),
  .e none (some 14) (.append 49 4 false (.t 12) (.t 13)),
  .q none (some 3) (.mv (.t 14))]))))
 (.kp [3, 6, 7, 8] (.ops [.q none (some 15) (.bin .add (.t 8) (.k (.d (.int .i64 1)))),
  .q none (some 8) (.mv (.t 15))])))))))))))
 (.kp [3] (.seq (.ops [.q none (some 16) (.mv (.t 3)),
  .q none (some 2) (.mv (.t 16))])
 .ret)))))))⟩
theorem c34 : chkF Γz.P Γz.E 34 1 i34 = true := by kernel_rfl
noncomputable def i35 : FI := -- cosigner/cosignerref01.Edit
 ⟨50, [.c 4 2 true],
 (.seq (.ops [.e none (some 3) (.box 24 (.t 1)),
  .e none (some 4) (.alloc 44 [(.d (.str [])), (.d (.int .i64 0))])])
 (.kp [0, 3, 4] (.seq (.seq (.ops [.q none (some 5) (.faddr 0 (.t 3)),
  .q none (some 6) (.load 1 false (.t 5)),
  .q none (some 7) (.bin .lss (.t 6) (.k (.d (.int .i64 0)))),
  .q none (some 8) (.mv (.t 7)),
  .q (some (8, false)) (some 9) (.faddr 0 (.t 3)),
  .q (some (8, false)) (some 10) (.load 1 false (.t 9)),
  .q (some (8, false)) (some 11) (.faddr 1 (.t 3)),
  .q (some (8, false)) (some 12) (.load 1 false (.t 11)),
  .q (some (8, false)) (some 13) (.bin .gtr (.t 10) (.t 12)),
  .q none (some 14) (.pick (.t 8) (.k (.d (.bool true))) (.t 13)),
  .q none (some 15) (.mv (.t 14)),
  .q (some (15, false)) (some 16) (.faddr 1 (.t 3)),
  .q (some (15, false)) (some 17) (.load 1 false (.t 16)),
  .q (some (15, false)) (some 18) (.mv (.t 0)),
  .q (some (15, false)) (some 19) (.slen (.t 18)),
  .q (some (15, false)) (some 20) (.bin .gtr (.t 17) (.t 19)),
  .q none (some 21) (.pick (.t 15) (.k (.d (.bool true))) (.t 20))])
 (.kp [0, 3, 4, 21] (.cond (.t 21) (.seq (.ops [.q none (some 22) (.build [(.str []), (.int .i64 0)] [(1, 1, (.k (.d (.int .i64 1))))]),
  .e none none (.store 2 (.t 4) (.t 22))])
 .ret) .skip)))
 (.kp [0, 3, 4] (.seq (.seq (.ops [.q none (some 23) (.mv (.t 0)),
  .q none (some 24) (.slen (.t 23)),
  .q none (some 25) (.faddr 1 (.t 3)),
  .q none (some 26) (.load 1 false (.t 25)),
  .q none (some 27) (.faddr 0 (.t 3)),
  .q none (some 28) (.load 1 false (.t 27)),
  .q none (some 29) (.bin .sub (.t 26) (.t 28)),
  .q none (some 30) (.bin .sub (.t 24) (.t 29)),
  .q none (some 31) (.faddr 2 (.t 3)),
  .q none (some 32) (.load 1 false (.t 31)),
  .q none (some 33) (.slen (.t 32)),
  .q none (some 34) (.bin .add (.t 30) (.t 33)),
  .q none (some 35) (.bin .gtr (.t 34) (.k (.d (.int .i64 20000))))])
 (.kp [0, 3, 4, 35] (.cond (.t 35) (.seq (.ops [.q none (some 36) (.build [(.str []), (.int .i64 0)] [(1, 1, (.k (.d (.int .i64 3))))]),
  .e none none (.store 2 (.t 4) (.t 36))])
 .ret) .skip)))
 (.kp [0, 3, 4] (.seq (.draw (.q 0 (.q none (some 37) (.mv (.t 0))) (.q 1 (.q none (some 38) (.faddr 0 (.t 3))) (.q 2 (.q none (some 39) (.load 1 false (.t 38))) (.q 3 (.q none (some 40) (.sslice (.t 37) none (some (.t 39)))) (.q 4 (.q none (some 41) (.faddr 2 (.t 3))) (.q 5 (.q none (some 42) (.load 1 false (.t 41))) (.q 6 (.q none (some 43) (.bin .add (.t 40) (.t 42))) (.q 7 (.q none (some 44) (.mv (.t 0))) (.q 8 (.q none (some 45) (.faddr 1 (.t 3))) (.q 9 (.q none (some 46) (.load 1 false (.t 45))) (.q 10 (.q none (some 47) (.sslice (.t 44) (some (.t 46)) none)) (.q 11 (.q none (some 48) (.bin .add (.t 43) (.t 47))) (.q 12 (.q none (some 49) (.build [(.str []), (.int .i64 0)] [(0, 1, (.t 48))])) (.br (.cons 13 [0, 1, 2, 3, 4, 5, 6, 7, 8, 9, 10, 11, 12] (.e none none (.store 2 (.t 4) (.t 49))) .done .nil))))))))))))))))
 .ret)))))))⟩
theorem c35 : chkF Γz.P Γz.E 35 2 i35 = true := by kernel_rfl
noncomputable def i37 : FI := -- cosigner/cosignerref01.PlaceAt
 ⟨26, [.c 4 2 true],
 (.seq (.ops [.e none (some 4) (.alloc 28 [(.d (.int .i64 0)), (.d (.int .i64 0))])])
 (.kp [0, 1, 4] (.seq (.ops [.q none (some 7) (.build [(.int .i64 0), (.int .i64 0)] [(0, 1, (.k (.d (.int .i64 1)))), (1, 1, (.k (.d (.int .i64 1))))]),
  .e none (some 5) (.alloc 28 [(.d (.int .i64 0)), (.d (.int .i64 0))]),
  .e none none (.store 2 (.t 5) (.t 7))])
 (.kp [0, 1, 4, 5] (.seq (.seq (.ops [.q none (some 6) (.mv (.k (.d (.int .i64 0))))])
 (.kp [0, 1, 4, 5, 6] (.block 0 (.loop [0, 1, 4, 5, 6] (.seq (.seq (.ops [.q none (some 8) (.mv (.t 6)),
  .q none (some 9) (.mv (.t 1)),
  .q none (some 10) (.bin .lss (.t 8) (.t 9))])
 (.kp [0, 1, 4, 5, 6, 10] (.cond (.t 10) .skip (.exit 0))))
 (.kp [0, 1, 4, 5, 6] (.seq (.block 1 (.seq (.ops [.q none (some 13) (.faddr 1 (.t 5)),
  .q none (some 14) (.load 1 false (.t 13)),
  .q none (some 15) (.bin .add (.t 14) (.k (.d (.int .i64 1)))),
  .q none (some 16) (.faddr 1 (.t 5)),
  .e none none (.store 1 (.t 16) (.t 15))])
 (.kp [0, 1, 4, 5, 6] (.seq (.ops [.q none (some 17) (.mv (.t 0)),
  .q none (some 18) (.mv (.t 6)),
  .q none (some 19) (.sindex (.t 17) (.t 18)),
  .q none (some 20) (.bin .eql (.t 19) (.k (.d (.int .u8 10))))])
 (.kp [0, 1, 4, 5, 6, 20] (.cond (.t 20) (.ops [.q none (some 21) (.faddr 0 (.t 5)),
  .q none (some 22) (.load 1 false (.t 21)),
  .q none (some 23) (.bin .add (.t 22) (.k (.d (.int .i64 1)))),
  .q none (some 24) (.build [(.int .i64 0), (.int .i64 0)] [(0, 1, (.t 23)), (1, 1, (.k (.d (.int .i64 1))))]),
  .e none none (.store 2 (.t 5) (.t 24))]) .skip))))))
 (.kp [0, 1, 4, 5, 6] (.ops [.q none (some 11) (.mv (.t 6)),
  .q none (some 12) (.bin .add (.t 11) (.k (.d (.int .i64 1)))),
  .q none (some 6) (.mv (.t 12))])))))))))
 (.kp [4, 5] (.seq (.ops [.q none (some 25) (.load 2 true (.t 5)),
  .e none none (.store 2 (.t 4) (.t 25))])
 .ret)))))))⟩
theorem c37 : chkF Γz.P Γz.E 37 2 i37 = true := by kernel_rfl
noncomputable def i38 : FI := -- cosigner/cosignerref01.lines
 ⟨31, [.t 2],
 (.seq (.ops [.q none (some 2) (.mv (.k .snil))])
 (.kp [0] (.seq (.ops [.q none (some 3) (.mv (.k .snil)),
  .own 3 (9, 1)])
 (.kp [0, 3] (.seq (.ops [.q none (some 4) (.mv (.k (.d (.int .i64 0))))])
 (.kp [0, 3, 4] (.seq (.seq (.ops [.q none (some 5) (.mv (.k (.d (.int .i64 0))))])
 (.kp [0, 3, 4, 5] (.block 0 (.loop [0, 3, 4, 5] (.seq (.seq (.ops [.q none (some 6) (.mv (.t 5)),
  .q none (some 7) (.mv (.t 0)),
  .q none (some 8) (.slen (.t 7)),
  .q none (some 9) (.bin .lss (.t 6) (.t 8))])
 (.kp [0, 3, 4, 5, 9] (.cond (.t 9) .skip (.exit 0))))
 (.kp [0, 3, 4, 5] (.seq (.block 1 (.seq (.ops [.q none (some 12) (.mv (.t 0)),
  .q none (some 13) (.mv (.t 5)),
  .q none (some 14) (.sindex (.t 12) (.t 13)),
  .q none (some 15) (.bin .eql (.t 14) (.k (.d (.int .u8 10))))])
 (.kp [0, 3, 4, 5, 15] (.cond (.t 15) (.seq (.ops [.q none (some 16) (.mv (.t 3)),
  .q none (some 17) (.mv (.t 0)),
  .q none (some 18) (.mv (.t 4)),
  .q none (some 19) (.mv (.t 5)),
  .q none (some 20) (.sslice (.t 17) (some (.t 18)) (some (.t 19))),
  .e none (some 21) (.bslice 1 [(.t 20)]),
  .e none (some 22) (.append 9 1 false (.t 16) (.t 21)),
  .q none (some 3) (.mv (.t 22))])
 (.kp [0, 3, 5] (.ops [.q none (some 23) (.mv (.t 5)),
  .q none (some 24) (.bin .add (.t 23) (.k (.d (.int .i64 1)))),
  .q none (some 4) (.mv (.t 24))]))) .skip))))
 (.kp [0, 3, 4, 5] (.ops [.q none (some 10) (.mv (.t 5)),
  .q none (some 11) (.bin .add (.t 10) (.k (.d (.int .i64 1)))),
  .q none (some 5) (.mv (.t 11))])))))))))
 (.kp [0, 3, 4] (.seq (.ops [.q none (some 25) (.mv (.t 3)),
  .q none (some 26) (.mv (.t 0)),
  .q none (some 27) (.mv (.t 4)),
  .q none (some 28) (.sslice (.t 26) (some (.t 27)) none),
  .e none (some 29) (.bslice 1 [(.t 28)]),
  .e none (some 30) (.append 9 1 false (.t 25) (.t 29)),
  .q none (some 2) (.mv (.t 30))])
 .ret)))))))))⟩
theorem c38 : chkF Γz.P Γz.E 38 1 i38 = true := by kernel_rfl
noncomputable def i39 : FI := -- cosigner/cosignerref01.read
 ⟨131, [.c 2 5 true],
 (.seq (.ops [.e none (some 2) (.alloc 36 [.snil, .snil, (.d (.int .i64 0)), (.d (.int .i64 0)), (.d (.int .i64 0))])])
 (.kp [0, 2] (.seq (.ops [.q none (some 12) (.bz [(.slice []), (.slice []), (.int .i64 0), (.int .i64 0), (.int .i64 0)]),
  .e none (some 3) (.alloc 36 [.snil, .snil, (.d (.int .i64 0)), (.d (.int .i64 0)), (.d (.int .i64 0))]),
  .e none none (.store 5 (.t 3) (.t 12)),
  .ownb 3 1 (49, 4),
  .ownb 3 0 (49, 4)])
 (.kp [0, 2, 3] (.seq (.ops [.q none (some 4) (.mv (.k (.d (.int .i64 1))))])
 (.kp [0, 2, 3, 4] (.seq (.ops [.q none (some 5) (.mv (.k (.d (.int .i64 0))))])
 (.kp [0, 2, 3, 4, 5] (.seq (.ops [.q none (some 6) (.mv (.k (.d (.int .i64 0))))])
 (.kp [0, 2, 3, 4, 5, 6] (.seq (.block 0 (.loop [0, 2, 3, 4, 5, 6] (.seq (.seq (.ops [.q none (some 13) (.mv (.t 6)),
  .q none (some 14) (.mv (.t 0)),
  .q none (some 15) (.slen (.t 14)),
  .q none (some 16) (.bin .lss (.t 13) (.t 15))])
 (.kp [0, 2, 3, 4, 5, 6, 16] (.cond (.t 16) .skip (.exit 0))))
 (.kp [0, 2, 3, 4, 5, 6] (.block 1 (.seq (.ops [.q none (some 17) (.mv (.t 4)),
  .q none (some 18) (.mv (.t 6)),
  .q none (some 19) (.mv (.t 5)),
  .q none (some 20) (.bin .sub (.t 18) (.t 19)),
  .q none (some 21) (.bin .add (.t 20) (.k (.d (.int .i64 1)))),
  .q none (some 22) (.build [(.int .i64 0), (.int .i64 0)] [(0, 1, (.t 17)), (1, 1, (.t 21))]),
  .e none (some 7) (.alloc 28 [(.d (.int .i64 0)), (.d (.int .i64 0))]),
  .e none none (.store 2 (.t 7) (.t 22))])
 (.kp [0, 2, 3, 4, 5, 6, 7] (.seq (.seq (.ops [.q none (some 23) (.mv (.t 0)),
  .q none (some 24) (.mv (.t 6)),
  .q none (some 25) (.sindex (.t 23) (.t 24)),
  .q none (some 26) (.bin .eql (.t 25) (.k (.d (.int .u8 10))))])
 (.kp [0, 2, 3, 4, 5, 6, 7, 26] (.cond (.t 26) (.seq (.ops [.q none (some 27) (.mv (.t 4)),
  .q none (some 28) (.bin .add (.t 27) (.k (.d (.int .i64 1)))),
  .q none (some 4) (.mv (.t 28))])
 (.kp [0, 2, 3, 4, 6, 7] (.ops [.q none (some 29) (.mv (.t 6)),
  .q none (some 30) (.bin .add (.t 29) (.k (.d (.int .i64 1)))),
  .q none (some 5) (.mv (.t 30))]))) .skip)))
 (.kp [0, 2, 3, 4, 5, 6, 7] (.seq (.seq (.ops [.q none (some 31) (.mv (.t 0)),
  .q none (some 32) (.mv (.t 6)),
  .q none (some 33) (.sindex (.t 31) (.t 32)),
  .q none (some 34) (.bin .eql (.t 33) (.k (.d (.int .u8 10)))),
  .q none (some 35) (.mv (.t 34)),
  .q (some (35, false)) (some 36) (.mv (.t 0)),
  .q (some (35, false)) (some 37) (.mv (.t 6)),
  .q (some (35, false)) (some 38) (.sindex (.t 36) (.t 37)),
  .q (some (35, false)) (some 39) (.bin .eql (.t 38) (.k (.d (.int .u8 32)))),
  .q none (some 40) (.pick (.t 35) (.k (.d (.bool true))) (.t 39))])
 (.kp [0, 2, 3, 4, 5, 6, 7, 40] (.cond (.t 40) (.seq (.ops [.q none (some 41) (.mv (.t 6)),
  .q none (some 42) (.bin .add (.t 41) (.k (.d (.int .i64 1)))),
  .q none (some 6) (.mv (.t 42))])
 (.kp [0, 2, 3, 4, 5, 6] (.exit 1))) .skip)))
 (.kp [0, 2, 3, 4, 5, 6, 7] (.seq (.seq (.ops [.q none (some 43) (.mv (.t 0)),
  .q none (some 44) (.mv (.t 6)),
  .q none (some 45) (.sindex (.t 43) (.t 44)),
  .q none (some 46) (.bin .eql (.t 45) (.k (.d (.int .u8 45)))),
  .q none (some 47) (.mv (.t 46)),
  .q (some (47, true)) (some 48) (.mv (.t 6)),
  .q (some (47, true)) (some 49) (.bin .add (.t 48) (.k (.d (.int .i64 1)))),
  .q (some (47, true)) (some 50) (.mv (.t 0)),
  .q (some (47, true)) (some 51) (.slen (.t 50)),
  .q (some (47, true)) (some 52) (.bin .lss (.t 49) (.t 51)),
  .q none (some 53) (.pick (.t 47) (.t 52) (.k (.d (.bool false)))),
  .q none (some 54) (.mv (.t 53)),
  .q (some (54, true)) (some 55) (.mv (.t 0)),
  .q (some (54, true)) (some 56) (.mv (.t 6)),
  .q (some (54, true)) (some 57) (.bin .add (.t 56) (.k (.d (.int .i64 1)))),
  .q (some (54, true)) (some 58) (.sindex (.t 55) (.t 57)),
  .q (some (54, true)) (some 59) (.bin .eql (.t 58) (.k (.d (.int .u8 45)))),
  .q none (some 60) (.pick (.t 54) (.t 59) (.k (.d (.bool false))))])
 (.kp [0, 2, 3, 4, 5, 6, 7, 60] (.cond (.t 60) (.seq (.ops [.q none (some 62) (.mv (.t 0)),
  .q none (some 63) (.mv (.t 6)),
  .call none (some 64) 65 [(.t 62), (.t 63)],
  .q none (some 61) (.mv (.t 64)),
  .q none (some 65) (.extract (.t 61) 0),
  .q none (some 66) (.extract (.t 61) 1),
  .q none (some 8) (.mv (.t 65)),
  .q none (some 9) (.mv (.t 66))])
 (.kp [0, 2, 3, 4, 5, 6, 7, 8, 9] (.seq (.seq (.ops [.q none (some 67) (.mv (.t 8)),
  .q none (some 68) (.bin .lss (.t 67) (.k (.d (.int .i64 0))))])
 (.kp [0, 2, 3, 4, 5, 6, 7, 8, 9, 68] (.cond (.t 68) (.seq (.ops [.q none (some 69) (.mv (.t 4)),
  .q none (some 70) (.mv (.t 9)),
  .q none (some 71) (.mv (.t 5)),
  .q none (some 72) (.bin .sub (.t 70) (.t 71)),
  .q none (some 73) (.bin .add (.t 72) (.k (.d (.int .i64 1)))),
  .q none (some 74) (.build [(.int .i64 0), (.int .i64 0)] [(0, 1, (.t 69)), (1, 1, (.t 73))]),
  .q none (some 75) (.build [(.slice []), (.slice []), (.int .i64 0), (.int .i64 0), (.int .i64 0)] [(2, 2, (.t 74)), (4, 1, (.k (.d (.int .i64 2))))]),
  .e none none (.store 5 (.t 2) (.t 75))])
 .ret) .skip)))
 (.kp [0, 2, 3, 4, 5, 6, 7, 8] (.seq (.draw (.q 0 (.q none (some 76) (.faddr 1 (.t 3))) (.q 1 (.q none (some 77) (.load 1 false (.t 76))) (.q 2 (.q none (some 78) (.mv (.t 0))) (.q 3 (.q none (some 79) (.mv (.t 6))) (.q 4 (.q none (some 80) (.mv (.t 6))) (.q 5 (.q none (some 81) (.mv (.t 8))) (.q 6 (.q none (some 82) (.bin .add (.t 80) (.t 81))) (.q 7 (.q none (some 83) (.sslice (.t 78) (some (.t 79)) (some (.t 82)))) (.q 8 (.q none (some 84) (.load 2 true (.t 7))) (.q 9 (.q none (some 85) (.build [(.int .i64 0), (.str []), (.int .i64 0), (.int .i64 0)] [(0, 1, (.k (.d (.int .i64 6)))), (1, 1, (.t 83)), (2, 2, (.t 84))])) (.br (.cons 10 [9] (.e none (some 86) (.bslice 4 [(.t 85)])) (.br (.cons 11 [1, 10] (.e none (some 87) (.append 49 4 false (.t 77) (.t 86))) (.q 12 (.q none (some 88) (.faddr 1 (.t 3))) (.br (.cons 13 [0, 1, 2, 3, 4, 5, 6, 7, 8, 9, 10, 11, 12] (.e none none (.store 1 (.t 88) (.t 87))) .done .nil))) .nil)) .nil)))))))))))))
 (.kp [0, 2, 3, 4, 5, 6, 8] (.seq (.ops [.q none (some 89) (.mv (.t 6)),
  .q none (some 90) (.mv (.t 8)),
  .q none (some 91) (.bin .add (.t 89) (.t 90)),
  .q none (some 6) (.mv (.t 91))])
 (.kp [0, 2, 3, 4, 5, 6] (.exit 1))))))))) .skip)))
 (.kp [0, 2, 3, 4, 5, 6, 7] (.seq (.ops [.q none (some 92) (.mv (.t 0)),
  .q none (some 93) (.mv (.t 6)),
  .call none (some 94) 66 [(.t 92), (.t 93)],
  .q none (some 10) (.mv (.t 94))])
 (.kp [0, 2, 3, 4, 5, 6, 7, 10] (.seq (.seq (.ops [.q none (some 95) (.mv (.t 0)),
  .q none (some 96) (.mv (.t 6)),
  .q none (some 97) (.sindex (.t 95) (.t 96)),
  .call none (some 98) 67 [(.t 97)]])
 (.kp [0, 2, 3, 4, 5, 6, 7, 10, 98] (.cond (.t 98) (.ops [.q none (some 99) (.mv (.t 0)),
  .q none (some 100) (.mv (.t 6)),
  .q none (some 101) (.mv (.t 6)),
  .q none (some 102) (.mv (.t 0)),
  .q none (some 103) (.mv (.t 6)),
  .call none (some 104) 68 [(.t 102), (.t 103)],
  .q none (some 105) (.bin .add (.t 101) (.t 104)),
  .q none (some 106) (.sslice (.t 99) (some (.t 100)) (some (.t 105))),
  .q none (some 10) (.mv (.t 106))]) .skip)))
 (.kp [0, 2, 3, 4, 5, 6, 7, 10] (.seq (.ops [.q none (some 107) (.mv (.t 10)),
  .call none (some 108) 69 [(.t 107)],
  .e none (some 11) (.alloc 120 [(.d (.int .i64 0)), (.d (.int .i64 0))]),
  .e none none (.store 2 (.t 11) (.t 108))])
 (.kp [0, 2, 3, 4, 5, 6, 7, 10, 11] (.seq (.seq (.ops [.q none (some 109) (.faddr 1 (.t 11)),
  .q none (some 110) (.load 1 false (.t 109)),
  .q none (some 111) (.bin .neq (.t 110) (.k (.d (.int .i64 0))))])
 (.kp [0, 2, 3, 4, 5, 6, 7, 10, 11, 111] (.cond (.t 111) (.seq (.ops [.q none (some 112) (.load 2 true (.t 7)),
  .q none (some 113) (.faddr 1 (.t 11)),
  .q none (some 114) (.load 1 false (.t 113)),
  .q none (some 115) (.build [(.slice []), (.slice []), (.int .i64 0), (.int .i64 0), (.int .i64 0)] [(2, 2, (.t 112)), (4, 1, (.t 114))]),
  .e none none (.store 5 (.t 2) (.t 115))])
 .ret) .skip)))
 (.kp [0, 2, 3, 4, 5, 6, 7, 10, 11] (.seq (.ops [.q none (some 116) (.faddr 0 (.t 3)),
  .q none (some 117) (.load 1 false (.t 116)),
  .q none (some 118) (.faddr 0 (.t 11)),
  .q none (some 119) (.load 1 false (.t 118)),
  .q none (some 120) (.mv (.t 10)),
  .q none (some 121) (.load 2 true (.t 7)),
  .q none (some 122) (.build [(.int .i64 0), (.str []), (.int .i64 0), (.int .i64 0)] [(0, 1, (.t 119)), (1, 1, (.t 120)), (2, 2, (.t 121))]),
  .e none (some 123) (.bslice 4 [(.t 122)]),
  .e none (some 124) (.append 49 4 false (.t 117) (.t 123)),
  .q none (some 125) (.faddr 0 (.t 3)),
  .e none none (.store 1 (.t 125) (.t 124))])
 (.kp [0, 2, 3, 4, 5, 6, 10] (.ops [.q none (some 126) (.mv (.t 6)),
  .q none (some 127) (.mv (.t 10)),
  .q none (some 128) (.slen (.t 127)),
  .q none (some 129) (.bin .add (.t 126) (.t 128)),
  .q none (some 6) (.mv (.t 129))]))))))))))))))))))))))))
 (.kp [2, 3] (.seq (.ops [.q none (some 130) (.load 5 true (.t 3)),
  .e none none (.store 5 (.t 2) (.t 130))])
 .ret)))))))))))))⟩
theorem c39 : chkF Γz.P Γz.E 39 1 i39 = true := by kernel_rfl
noncomputable def i40 : FI := -- cosigner/lex.write
 ⟨41, [.t 4, .t 5],
 (.seq (.ops [.q none (some 4) (.mv (.k (.d (.str [])))),
  .q none (some 5) (.mv (.k (.d (.int .i64 0))))])
 (.kp [0, 1] (.seq (.seq (.ops [.q none (some 9) (.mv (.t 0)),
  .q none (some 10) (.len (.t 9)),
  .q none (some 11) (.bin .gtr (.t 10) (.k (.d (.int .i64 6000))))])
 (.kp [0, 1, 11] (.cond (.t 11) (.seq (.ops [.q none (some 4) (.mv (.k (.d (.str [])))),
  .q none (some 5) (.mv (.k (.d (.int .i64 3))))])
 .ret) .skip)))
 (.kp [0, 1] (.seq (.seq (.ops [.q none (some 12) (.mv (.t 0)),
  .call none (some 13) 70 [(.t 12), (.f 71)]])
 (.kp [0, 1, 13] (.cond (.t 13) (.seq (.ops [.q none (some 4) (.mv (.k (.d (.str [])))),
  .q none (some 5) (.mv (.k (.d (.int .i64 1))))])
 .ret) .skip)))
 (.kp [0, 1] (.seq (.ops [.e none (some 6) (.alloc 93 [.nilp, .snil]),
  .ownb 6 1 (5, 1)])
 (.kp [0, 1, 6] (.seq (.seq (.ops [.q none (some 14) (.mv (.t 0)),
  .q none (some 15) (.len (.t 14)),
  .q none (some 16) (.mv (.k (.d (.int .i64 0))))])
 (.kp [0, 1, 6, 14, 15, 16] (.block 0 (.loop [0, 1, 6, 14, 15, 16] (.seq (.ops [.q none (some 17) (.bin .lss (.t 16) (.t 15))])
 (.kp [0, 1, 6, 14, 15, 16, 17] (.seq (.cond (.t 17) .skip (.exit 0))
 (.kp [0, 1, 6, 14, 15, 16] (.seq (.block 1 (.seq (.ops [.q none (some 18) (.mv (.t 16)),
  .q none (some 19) (.iaddr 4 (.t 14) (.t 16)),
  .q none (some 20) (.load 4 true (.t 19)),
  .e none (some 8) (.alloc 49 [(.d (.int .i64 0)), (.d (.str [])), (.d (.int .i64 0)), (.d (.int .i64 0))]),
  .q none (some 7) (.mv (.t 18)),
  .e none none (.store 4 (.t 8) (.t 20))])
 (.kp [0, 1, 6, 7, 8, 14, 15, 16] (.seq (.seq (.draw (.q 0 (.q none (some 21) (.mv (.t 7))) (.q 1 (.q none (some 22) (.bin .gtr (.t 21) (.k (.d (.int .i64 0))))) (.q 2 (.q none (some 23) (.mv (.t 22))) (.q 3 (.q (some (23, true)) (some 24) (.mv (.t 1))) (.q 4 (.q (some (23, true)) (some 25) (.mv (.t 0))) (.q 5 (.q (some (23, true)) (some 26) (.mv (.t 7))) (.q 6 (.q (some (23, true)) (some 27) (.bin .sub (.t 26) (.k (.d (.int .i64 1))))) (.q 7 (.q (some (23, true)) (some 28) (.iaddr 4 (.t 25) (.t 27))) (.q 8 (.q (some (23, true)) (some 29) (.load 4 true (.t 28))) (.q 9 (.q (some (23, true)) (some 30) (.load 4 true (.t 8))) (.br (.cons 10 [2, 3, 8, 9] (.callv (some (23, true)) (some 31) (.t 24) [(.t 29), (.t 30)]) (.q 11 (.q none (some 32) (.pick (.t 23) (.t 31) (.k (.d (.bool false))))) .done) .nil)))))))))))))
 (.kp [0, 1, 6, 8, 14, 15, 16, 32] (.cond (.t 32) (.ops [.call none (some 33) 72 [(.t 6), (.k (.d (.int .u8 32)))]]) .skip)))
 (.kp [0, 1, 6, 8, 14, 15, 16] (.ops [.q none (some 34) (.faddr 1 (.t 8)),
  .q none (some 35) (.load 1 false (.t 34)),
  .call none (some 36) 55 [(.t 6), (.t 35)]]))))))
 (.kp [0, 1, 6, 14, 15, 16] (.ops [.q none (some 37) (.bin .add (.t 16) (.k (.d (.int .i64 1)))),
  .q none (some 16) (.mv (.t 37))])))))))))))
 (.kp [6] (.seq (.seq (.ops [.call none (some 38) 56 [(.t 6)],
  .q none (some 39) (.bin .gtr (.t 38) (.k (.d (.int .i64 20000))))])
 (.kp [6, 39] (.cond (.t 39) (.seq (.ops [.q none (some 4) (.mv (.k (.d (.str [])))),
  .q none (some 5) (.mv (.k (.d (.int .i64 3))))])
 .ret) .skip)))
 (.kp [6] (.seq (.ops [.call none (some 40) 57 [(.t 6)],
  .q none (some 4) (.mv (.t 40)),
  .q none (some 5) (.mv (.k (.d (.int .i64 0))))])
 .ret)))))))))))))⟩
theorem c40 : chkF Γz.P Γz.E 40 2 i40 = true := by kernel_rfl
noncomputable def i41 : FI := -- cosigner/lex.Write$1
 ⟨5, [.t 4],
 (.seq (.ops [.e none (some 2) (.box 49 (.t 0)),
  .e none (some 3) (.box 49 (.t 1)),
  .q none (some 4) (.mv (.k (.d (.bool false))))])
 (.kp [] (.seq (.ops [.q none (some 4) (.mv (.k (.d (.bool true))))])
 .ret)))⟩
theorem c41 : chkF Γz.P Γz.E 41 2 i41 = true := by kernel_rfl
noncomputable def i42 : FI := -- cosigner/cosignerref01.put
 ⟨105, [.c 4 2 true],
 (.seq (.ops [.e none (some 4) (.alloc 44 [(.d (.str [])), (.d (.int .i64 0))])])
 (.kp [0, 1, 4] (.seq (.seq (.ops [.q none (some 11) (.mv (.t 0)),
  .q none (some 12) (.len (.t 11)),
  .q none (some 13) (.bin .gtr (.t 12) (.k (.d (.int .i64 6000))))])
 (.kp [0, 1, 4, 13] (.cond (.t 13) (.seq (.ops [.q none (some 14) (.build [(.str []), (.int .i64 0)] [(1, 1, (.k (.d (.int .i64 3))))]),
  .e none none (.store 2 (.t 4) (.t 14))])
 .ret) .skip)))
 (.kp [0, 1, 4] (.seq (.ops [.q none (some 5) (.mv (.k (.d (.int .i64 0))))])
 (.kp [0, 1, 4, 5] (.seq (.seq (.ops [.q none (some 6) (.mv (.k (.d (.int .i64 0))))])
 (.kp [0, 1, 4, 5, 6] (.block 0 (.loop [0, 1, 4, 5, 6] (.seq (.seq (.ops [.q none (some 15) (.mv (.t 6)),
  .q none (some 16) (.mv (.t 0)),
  .q none (some 17) (.len (.t 16)),
  .q none (some 18) (.bin .lss (.t 15) (.t 17))])
 (.kp [0, 1, 4, 5, 6, 18] (.cond (.t 18) .skip (.exit 0))))
 (.kp [0, 1, 4, 5, 6] (.seq (.block 1 (.seq (.ops [.q none (some 21) (.mv (.t 0)),
  .q none (some 22) (.mv (.t 6)),
  .q none (some 23) (.iaddr 4 (.t 21) (.t 22)),
  .q none (some 24) (.load 4 true (.t 23)),
  .call none (some 25) 45 [(.t 24)],
  .q none (some 7) (.mv (.t 25))])
 (.kp [0, 1, 4, 5, 6, 7] (.seq (.ops [.q none (some 26) (.mv (.t 7)),
  .q none (some 27) (.not (.t 26))])
 (.kp [0, 1, 4, 5, 6, 27] (.cond (.t 27) (.seq (.ops [.q none (some 28) (.build [(.str []), (.int .i64 0)] [(1, 1, (.k (.d (.int .i64 1))))]),
  .e none none (.store 2 (.t 4) (.t 28))])
 .ret) .skip))))))
 (.kp [0, 1, 4, 5, 6] (.ops [.q none (some 19) (.mv (.t 6)),
  .q none (some 20) (.bin .add (.t 19) (.k (.d (.int .i64 1)))),
  .q none (some 6) (.mv (.t 20))])))))))))
 (.kp [0, 1, 4, 5] (.seq (.seq (.ops [.q none (some 8) (.mv (.k (.d (.int .i64 0))))])
 (.kp [0, 1, 4, 5, 8] (.block 2 (.loop [0, 1, 4, 5, 8] (.seq (.seq (.ops [.q none (some 29) (.mv (.t 8)),
  .q none (some 30) (.mv (.t 0)),
  .q none (some 31) (.len (.t 30)),
  .q none (some 32) (.bin .lss (.t 29) (.t 31))])
 (.kp [0, 1, 4, 5, 8, 32] (.cond (.t 32) .skip (.exit 2))))
 (.kp [0, 1, 4, 5, 8] (.seq (.block 3 (.seq (.ops [.q none (some 35) (.mv (.t 5)),
  .q none (some 36) (.mv (.t 0)),
  .q none (some 37) (.mv (.t 8)),
  .q none (some 38) (.iaddr 4 (.t 36) (.t 37)),
  .q none (some 39) (.faddr 1 (.t 38)),
  .q none (some 40) (.load 1 false (.t 39)),
  .q none (some 41) (.slen (.t 40)),
  .q none (some 42) (.bin .add (.t 35) (.t 41)),
  .q none (some 5) (.mv (.t 42))])
 (.kp [0, 1, 4, 5, 8] (.seq (.draw (.q 0 (.q none (some 43) (.mv (.t 8))) (.q 1 (.q none (some 44) (.bin .gtr (.t 43) (.k (.d (.int .i64 0))))) (.q 2 (.q none (some 45) (.mv (.t 44))) (.q 3 (.q (some (45, true)) (some 46) (.mv (.t 1))) (.q 4 (.q (some (45, true)) (some 47) (.mv (.t 46))) (.q 5 (.q (some (47, false)) (some 48) (.mv (.t 0))) (.q 6 (.q (some (47, false)) (some 49) (.mv (.t 8))) (.q 7 (.q (some (47, false)) (some 50) (.bin .sub (.t 49) (.k (.d (.int .i64 1))))) (.q 8 (.q (some (47, false)) (some 51) (.mx (.k (.d (.int .i64 0))) [(.t 50)])) (.q 9 (.q (some (47, false)) (some 52) (.iaddr 4 (.t 48) (.t 51))) (.q 10 (.q (some (47, false)) (some 53) (.load 4 true (.t 52))) (.q 11 (.q (some (47, false)) (some 54) (.mv (.t 0))) (.q 12 (.q (some (47, false)) (some 55) (.mv (.t 8))) (.q 13 (.q (some (47, false)) (some 56) (.iaddr 4 (.t 54) (.t 55))) (.q 14 (.q (some (47, false)) (some 57) (.load 4 true (.t 56))) (.br (.cons 15 [4, 10, 14] (.call (some (47, false)) (some 58) 46 [(.t 53), (.t 57)]) (.q 16 (.q (some (45, true)) (some 59) (.pick (.t 47) (.k (.d (.bool true))) (.t 58))) (.q 17 (.q none (some 60) (.pick (.t 45) (.t 59) (.k (.d (.bool false))))) .done)) .nil))))))))))))))))))
 (.kp [0, 1, 4, 5, 8, 60] (.cond (.t 60) (.ops [.q none (some 61) (.mv (.t 5)),
  .q none (some 62) (.bin .add (.t 61) (.k (.d (.int .i64 1)))),
  .q none (some 5) (.mv (.t 62))]) .skip))))))
 (.kp [0, 1, 4, 5, 8] (.ops [.q none (some 33) (.mv (.t 8)),
  .q none (some 34) (.bin .add (.t 33) (.k (.d (.int .i64 1)))),
  .q none (some 8) (.mv (.t 34))])))))))))
 (.kp [0, 1, 4, 5] (.seq (.seq (.ops [.q none (some 63) (.mv (.t 5)),
  .q none (some 64) (.bin .gtr (.t 63) (.k (.d (.int .i64 20000))))])
 (.kp [0, 1, 4, 5, 64] (.cond (.t 64) (.seq (.ops [.q none (some 65) (.build [(.str []), (.int .i64 0)] [(1, 1, (.k (.d (.int .i64 3))))]),
  .e none none (.store 2 (.t 4) (.t 65))])
 .ret) .skip)))
 (.kp [0, 1, 4, 5] (.seq (.ops [.q none (some 66) (.mv (.t 5)),
  .e none (some 67) (.mks 5 1 (.k (.d (.int .i64 0))) (.t 66)),
  .q none (some 9) (.mv (.t 67))])
 (.kp [0, 1, 4, 9] (.seq (.seq (.ops [.q none (some 10) (.mv (.k (.d (.int .i64 0))))])
 (.kp [0, 1, 4, 9, 10] (.block 4 (.loop [0, 1, 4, 9, 10] (.seq (.seq (.ops [.q none (some 68) (.mv (.t 10)),
  .q none (some 69) (.mv (.t 0)),
  .q none (some 70) (.len (.t 69)),
  .q none (some 71) (.bin .lss (.t 68) (.t 70))])
 (.kp [0, 1, 4, 9, 10, 71] (.cond (.t 71) .skip (.exit 4))))
 (.kp [0, 1, 4, 9, 10] (.seq (.block 5 (.seq (.seq (.draw (.q 0 (.q none (some 74) (.mv (.t 10))) (.q 1 (.q none (some 75) (.bin .gtr (.t 74) (.k (.d (.int .i64 0))))) (.q 2 (.q none (some 76) (.mv (.t 75))) (.q 3 (.q (some (76, true)) (some 77) (.mv (.t 1))) (.q 4 (.q (some (76, true)) (some 78) (.mv (.t 77))) (.q 5 (.q (some (78, false)) (some 79) (.mv (.t 0))) (.q 6 (.q (some (78, false)) (some 80) (.mv (.t 10))) (.q 7 (.q (some (78, false)) (some 81) (.bin .sub (.t 80) (.k (.d (.int .i64 1))))) (.q 8 (.q (some (78, false)) (some 82) (.mx (.k (.d (.int .i64 0))) [(.t 81)])) (.q 9 (.q (some (78, false)) (some 83) (.iaddr 4 (.t 79) (.t 82))) (.q 10 (.q (some (78, false)) (some 84) (.load 4 true (.t 83))) (.q 11 (.q (some (78, false)) (some 85) (.mv (.t 0))) (.q 12 (.q (some (78, false)) (some 86) (.mv (.t 10))) (.q 13 (.q (some (78, false)) (some 87) (.iaddr 4 (.t 85) (.t 86))) (.q 14 (.q (some (78, false)) (some 88) (.load 4 true (.t 87))) (.br (.cons 15 [4, 10, 14] (.call (some (78, false)) (some 89) 46 [(.t 84), (.t 88)]) (.q 16 (.q (some (76, true)) (some 90) (.pick (.t 78) (.k (.d (.bool true))) (.t 89))) (.q 17 (.q none (some 91) (.pick (.t 76) (.t 90) (.k (.d (.bool false))))) .done)) .nil))))))))))))))))))
 (.kp [0, 1, 4, 9, 10, 91] (.cond (.t 91) (.ops [.q none (some 92) (.mv (.t 9)),
  .e none (some 93) (.bslice 1 [(.k (.d (.int .u8 32)))]),
  .e none (some 94) (.append 5 1 false (.t 92) (.t 93)),
  .q none (some 9) (.mv (.t 94))]) .skip)))
 (.kp [0, 1, 4, 9, 10] (.ops [.q none (some 95) (.mv (.t 9)),
  .q none (some 96) (.mv (.t 0)),
  .q none (some 97) (.mv (.t 10)),
  .q none (some 98) (.iaddr 4 (.t 96) (.t 97)),
  .q none (some 99) (.faddr 1 (.t 98)),
  .q none (some 100) (.load 1 false (.t 99)),
  .e none (some 101) (.append 5 1 true (.t 95) (.t 100)),
  .q none (some 9) (.mv (.t 101))]))))
 (.kp [0, 1, 4, 9, 10] (.ops [.q none (some 72) (.mv (.t 10)),
  .q none (some 73) (.bin .add (.t 72) (.k (.d (.int .i64 1)))),
  .q none (some 10) (.mv (.t 73))])))))))))
 (.kp [4, 9] (.seq (.ops [.q none (some 102) (.mv (.t 9)),
  .q none (some 103) (.bstr (.t 102)),
  .q none (some 104) (.build [(.str []), (.int .i64 0)] [(0, 1, (.t 103))]),
  .e none none (.store 2 (.t 4) (.t 104))])
 .ret)))))))))))))))))⟩
theorem c42 : chkF Γz.P Γz.E 42 2 i42 = true := by kernel_rfl
noncomputable def i43 : FI := -- cosigner/lex.needs
 ⟨32, [.t 4],
 (.seq (.ops [.e none (some 2) (.box 49 (.t 0)),
  .e none (some 3) (.box 49 (.t 1)),
  .q none (some 4) (.mv (.k (.d (.bool false))))])
 (.kp [2, 3] (.seq (.ops [.q none (some 9) (.faddr 1 (.t 2)),
  .q none (some 10) (.load 1 false (.t 9)),
  .q none (some 11) (.faddr 1 (.t 3)),
  .q none (some 12) (.load 1 false (.t 11)),
  .q none (some 13) (.bin .add (.t 10) (.t 12)),
  .e none (some 14) (.bslice 1 [(.t 13)]),
  .call none (some 15) 31 [(.t 14), (.k (.d (.int .i64 1))), (.f 33)],
  .q none (some 8) (.mv (.t 15)),
  .q none (some 16) (.extract (.t 8) 0),
  .q none (some 17) (.extract (.t 8) 1),
  .q none (some 18) (.extract (.t 8) 2),
  .e none (some 6) (.alloc 28 [(.d (.int .i64 0)), (.d (.int .i64 0))]),
  .q none (some 5) (.mv (.t 16)),
  .e none none (.store 2 (.t 6) (.t 17)),
  .q none (some 7) (.mv (.t 18))])
 (.kp [2, 3, 5, 7] (.seq (.ops [.q none (some 19) (.mv (.t 7)),
  .q none (some 20) (.bin .neq (.t 19) (.k (.d (.int .i64 0)))),
  .q none (some 21) (.mv (.t 20)),
  .q (some (21, false)) (some 22) (.mv (.t 5)),
  .q (some (21, false)) (some 23) (.load 4 true (.t 2)),
  .e (some (21, false)) (some 24) (.bslice 4 [(.t 23)]),
  .q (some (21, false)) (some 25) (.load 4 true (.t 3)),
  .e (some (21, false)) (some 26) (.bslice 4 [(.t 25)]),
  .e (some (21, false)) (some 27) (.bslice 1 [(.t 24), (.t 26)]),
  .call (some (21, false)) (some 28) 34 [(.t 27)],
  .call (some (21, false)) (some 29) 51 [(.t 22), (.t 28), (.f 52)],
  .q (some (21, false)) (some 30) (.not (.t 29)),
  .q none (some 31) (.pick (.t 21) (.k (.d (.bool true))) (.t 30)),
  .q none (some 4) (.mv (.t 31))])
 .ret)))))⟩
theorem c43 : chkF Γz.P Γz.E 43 2 i43 = true := by kernel_rfl
noncomputable def i44 : FI := -- cosigner/lex.right
 ⟨24, [.t 2],
 (.seq (.ops [.e none (some 1) (.box 49 (.t 0)),
  .q none (some 2) (.mv (.k (.d (.bool false))))])
 (.kp [1] (.seq (.ops [.q none (some 6) (.faddr 1 (.t 1)),
  .q none (some 7) (.load 1 false (.t 6)),
  .call none (some 8) 73 [(.t 7)],
  .q none (some 5) (.mv (.t 8)),
  .q none (some 9) (.extract (.t 5) 0),
  .q none (some 10) (.extract (.t 5) 1),
  .q none (some 3) (.mv (.t 9)),
  .q none (some 4) (.mv (.t 10))])
 (.kp [1, 3, 4] (.seq (.ops [.q none (some 11) (.mv (.t 4)),
  .q none (some 12) (.bin .eql (.t 11) (.k (.d (.int .i64 0)))),
  .q none (some 13) (.mv (.t 12)),
  .q (some (13, true)) (some 14) (.mv (.t 3)),
  .q (some (13, true)) (some 15) (.faddr 0 (.t 1)),
  .q (some (13, true)) (some 16) (.load 1 false (.t 15)),
  .q (some (13, true)) (some 17) (.bin .eql (.t 14) (.t 16)),
  .q none (some 18) (.pick (.t 13) (.t 17) (.k (.d (.bool false)))),
  .q none (some 19) (.mv (.t 18)),
  .q (some (19, true)) (some 20) (.faddr 0 (.t 1)),
  .q (some (19, true)) (some 21) (.load 1 false (.t 20)),
  .q (some (19, true)) (some 22) (.bin .neq (.t 21) (.k (.d (.int .i64 6)))),
  .q none (some 23) (.pick (.t 19) (.t 22) (.k (.d (.bool false)))),
  .q none (some 2) (.mv (.t 23))])
 .ret)))))⟩
theorem c44 : chkF Γz.P Γz.E 44 1 i44 = true := by kernel_rfl
noncomputable def i45 : FI := -- cosigner/cosignerref01.right
 ⟨17, [.t 2],
 (.seq (.ops [.e none (some 1) (.box 49 (.t 0)),
  .q none (some 2) (.mv (.k (.d (.bool false))))])
 (.kp [1] (.seq (.ops [.q none (some 4) (.faddr 1 (.t 1)),
  .q none (some 5) (.load 1 false (.t 4)),
  .call none (some 6) 69 [(.t 5)],
  .e none (some 3) (.alloc 120 [(.d (.int .i64 0)), (.d (.int .i64 0))]),
  .e none none (.store 2 (.t 3) (.t 6))])
 (.kp [1, 3] (.seq (.ops [.q none (some 7) (.faddr 1 (.t 3)),
  .q none (some 8) (.load 1 false (.t 7)),
  .q none (some 9) (.bin .eql (.t 8) (.k (.d (.int .i64 0)))),
  .q none (some 10) (.mv (.t 9)),
  .q (some (10, true)) (some 11) (.faddr 0 (.t 3)),
  .q (some (10, true)) (some 12) (.load 1 false (.t 11)),
  .q (some (10, true)) (some 13) (.faddr 0 (.t 1)),
  .q (some (10, true)) (some 14) (.load 1 false (.t 13)),
  .q (some (10, true)) (some 15) (.bin .eql (.t 12) (.t 14)),
  .q none (some 16) (.pick (.t 10) (.t 15) (.k (.d (.bool false)))),
  .q none (some 2) (.mv (.t 16))])
 .ret)))))⟩
theorem c45 : chkF Γz.P Γz.E 45 1 i45 = true := by kernel_rfl
noncomputable def i46 : FI := -- cosigner/cosignerref01.needs
 ⟨26, [.t 4],
 (.seq (.ops [.e none (some 2) (.box 49 (.t 0)),
  .e none (some 3) (.box 49 (.t 1)),
  .q none (some 4) (.mv (.k (.d (.bool false))))])
 (.kp [2, 3] (.seq (.ops [.q none (some 7) (.faddr 1 (.t 2)),
  .q none (some 8) (.load 1 false (.t 7)),
  .q none (some 9) (.faddr 1 (.t 3)),
  .q none (some 10) (.load 1 false (.t 9)),
  .q none (some 11) (.bin .add (.t 8) (.t 10)),
  .call none (some 12) 39 [(.t 11)],
  .e none (some 5) (.alloc 36 [.snil, .snil, (.d (.int .i64 0)), (.d (.int .i64 0)), (.d (.int .i64 0))]),
  .e none none (.store 5 (.t 5) (.t 12))])
 (.kp [2, 3, 5] (.seq (.ops [.q none (some 13) (.faddr 0 (.t 5)),
  .q none (some 14) (.load 1 false (.t 13)),
  .q none (some 15) (.load 4 true (.t 2)),
  .q none (some 16) (.load 4 true (.t 3)),
  .e none (some 17) (.bslice 4 [(.t 15), (.t 16)]),
  .call none (some 18) 53 [(.t 14), (.t 17)],
  .q none (some 6) (.mv (.t 18))])
 (.kp [5, 6] (.seq (.ops [.q none (some 19) (.faddr 4 (.t 5)),
  .q none (some 20) (.load 1 false (.t 19)),
  .q none (some 21) (.bin .neq (.t 20) (.k (.d (.int .i64 0)))),
  .q none (some 22) (.mv (.t 21)),
  .q (some (22, false)) (some 23) (.mv (.t 6)),
  .q (some (22, false)) (some 24) (.not (.t 23)),
  .q none (some 25) (.pick (.t 22) (.k (.d (.bool true))) (.t 24)),
  .q none (some 4) (.mv (.t 25))])
 .ret)))))))⟩
theorem c46 : chkF Γz.P Γz.E 46 2 i46 = true := by kernel_rfl
noncomputable def i47 : FI := -- cosigner/lex.Comments
 ⟨27, [.t 2, .t 3],
 (.seq (.ops [.q none (some 2) (.mv (.k .snil)),
  .q none (some 3) (.mv (.k (.d (.int .i64 0))))])
 (.kp [0] (.seq (.seq (.ops [.q none (some 11) (.mv (.t 0)),
  .call none (some 12) 23 [(.t 11)],
  .q none (some 10) (.mv (.t 12)),
  .q none (some 13) (.extract (.t 10) 0),
  .q none (some 14) (.extract (.t 10) 1),
  .q none (some 15) (.extract (.t 10) 2),
  .e none (some 5) (.alloc 28 [(.d (.int .i64 0)), (.d (.int .i64 0))]),
  .q none (some 4) (.mv (.t 13)),
  .e none none (.store 2 (.t 5) (.t 14)),
  .q none (some 6) (.mv (.t 15))])
 (.kp [0, 6] (.seq (.ops [.q none (some 16) (.mv (.t 6)),
  .q none (some 17) (.bin .neq (.t 16) (.k (.d (.int .i64 0))))])
 (.kp [0, 6, 17] (.cond (.t 17) (.seq (.ops [.q none (some 18) (.mv (.t 6)),
  .q none (some 2) (.mv (.k .snil)),
  .q none (some 3) (.mv (.t 18))])
 .ret) .skip)))))
 (.kp [0] (.seq (.ops [.q none (some 20) (.mv (.t 0)),
  .call none (some 21) 32 [(.t 20), (.k (.d (.str [10])))],
  .call none (some 22) 31 [(.t 21), (.k (.d (.int .i64 1))), (.f 74)],
  .q none (some 19) (.mv (.t 22)),
  .q none (some 23) (.extract (.t 19) 0),
  .q none (some 24) (.extract (.t 19) 1),
  .q none (some 25) (.extract (.t 19) 2),
  .e none (some 8) (.alloc 28 [(.d (.int .i64 0)), (.d (.int .i64 0))]),
  .q none (some 7) (.mv (.t 23)),
  .e none none (.store 2 (.t 8) (.t 24)),
  .q none (some 9) (.mv (.t 25))])
 (.kp [7] (.seq (.ops [.q none (some 26) (.mv (.t 7)),
  .q none (some 2) (.mv (.t 26)),
  .q none (some 3) (.mv (.k (.d (.int .i64 0))))])
 .ret)))))))⟩
theorem c47 : chkF Γz.P Γz.E 47 1 i47 = true := by kernel_rfl
noncomputable def i50 : FI := -- cosigner/cosignerref01.bare
 ⟨42, [.t 2],
 (.seq (.ops [.q none (some 2) (.mv (.k (.d (.str []))))])
 (.kp [0] (.seq (.seq (.ops [.q none (some 3) (.mv (.k (.d (.int .i64 0))))])
 (.kp [0, 3] (.block 0 (.loop [0, 3] (.seq (.seq (.ops [.q none (some 4) (.mv (.t 3)),
  .q none (some 5) (.bin .add (.t 4) (.k (.d (.int .i64 1)))),
  .q none (some 6) (.mv (.t 0)),
  .q none (some 7) (.slen (.t 6)),
  .q none (some 8) (.bin .lss (.t 5) (.t 7))])
 (.kp [0, 3, 8] (.cond (.t 8) .skip (.exit 0))))
 (.kp [0, 3] (.seq (.block 1 (.seq (.ops [.q none (some 11) (.mv (.t 0)),
  .q none (some 12) (.mv (.t 3)),
  .q none (some 13) (.sindex (.t 11) (.t 12)),
  .q none (some 14) (.bin .eql (.t 13) (.k (.d (.int .u8 45)))),
  .q none (some 15) (.mv (.t 14)),
  .q (some (15, true)) (some 16) (.mv (.t 0)),
  .q (some (15, true)) (some 17) (.mv (.t 3)),
  .q (some (15, true)) (some 18) (.bin .add (.t 17) (.k (.d (.int .i64 1)))),
  .q (some (15, true)) (some 19) (.sindex (.t 16) (.t 18)),
  .q (some (15, true)) (some 20) (.bin .eql (.t 19) (.k (.d (.int .u8 45)))),
  .q none (some 21) (.pick (.t 15) (.t 20) (.k (.d (.bool false))))])
 (.kp [0, 3, 21] (.cond (.t 21) (.ops [.q none (some 22) (.mv (.t 0)),
  .q none (some 23) (.mv (.t 3)),
  .q none (some 24) (.sslice (.t 22) none (some (.t 23))),
  .q none (some 0) (.mv (.t 24))]) .skip))))
 (.kp [0, 3] (.ops [.q none (some 9) (.mv (.t 3)),
  .q none (some 10) (.bin .add (.t 9) (.k (.d (.int .i64 1)))),
  .q none (some 3) (.mv (.t 10))])))))))))
 (.kp [0] (.seq (.block 2 (.loop [0] (.seq (.seq (.ops [.q none (some 25) (.mv (.t 0)),
  .q none (some 26) (.slen (.t 25)),
  .q none (some 27) (.bin .gtr (.t 26) (.k (.d (.int .i64 0)))),
  .q none (some 28) (.mv (.t 27)),
  .q (some (28, true)) (some 29) (.mv (.t 0)),
  .q (some (28, true)) (some 30) (.mv (.t 0)),
  .q (some (28, true)) (some 31) (.slen (.t 30)),
  .q (some (28, true)) (some 32) (.bin .sub (.t 31) (.k (.d (.int .i64 1)))),
  .q (some (28, true)) (some 33) (.sindex (.t 29) (.t 32)),
  .q (some (28, true)) (some 34) (.bin .eql (.t 33) (.k (.d (.int .u8 32)))),
  .q none (some 35) (.pick (.t 28) (.t 34) (.k (.d (.bool false))))])
 (.kp [0, 35] (.cond (.t 35) .skip (.exit 2))))
 (.kp [0] (.block 3 (.ops [.q none (some 36) (.mv (.t 0)),
  .q none (some 37) (.mv (.t 0)),
  .q none (some 38) (.slen (.t 37)),
  .q none (some 39) (.bin .sub (.t 38) (.k (.d (.int .i64 1)))),
  .q none (some 40) (.sslice (.t 36) none (some (.t 39))),
  .q none (some 0) (.mv (.t 40))]))))))
 (.kp [0] (.seq (.ops [.q none (some 41) (.mv (.t 0)),
  .q none (some 2) (.mv (.t 41))])
 .ret)))))))⟩
theorem c50 : chkF Γz.P Γz.E 50 1 i50 = true := by kernel_rfl
noncomputable def i51 : FI := -- slices.EqualFunc[[]cosigner/api.Token,[]cosigner/api.Token,cosigner/api.Token,cosigner/api.Token]
 ⟨32, [.t 6],
 (.seq (.ops [.q none (some 6) (.mv (.k (.d (.bool false))))])
 (.kp [0, 1, 2] (.seq (.seq (.ops [.q none (some 10) (.mv (.t 0)),
  .q none (some 11) (.len (.t 10)),
  .q none (some 12) (.mv (.t 1)),
  .q none (some 13) (.len (.t 12)),
  .q none (some 14) (.bin .neq (.t 11) (.t 13))])
 (.kp [0, 1, 2, 14] (.cond (.t 14) (.seq (.ops [.q none (some 6) (.mv (.k (.d (.bool false))))])
 .ret) .skip)))
 (.kp [0, 1, 2] (.seq (.seq (.ops [.q none (some 15) (.mv (.t 0)),
  .q none (some 16) (.len (.t 15)),
  .q none (some 17) (.mv (.k (.d (.int .i64 0))))])
 (.kp [1, 2, 15, 16, 17] (.block 0 (.loop [1, 2, 15, 16, 17] (.seq (.ops [.q none (some 18) (.bin .lss (.t 17) (.t 16))])
 (.kp [1, 2, 15, 16, 17, 18] (.seq (.cond (.t 18) .skip (.exit 0))
 (.kp [1, 2, 15, 16, 17] (.seq (.block 1 (.seq (.ops [.q none (some 19) (.mv (.t 17)),
  .q none (some 20) (.iaddr 4 (.t 15) (.t 17)),
  .q none (some 21) (.load 4 true (.t 20)),
  .e none (some 8) (.alloc 49 [(.d (.int .i64 0)), (.d (.str [])), (.d (.int .i64 0)), (.d (.int .i64 0))]),
  .q none (some 7) (.mv (.t 19)),
  .e none none (.store 4 (.t 8) (.t 21))])
 (.kp [1, 2, 7, 8, 15, 16, 17] (.seq (.ops [.q none (some 22) (.mv (.t 1)),
  .q none (some 23) (.mv (.t 7)),
  .q none (some 24) (.iaddr 4 (.t 22) (.t 23)),
  .q none (some 25) (.load 4 true (.t 24)),
  .e none (some 9) (.alloc 49 [(.d (.int .i64 0)), (.d (.str [])), (.d (.int .i64 0)), (.d (.int .i64 0))]),
  .e none none (.store 4 (.t 9) (.t 25))])
 (.kp [1, 2, 8, 9, 15, 16, 17] (.seq (.ops [.q none (some 26) (.mv (.t 2)),
  .q none (some 27) (.load 4 true (.t 8)),
  .q none (some 28) (.load 4 true (.t 9)),
  .callv none (some 29) (.t 26) [(.t 27), (.t 28)],
  .q none (some 30) (.not (.t 29))])
 (.kp [1, 2, 15, 16, 17, 30] (.cond (.t 30) (.seq (.ops [.q none (some 6) (.mv (.k (.d (.bool false))))])
 .ret) .skip))))))))
 (.kp [1, 2, 15, 16, 17] (.ops [.q none (some 31) (.bin .add (.t 17) (.k (.d (.int .i64 1)))),
  .q none (some 17) (.mv (.t 31))])))))))))))
 (.kp [] (.seq (.ops [.q none (some 6) (.mv (.k (.d (.bool true))))])
 .ret)))))))⟩
theorem c51 : chkF Γz.P Γz.E 51 3 i51 = true := by kernel_rfl
noncomputable def i52 : FI := -- cosigner/lex.equal
 ⟨17, [.t 4],
 (.seq (.ops [.e none (some 2) (.box 49 (.t 0)),
  .e none (some 3) (.box 49 (.t 1)),
  .q none (some 4) (.mv (.k (.d (.bool false))))])
 (.kp [2, 3] (.seq (.ops [.q none (some 5) (.faddr 0 (.t 2)),
  .q none (some 6) (.load 1 false (.t 5)),
  .q none (some 7) (.faddr 0 (.t 3)),
  .q none (some 8) (.load 1 false (.t 7)),
  .q none (some 9) (.bin .eql (.t 6) (.t 8)),
  .q none (some 10) (.mv (.t 9)),
  .q (some (10, true)) (some 11) (.faddr 1 (.t 2)),
  .q (some (10, true)) (some 12) (.load 1 false (.t 11)),
  .q (some (10, true)) (some 13) (.faddr 1 (.t 3)),
  .q (some (10, true)) (some 14) (.load 1 false (.t 13)),
  .q (some (10, true)) (some 15) (.bin .eql (.t 12) (.t 14)),
  .q none (some 16) (.pick (.t 10) (.t 15) (.k (.d (.bool false)))),
  .q none (some 4) (.mv (.t 16))])
 .ret)))⟩
theorem c52 : chkF Γz.P Γz.E 52 2 i52 = true := by kernel_rfl
noncomputable def i53 : FI := -- cosigner/cosignerref01.SameKinds
 ⟨41, [.t 4],
 (.seq (.ops [.q none (some 4) (.mv (.k (.d (.bool false))))])
 (.kp [0, 1] (.seq (.seq (.ops [.q none (some 6) (.mv (.t 0)),
  .q none (some 7) (.len (.t 6)),
  .q none (some 8) (.mv (.t 1)),
  .q none (some 9) (.len (.t 8)),
  .q none (some 10) (.bin .neq (.t 7) (.t 9))])
 (.kp [0, 1, 10] (.cond (.t 10) (.seq (.ops [.q none (some 4) (.mv (.k (.d (.bool false))))])
 .ret) .skip)))
 (.kp [0, 1] (.seq (.seq (.ops [.q none (some 5) (.mv (.k (.d (.int .i64 0))))])
 (.kp [0, 1, 5] (.block 0 (.loop [0, 1, 5] (.seq (.seq (.ops [.q none (some 11) (.mv (.t 5)),
  .q none (some 12) (.mv (.t 0)),
  .q none (some 13) (.len (.t 12)),
  .q none (some 14) (.bin .lss (.t 11) (.t 13))])
 (.kp [0, 1, 5, 14] (.cond (.t 14) .skip (.exit 0))))
 (.kp [0, 1, 5] (.seq (.block 1 (.seq (.draw (.q 0 (.q none (some 17) (.mv (.t 0))) (.q 1 (.q none (some 18) (.mv (.t 5))) (.q 2 (.q none (some 19) (.iaddr 4 (.t 17) (.t 18))) (.q 3 (.q none (some 20) (.faddr 0 (.t 19))) (.q 4 (.q none (some 21) (.load 1 false (.t 20))) (.q 5 (.q none (some 22) (.mv (.t 1))) (.q 6 (.q none (some 23) (.mv (.t 5))) (.q 7 (.q none (some 24) (.iaddr 4 (.t 22) (.t 23))) (.q 8 (.q none (some 25) (.faddr 0 (.t 24))) (.q 9 (.q none (some 26) (.load 1 false (.t 25))) (.q 10 (.q none (some 27) (.bin .neq (.t 21) (.t 26))) (.q 11 (.q none (some 28) (.mv (.t 27))) (.q 12 (.q (some (28, false)) (some 29) (.mv (.t 0))) (.q 13 (.q (some (28, false)) (some 30) (.mv (.t 5))) (.q 14 (.q (some (28, false)) (some 31) (.iaddr 4 (.t 29) (.t 30))) (.q 15 (.q (some (28, false)) (some 32) (.faddr 1 (.t 31))) (.q 16 (.q (some (28, false)) (some 33) (.load 1 false (.t 32))) (.q 17 (.q (some (28, false)) (some 34) (.mv (.t 1))) (.q 18 (.q (some (28, false)) (some 35) (.mv (.t 5))) (.q 19 (.q (some (28, false)) (some 36) (.iaddr 4 (.t 34) (.t 35))) (.q 20 (.q (some (28, false)) (some 37) (.faddr 1 (.t 36))) (.q 21 (.q (some (28, false)) (some 38) (.load 1 false (.t 37))) (.q 22 (.q (some (28, false)) (some 39) (.bin .neq (.t 33) (.t 38))) (.q 23 (.q none (some 40) (.pick (.t 28) (.k (.d (.bool true))) (.t 39))) .done)))))))))))))))))))))))))
 (.kp [0, 1, 5, 40] (.cond (.t 40) (.seq (.ops [.q none (some 4) (.mv (.k (.d (.bool false))))])
 .ret) .skip))))
 (.kp [0, 1, 5] (.ops [.q none (some 15) (.mv (.t 5)),
  .q none (some 16) (.bin .add (.t 15) (.k (.d (.int .i64 1)))),
  .q none (some 5) (.mv (.t 16))])))))))))
 (.kp [] (.seq (.ops [.q none (some 4) (.mv (.k (.d (.bool true))))])
 .ret)))))))⟩
theorem c53 : chkF Γz.P Γz.E 53 2 i53 = true := by kernel_rfl
noncomputable def i55 : FI := -- (*strings.Builder).WriteString
 ⟨19, [.t 4, .t 5],
 (.seq (.ops [.q none (some 4) (.mv (.k (.d (.int .i64 0)))),
  .q none (some 5) (.mv (.k .nili))])
 (.kp [0, 1] (.seq (.ops [.q none (some 6) (.mv (.t 0)),
  .call none (some 7) 83 [(.t 6)]])
 (.kp [0, 1] (.seq (.ops [.q none (some 8) (.mv (.t 0)),
  .q none (some 9) (.mv (.t 0)),
  .q none (some 10) (.nilchk (.t 9)),
  .q none (some 11) (.faddr 1 (.t 10)),
  .q none (some 12) (.load 1 false (.t 11)),
  .q none (some 13) (.mv (.t 1)),
  .e none (some 14) (.append 5 1 true (.t 12) (.t 13)),
  .q none (some 15) (.nilchk (.t 8)),
  .q none (some 16) (.faddr 1 (.t 15)),
  .e none none (.store 1 (.t 16) (.t 14))])
 (.kp [1] (.seq (.ops [.q none (some 17) (.mv (.t 1)),
  .q none (some 18) (.slen (.t 17)),
  .q none (some 4) (.mv (.t 18)),
  .q none (some 5) (.mv (.k .nili))])
 .ret)))))))⟩
theorem c55 : chkF Γz.P Γz.E 55 2 i55 = true := by kernel_rfl
noncomputable def i56 : FI := -- (*strings.Builder).Len
 ⟨8, [.t 2],
 (.seq (.ops [.q none (some 2) (.mv (.k (.d (.int .i64 0))))])
 (.kp [0] (.seq (.ops [.q none (some 3) (.mv (.t 0)),
  .q none (some 4) (.nilchk (.t 3)),
  .q none (some 5) (.faddr 1 (.t 4)),
  .q none (some 6) (.load 1 false (.t 5)),
  .q none (some 7) (.len (.t 6)),
  .q none (some 2) (.mv (.t 7))])
 .ret)))⟩
theorem c56 : chkF Γz.P Γz.E 56 1 i56 = true := by kernel_rfl
-- 57 (*strings.Builder).String: not covered
noncomputable def i59 : FI := -- cmp.Or[int]
 ⟨18, [.t 2],
 (.seq (.ops [.q none (some 2) (.mv (.k (.d (.int .i64 0))))])
 (.kp [0] (.seq (.ops [.q none (some 3) (.mv (.k (.d (.int .i64 0))))])
 (.kp [0, 3] (.seq (.seq (.ops [.q none (some 6) (.mv (.t 0)),
  .q none (some 7) (.len (.t 6)),
  .q none (some 8) (.mv (.k (.d (.int .i64 0))))])
 (.kp [3, 6, 7, 8] (.block 0 (.loop [3, 6, 7, 8] (.seq (.ops [.q none (some 9) (.bin .lss (.t 8) (.t 7))])
 (.kp [3, 6, 7, 8, 9] (.seq (.cond (.t 9) .skip (.exit 0))
 (.kp [3, 6, 7, 8] (.seq (.block 1 (.seq (.ops [.q none (some 10) (.iaddr 1 (.t 6) (.t 8)),
  .q none (some 11) (.load 1 false (.t 10)),
  .q none (some 5) (.mv (.t 11))])
 (.kp [3, 5, 6, 7, 8] (.seq (.ops [.q none (some 12) (.mv (.t 5)),
  .q none (some 13) (.mv (.t 3)),
  .q none (some 14) (.bin .neq (.t 12) (.t 13))])
 (.kp [3, 5, 6, 7, 8, 14] (.cond (.t 14) (.seq (.ops [.q none (some 15) (.mv (.t 5)),
  .q none (some 2) (.mv (.t 15))])
 .ret) .skip))))))
 (.kp [3, 6, 7, 8] (.ops [.q none (some 16) (.bin .add (.t 8) (.k (.d (.int .i64 1)))),
  .q none (some 8) (.mv (.t 16))])))))))))))
 (.kp [3] (.seq (.ops [.q none (some 17) (.mv (.t 3)),
  .q none (some 2) (.mv (.t 17))])
 .ret)))))))⟩
theorem c59 : chkF Γz.P Γz.E 59 1 i59 = true := by kernel_rfl
noncomputable def i62 : FI := -- cosigner/lex.pieces
 ⟨4, [.t 2],
 (.seq (.ops [.e none (some 1) (.fbox 9 (.t 0)),
  .q none (some 2) (.mv (.k .nilfn))])
 (.kp [1] (.seq (.ops [.q none (some 3) (.mkfn 88 [] [(.t 1)]),
  .q none (some 2) (.mv (.t 3))])
 .ret)))⟩
theorem c62 : chkF Γz.P Γz.E 62 1 i62 = true := by kernel_rfl
noncomputable def i64 : FI := -- cosigner/cosignerref01.Offset
 ⟨60, [.c 4 2 true],
 (.seq (.ops [.e none (some 3) (.box 28 (.t 1)),
  .e none (some 4) (.alloc 112 [(.d (.int .i64 0)), (.d (.int .i64 0))])])
 (.kp [0, 3, 4] (.seq (.ops [.q none (some 8) (.mv (.t 0)),
  .call none (some 9) 38 [(.t 8)],
  .q none (some 5) (.mv (.t 9))])
 (.kp [3, 4, 5] (.seq (.seq (.draw (.q 0 (.q none (some 10) (.faddr 0 (.t 3))) (.q 1 (.q none (some 11) (.load 1 false (.t 10))) (.q 2 (.q none (some 12) (.bin .lss (.t 11) (.k (.d (.int .i64 1))))) (.q 3 (.q none (some 13) (.mv (.t 12))) (.q 4 (.q (some (13, false)) (some 14) (.faddr 0 (.t 3))) (.q 5 (.q (some (13, false)) (some 15) (.load 1 false (.t 14))) (.q 6 (.q (some (13, false)) (some 16) (.mv (.t 5))) (.q 7 (.q (some (13, false)) (some 17) (.len (.t 16))) (.q 8 (.q (some (13, false)) (some 18) (.bin .gtr (.t 15) (.t 17))) (.q 9 (.q none (some 19) (.pick (.t 13) (.k (.d (.bool true))) (.t 18))) (.q 10 (.q none (some 20) (.mv (.t 19))) (.q 11 (.q (some (20, false)) (some 21) (.faddr 1 (.t 3))) (.q 12 (.q (some (20, false)) (some 22) (.load 1 false (.t 21))) (.q 13 (.q (some (20, false)) (some 23) (.bin .lss (.t 22) (.k (.d (.int .i64 1))))) (.q 14 (.q none (some 24) (.pick (.t 20) (.k (.d (.bool true))) (.t 23))) (.q 15 (.q none (some 25) (.mv (.t 24))) (.q 16 (.q (some (25, false)) (some 26) (.faddr 1 (.t 3))) (.q 17 (.q (some (25, false)) (some 27) (.load 1 false (.t 26))) (.q 18 (.q (some (25, false)) (some 28) (.mv (.t 5))) (.q 19 (.q (some (25, false)) (some 29) (.faddr 0 (.t 3))) (.q 20 (.q (some (25, false)) (some 30) (.load 1 false (.t 29))) (.q 21 (.q (some (25, false)) (some 31) (.bin .sub (.t 30) (.k (.d (.int .i64 1))))) (.q 22 (.q (some (25, false)) (some 32) (.mx (.k (.d (.int .i64 0))) [(.t 31)])) (.q 23 (.q (some (25, false)) (some 33) (.iaddr 1 (.t 28) (.t 32))) (.q 24 (.q (some (25, false)) (some 34) (.load 1 false (.t 33))) (.q 25 (.q (some (25, false)) (some 35) (.slen (.t 34))) (.q 26 (.q (some (25, false)) (some 36) (.bin .add (.t 35) (.k (.d (.int .i64 1))))) (.q 27 (.q (some (25, false)) (some 37) (.bin .gtr (.t 27) (.t 36))) (.q 28 (.q none (some 38) (.pick (.t 25) (.k (.d (.bool true))) (.t 37))) .done))))))))))))))))))))))))))))))
 (.kp [3, 4, 5, 38] (.cond (.t 38) (.seq (.ops [.q none (some 39) (.build [(.int .i64 0), (.int .i64 0)] [(1, 1, (.k (.d (.int .i64 1))))]),
  .e none none (.store 2 (.t 4) (.t 39))])
 .ret) .skip)))
 (.kp [3, 4, 5] (.seq (.ops [.q none (some 40) (.faddr 1 (.t 3)),
  .q none (some 41) (.load 1 false (.t 40)),
  .q none (some 42) (.bin .sub (.t 41) (.k (.d (.int .i64 1)))),
  .q none (some 6) (.mv (.t 42))])
 (.kp [3, 4, 5, 6] (.seq (.seq (.ops [.q none (some 7) (.mv (.k (.d (.int .i64 0))))])
 (.kp [3, 4, 5, 6, 7] (.block 0 (.loop [3, 4, 5, 6, 7] (.seq (.seq (.ops [.q none (some 43) (.mv (.t 7)),
  .q none (some 44) (.faddr 0 (.t 3)),
  .q none (some 45) (.load 1 false (.t 44)),
  .q none (some 46) (.bin .sub (.t 45) (.k (.d (.int .i64 1)))),
  .q none (some 47) (.bin .lss (.t 43) (.t 46))])
 (.kp [3, 4, 5, 6, 7, 47] (.cond (.t 47) .skip (.exit 0))))
 (.kp [3, 4, 5, 6, 7] (.seq (.block 1 (.ops [.q none (some 50) (.mv (.t 6)),
  .q none (some 51) (.mv (.t 5)),
  .q none (some 52) (.mv (.t 7)),
  .q none (some 53) (.iaddr 1 (.t 51) (.t 52)),
  .q none (some 54) (.load 1 false (.t 53)),
  .q none (some 55) (.slen (.t 54)),
  .q none (some 56) (.bin .add (.t 50) (.t 55)),
  .q none (some 57) (.bin .add (.t 56) (.k (.d (.int .i64 1)))),
  .q none (some 6) (.mv (.t 57))]))
 (.kp [3, 4, 5, 6, 7] (.ops [.q none (some 48) (.mv (.t 7)),
  .q none (some 49) (.bin .add (.t 48) (.k (.d (.int .i64 1)))),
  .q none (some 7) (.mv (.t 49))])))))))))
 (.kp [4, 6] (.seq (.ops [.q none (some 58) (.mv (.t 6)),
  .q none (some 59) (.build [(.int .i64 0), (.int .i64 0)] [(0, 1, (.t 58))]),
  .e none none (.store 2 (.t 4) (.t 59))])
 .ret)))))))))))⟩
theorem c64 : chkF Γz.P Γz.E 64 2 i64 = true := by kernel_rfl
noncomputable def i65 : FI := -- cosigner/cosignerref01.note
 ⟨41, [.t 4, .t 5],
 (.seq (.ops [.q none (some 4) (.mv (.k (.d (.int .i64 0)))),
  .q none (some 5) (.mv (.k (.d (.int .i64 0))))])
 (.kp [0, 1] (.seq (.ops [.q none (some 6) (.mv (.k (.d (.int .i64 2))))])
 (.kp [0, 1, 6] (.seq (.block 0 (.loop [0, 1, 6] (.seq (.seq (.ops [.q none (some 7) (.mv (.t 1)),
  .q none (some 8) (.mv (.t 6)),
  .q none (some 9) (.bin .add (.t 7) (.t 8)),
  .q none (some 10) (.mv (.t 0)),
  .q none (some 11) (.slen (.t 10)),
  .q none (some 12) (.bin .lss (.t 9) (.t 11)),
  .q none (some 13) (.mv (.t 12)),
  .q (some (13, true)) (some 14) (.mv (.t 0)),
  .q (some (13, true)) (some 15) (.mv (.t 1)),
  .q (some (13, true)) (some 16) (.mv (.t 6)),
  .q (some (13, true)) (some 17) (.bin .add (.t 15) (.t 16)),
  .q (some (13, true)) (some 18) (.sindex (.t 14) (.t 17)),
  .q (some (13, true)) (some 19) (.bin .neq (.t 18) (.k (.d (.int .u8 10)))),
  .q none (some 20) (.pick (.t 13) (.t 19) (.k (.d (.bool false))))])
 (.kp [0, 1, 6, 20] (.cond (.t 20) .skip (.exit 0))))
 (.kp [0, 1, 6] (.block 1 (.seq (.seq (.ops [.q none (some 21) (.mv (.t 0)),
  .q none (some 22) (.mv (.t 1)),
  .q none (some 23) (.mv (.t 6)),
  .q none (some 24) (.bin .add (.t 22) (.t 23)),
  .q none (some 25) (.sindex (.t 21) (.t 24)),
  .q none (some 26) (.bin .lss (.t 25) (.k (.d (.int .u8 32)))),
  .q none (some 27) (.mv (.t 26)),
  .q (some (27, false)) (some 28) (.mv (.t 0)),
  .q (some (27, false)) (some 29) (.mv (.t 1)),
  .q (some (27, false)) (some 30) (.mv (.t 6)),
  .q (some (27, false)) (some 31) (.bin .add (.t 29) (.t 30)),
  .q (some (27, false)) (some 32) (.sindex (.t 28) (.t 31)),
  .q (some (27, false)) (some 33) (.bin .gtr (.t 32) (.k (.d (.int .u8 126)))),
  .q none (some 34) (.pick (.t 27) (.k (.d (.bool true))) (.t 33))])
 (.kp [0, 1, 6, 34] (.cond (.t 34) (.seq (.ops [.q none (some 35) (.mv (.t 1)),
  .q none (some 36) (.mv (.t 6)),
  .q none (some 37) (.bin .add (.t 35) (.t 36)),
  .q none (some 4) (.mv (.k (.d (.int .i64 (-1))))),
  .q none (some 5) (.mv (.t 37))])
 .ret) .skip)))
 (.kp [0, 1, 6] (.ops [.q none (some 38) (.mv (.t 6)),
  .q none (some 39) (.bin .add (.t 38) (.k (.d (.int .i64 1)))),
  .q none (some 6) (.mv (.t 39))]))))))))
 (.kp [6] (.seq (.ops [.q none (some 40) (.mv (.t 6)),
  .q none (some 4) (.mv (.t 40)),
  .q none (some 5) (.mv (.k (.d (.int .i64 0))))])
 .ret)))))))⟩
theorem c65 : chkF Γz.P Γz.E 65 2 i65 = true := by kernel_rfl
noncomputable def i66 : FI := -- cosigner/cosignerref01.sign
 ⟨43, [.t 4],
 (.seq (.ops [.q none (some 4) (.mv (.k (.d (.str []))))])
 (.kp [0, 1] (.seq (.ops [.call none (some 8) 95 [],
  .q none (some 5) (.mv (.t 8))])
 (.kp [0, 1, 5] (.seq (.seq (.ops [.q none (some 6) (.mv (.k (.d (.int .i64 0))))])
 (.kp [0, 1, 5, 6] (.block 0 (.loop [0, 1, 5, 6] (.seq (.seq (.ops [.q none (some 9) (.mv (.t 6)),
  .q none (some 10) (.mv (.t 5)),
  .q none (some 11) (.len (.t 10)),
  .q none (some 12) (.bin .lss (.t 9) (.t 11))])
 (.kp [0, 1, 5, 6, 12] (.cond (.t 12) .skip (.exit 0))))
 (.kp [0, 1, 5, 6] (.seq (.block 1 (.seq (.ops [.q none (some 15) (.mv (.t 5)),
  .q none (some 16) (.mv (.t 6)),
  .q none (some 17) (.iaddr 1 (.t 15) (.t 16)),
  .q none (some 18) (.load 1 false (.t 17)),
  .q none (some 19) (.slen (.t 18)),
  .q none (some 7) (.mv (.t 19))])
 (.kp [0, 1, 5, 6, 7] (.seq (.draw (.q 0 (.q none (some 20) (.mv (.t 1))) (.q 1 (.q none (some 21) (.mv (.t 7))) (.q 2 (.q none (some 22) (.bin .add (.t 20) (.t 21))) (.q 3 (.q none (some 23) (.mv (.t 0))) (.q 4 (.q none (some 24) (.slen (.t 23))) (.q 5 (.q none (some 25) (.bin .leq (.t 22) (.t 24))) (.q 6 (.q none (some 26) (.mv (.t 25))) (.q 7 (.q (some (26, true)) (some 27) (.mv (.t 0))) (.q 8 (.q (some (26, true)) (some 28) (.mv (.t 1))) (.q 9 (.q (some (26, true)) (some 29) (.mv (.t 1))) (.q 10 (.q (some (26, true)) (some 30) (.mv (.t 7))) (.q 11 (.q (some (26, true)) (some 31) (.bin .add (.t 29) (.t 30))) (.q 12 (.q (some (26, true)) (some 32) (.sslice (.t 27) (some (.t 28)) (some (.t 31)))) (.q 13 (.q (some (26, true)) (some 33) (.mv (.t 5))) (.q 14 (.q (some (26, true)) (some 34) (.mv (.t 6))) (.q 15 (.q (some (26, true)) (some 35) (.iaddr 1 (.t 33) (.t 34))) (.q 16 (.q (some (26, true)) (some 36) (.load 1 false (.t 35))) (.q 17 (.q (some (26, true)) (some 37) (.bin .eql (.t 32) (.t 36))) (.q 18 (.q none (some 38) (.pick (.t 26) (.t 37) (.k (.d (.bool false))))) .done))))))))))))))))))))
 (.kp [0, 1, 5, 6, 38] (.cond (.t 38) (.seq (.ops [.q none (some 39) (.mv (.t 5)),
  .q none (some 40) (.mv (.t 6)),
  .q none (some 41) (.iaddr 1 (.t 39) (.t 40)),
  .q none (some 42) (.load 1 false (.t 41)),
  .q none (some 4) (.mv (.t 42))])
 .ret) .skip))))))
 (.kp [0, 1, 5, 6] (.ops [.q none (some 13) (.mv (.t 6)),
  .q none (some 14) (.bin .add (.t 13) (.k (.d (.int .i64 1)))),
  .q none (some 6) (.mv (.t 14))])))))))))
 (.kp [] (.seq (.ops [.q none (some 4) (.mv (.k (.d (.str []))))])
 .ret)))))))⟩
theorem c66 : chkF Γz.P Γz.E 66 2 i66 = true := by kernel_rfl
noncomputable def i67 : FI := -- cosigner/cosignerref01.part
 ⟨17, [.t 2],
 (.seq (.ops [.q none (some 2) (.mv (.k (.d (.bool false))))])
 (.kp [0] (.seq (.ops [.q none (some 3) (.mv (.t 0)),
  .call none (some 4) 96 [(.t 3)],
  .q none (some 5) (.mv (.t 4)),
  .q (some (5, false)) (some 6) (.mv (.t 0)),
  .call (some (5, false)) (some 7) 97 [(.t 6)],
  .q none (some 8) (.pick (.t 5) (.k (.d (.bool true))) (.t 7)),
  .q none (some 9) (.mv (.t 8)),
  .q (some (9, false)) (some 10) (.mv (.t 0)),
  .call (some (9, false)) (some 11) 98 [(.t 10)],
  .q none (some 12) (.pick (.t 9) (.k (.d (.bool true))) (.t 11)),
  .q none (some 13) (.mv (.t 12)),
  .q (some (13, false)) (some 14) (.mv (.t 0)),
  .q (some (13, false)) (some 15) (.bin .eql (.t 14) (.k (.d (.int .u8 95)))),
  .q none (some 16) (.pick (.t 13) (.k (.d (.bool true))) (.t 15)),
  .q none (some 2) (.mv (.t 16))])
 .ret)))⟩
theorem c67 : chkF Γz.P Γz.E 67 1 i67 = true := by kernel_rfl
noncomputable def i68 : FI := -- cosigner/cosignerref01.run
 ⟨23, [.t 4],
 (.seq (.ops [.q none (some 4) (.mv (.k (.d (.int .i64 0))))])
 (.kp [0, 1] (.seq (.ops [.q none (some 5) (.mv (.k (.d (.int .i64 0))))])
 (.kp [0, 1, 5] (.seq (.block 0 (.loop [0, 1, 5] (.seq (.seq (.ops [.q none (some 6) (.mv (.t 1)),
  .q none (some 7) (.mv (.t 5)),
  .q none (some 8) (.bin .add (.t 6) (.t 7)),
  .q none (some 9) (.mv (.t 0)),
  .q none (some 10) (.slen (.t 9)),
  .q none (some 11) (.bin .lss (.t 8) (.t 10)),
  .q none (some 12) (.mv (.t 11)),
  .q (some (12, true)) (some 13) (.mv (.t 0)),
  .q (some (12, true)) (some 14) (.mv (.t 1)),
  .q (some (12, true)) (some 15) (.mv (.t 5)),
  .q (some (12, true)) (some 16) (.bin .add (.t 14) (.t 15)),
  .q (some (12, true)) (some 17) (.sindex (.t 13) (.t 16)),
  .call (some (12, true)) (some 18) 67 [(.t 17)],
  .q none (some 19) (.pick (.t 12) (.t 18) (.k (.d (.bool false))))])
 (.kp [0, 1, 5, 19] (.cond (.t 19) .skip (.exit 0))))
 (.kp [0, 1, 5] (.block 1 (.ops [.q none (some 20) (.mv (.t 5)),
  .q none (some 21) (.bin .add (.t 20) (.k (.d (.int .i64 1)))),
  .q none (some 5) (.mv (.t 21))]))))))
 (.kp [5] (.seq (.ops [.q none (some 22) (.mv (.t 5)),
  .q none (some 4) (.mv (.t 22))])
 .ret)))))))⟩
theorem c68 : chkF Γz.P Γz.E 68 2 i68 = true := by kernel_rfl
noncomputable def i69 : FI := -- cosigner/cosignerref01.Shape
 ⟨38, [.c 2 2 true],
 (.seq (.ops [.e none (some 2) (.alloc 120 [(.d (.int .i64 0)), (.d (.int .i64 0))])])
 (.kp [0, 2] (.seq (.seq (.ops [.call none (some 4) 95 [],
  .q none (some 5) (.mv (.t 0)),
  .call none (some 6) 99 [(.t 4), (.t 5)]])
 (.kp [0, 2, 6] (.cond (.t 6) (.seq (.ops [.q none (some 7) (.build [(.int .i64 0), (.int .i64 0)] [(0, 1, (.k (.d (.int .i64 5))))]),
  .e none none (.store 2 (.t 2) (.t 7))])
 .ret) .skip)))
 (.kp [0, 2] (.seq (.seq (.ops [.q none (some 8) (.mv (.t 0)),
  .q none (some 9) (.slen (.t 8)),
  .q none (some 10) (.bin .eql (.t 9) (.k (.d (.int .i64 0)))),
  .q none (some 11) (.mv (.t 10)),
  .q (some (11, false)) (some 12) (.mv (.t 0)),
  .call (some (11, false)) (some 13) 68 [(.t 12), (.k (.d (.int .i64 0)))],
  .q (some (11, false)) (some 14) (.mv (.t 0)),
  .q (some (11, false)) (some 15) (.slen (.t 14)),
  .q (some (11, false)) (some 16) (.bin .lss (.t 13) (.t 15)),
  .q none (some 17) (.pick (.t 11) (.k (.d (.bool true))) (.t 16)),
  .q none (some 18) (.mv (.t 17)),
  .q (some (18, false)) (some 19) (.mv (.t 0)),
  .q (some (18, false)) (some 20) (.sindex (.t 19) (.k (.d (.int .i64 0)))),
  .q (some (18, false)) (some 21) (.bin .eql (.t 20) (.k (.d (.int .u8 95)))),
  .q none (some 22) (.pick (.t 18) (.k (.d (.bool true))) (.t 21))])
 (.kp [0, 2, 22] (.cond (.t 22) (.seq (.ops [.q none (some 23) (.build [(.int .i64 0), (.int .i64 0)] [(1, 1, (.k (.d (.int .i64 2))))]),
  .e none none (.store 2 (.t 2) (.t 23))])
 .ret) .skip)))
 (.kp [0, 2] (.seq (.seq (.ops [.q none (some 24) (.mv (.t 0)),
  .q none (some 25) (.sindex (.t 24) (.k (.d (.int .i64 0)))),
  .call none (some 26) 98 [(.t 25)]])
 (.kp [0, 2, 26] (.cond (.t 26) (.seq (.ops [.q none (some 27) (.mv (.t 0)),
  .call none (some 28) 100 [(.t 27)],
  .e none (some 3) (.alloc 112 [(.d (.int .i64 0)), (.d (.int .i64 0))]),
  .e none none (.store 2 (.t 3) (.t 28))])
 (.kp [2, 3] (.seq (.seq (.ops [.q none (some 29) (.faddr 1 (.t 3)),
  .q none (some 30) (.load 1 false (.t 29)),
  .q none (some 31) (.bin .neq (.t 30) (.k (.d (.int .i64 0))))])
 (.kp [2, 3, 31] (.cond (.t 31) (.seq (.ops [.q none (some 32) (.faddr 1 (.t 3)),
  .q none (some 33) (.load 1 false (.t 32)),
  .q none (some 34) (.build [(.int .i64 0), (.int .i64 0)] [(1, 1, (.t 33))]),
  .e none none (.store 2 (.t 2) (.t 34))])
 .ret) .skip)))
 (.kp [2] (.seq (.ops [.q none (some 35) (.build [(.int .i64 0), (.int .i64 0)] [(0, 1, (.k (.d (.int .i64 4))))]),
  .e none none (.store 2 (.t 2) (.t 35))])
 .ret))))) .skip)))
 (.kp [0, 2] (.seq (.ops [.q none (some 36) (.mv (.t 0)),
  .call none (some 37) 101 [(.t 36)],
  .e none none (.store 2 (.t 2) (.t 37))])
 .ret)))))))))⟩
theorem c69 : chkF Γz.P Γz.E 69 1 i69 = true := by kernel_rfl
noncomputable def i70 : FI := -- slices.ContainsFunc[[]cosigner/api.Token,cosigner/api.Token]
 ⟨9, [.t 4],
 (.seq (.ops [.q none (some 4) (.mv (.k (.d (.bool false))))])
 (.kp [0, 1] (.seq (.ops [.q none (some 5) (.mv (.t 0)),
  .q none (some 6) (.mv (.t 1)),
  .call none (some 7) 102 [(.t 5), (.t 6)],
  .q none (some 8) (.bin .geq (.t 7) (.k (.d (.int .i64 0)))),
  .q none (some 4) (.mv (.t 8))])
 .ret)))⟩
theorem c70 : chkF Γz.P Γz.E 70 2 i70 = true := by kernel_rfl
noncomputable def i71 : FI := -- cosigner/lex.write$1
 ⟨6, [.t 2],
 (.seq (.ops [.e none (some 1) (.box 49 (.t 0)),
  .q none (some 2) (.mv (.k (.d (.bool false))))])
 (.kp [1] (.seq (.ops [.q none (some 3) (.load 4 true (.t 1)),
  .call none (some 4) 44 [(.t 3)],
  .q none (some 5) (.not (.t 4)),
  .q none (some 2) (.mv (.t 5))])
 .ret)))⟩
theorem c71 : chkF Γz.P Γz.E 71 1 i71 = true := by kernel_rfl
noncomputable def i72 : FI := -- (*strings.Builder).WriteByte
 ⟨17, [.t 4],
 (.seq (.ops [.q none (some 4) (.mv (.k .nili))])
 (.kp [0, 1] (.seq (.ops [.q none (some 5) (.mv (.t 0)),
  .call none (some 6) 83 [(.t 5)]])
 (.kp [0, 1] (.seq (.ops [.q none (some 7) (.mv (.t 0)),
  .q none (some 8) (.mv (.t 0)),
  .q none (some 9) (.nilchk (.t 8)),
  .q none (some 10) (.faddr 1 (.t 9)),
  .q none (some 11) (.load 1 false (.t 10)),
  .q none (some 12) (.mv (.t 1)),
  .e none (some 13) (.bslice 1 [(.t 12)]),
  .e none (some 14) (.append 5 1 false (.t 11) (.t 13)),
  .q none (some 15) (.nilchk (.t 7)),
  .q none (some 16) (.faddr 1 (.t 15)),
  .e none none (.store 1 (.t 16) (.t 14))])
 (.kp [] (.seq (.ops [.q none (some 4) (.mv (.k .nili))])
 .ret)))))))⟩
theorem c72 : chkF Γz.P Γz.E 72 2 i72 = true := by kernel_rfl
noncomputable def i73 : FI := -- cosigner/lex.Shape
 ⟨48, [.t 2, .t 3],
 (.seq (.ops [.q none (some 2) (.mv (.k (.d (.int .i64 0)))),
  .q none (some 3) (.mv (.k (.d (.int .i64 0))))])
 (.kp [0] (.seq (.block 0 (.seq (.ops [.q none (some 7) (.mv (.t 0)),
  .q none (some 8) (.bin .eql (.t 7) (.k (.d (.str [])))),
  .q none (some 6) (.mv (.t 8))])
 (.kp [0, 6] (.cond (.t 6) (.seq (.ops [.q none (some 2) (.mv (.k (.d (.int .i64 0)))),
  .q none (some 3) (.mv (.k (.d (.int .i64 2))))])
 .ret) (.seq (.ops [.q none (some 10) (.mv (.t 0)),
  .call none (some 11) 89 [(.t 10)],
  .q none (some 12) (.mv (.t 0)),
  .q none (some 13) (.slen (.t 12)),
  .q none (some 14) (.bin .eql (.t 11) (.t 13)),
  .q none (some 15) (.mv (.t 14)),
  .q (some (15, true)) (some 16) (.mv (.t 0)),
  .q (some (15, true)) (some 17) (.sindex (.t 16) (.k (.d (.int .i64 0)))),
  .call (some (15, true)) (some 18) 103 [(.t 17)],
  .q none (some 19) (.pick (.t 15) (.t 18) (.k (.d (.bool false)))),
  .q none (some 9) (.mv (.t 19))])
 (.kp [0, 9] (.cond (.t 9) (.seq (.ops [.q none (some 21) (.mv (.t 0)),
  .call none (some 22) 104 [(.t 21)],
  .q none (some 20) (.mv (.t 22)),
  .q none (some 23) (.extract (.t 20) 0),
  .q none (some 24) (.extract (.t 20) 1),
  .q none (some 4) (.mv (.t 23)),
  .q none (some 5) (.mv (.t 24))])
 (.kp [5] (.seq (.seq (.ops [.q none (some 25) (.mv (.t 5)),
  .q none (some 26) (.bin .neq (.t 25) (.k (.d (.int .i64 0))))])
 (.kp [5, 26] (.cond (.t 26) (.seq (.ops [.q none (some 27) (.mv (.t 5)),
  .q none (some 2) (.mv (.k (.d (.int .i64 0)))),
  .q none (some 3) (.mv (.t 27))])
 .ret) .skip)))
 (.kp [] (.seq (.ops [.q none (some 2) (.mv (.k (.d (.int .i64 4)))),
  .q none (some 3) (.mv (.k (.d (.int .i64 0))))])
 .ret))))) (.seq (.ops [.q none (some 29) (.mv (.t 0)),
  .call none (some 30) 89 [(.t 29)],
  .q none (some 31) (.mv (.t 0)),
  .q none (some 32) (.slen (.t 31)),
  .q none (some 33) (.bin .eql (.t 30) (.t 32)),
  .q none (some 34) (.mv (.t 33)),
  .q (some (34, true)) (some 35) (.mv (.t 0)),
  .q (some (34, true)) (some 36) (.sindex (.t 35) (.k (.d (.int .i64 0)))),
  .q (some (34, true)) (some 37) (.bin .neq (.t 36) (.k (.d (.int .u8 95)))),
  .q none (some 38) (.pick (.t 34) (.t 37) (.k (.d (.bool false)))),
  .q none (some 28) (.mv (.t 38))])
 (.kp [0, 28] (.cond (.t 28) (.seq (.ops [.q none (some 39) (.mv (.t 0)),
  .call none (some 40) 105 [(.t 39)],
  .q none (some 41) (.extract (.t 40) 0),
  .q none (some 42) (.extract (.t 40) 1),
  .q none (some 2) (.mv (.t 41)),
  .q none (some 3) (.mv (.t 42))])
 .ret) (.seq (.ops [.q none (some 44) (.mv (.t 0)),
  .call none (some 45) 93 [(.t 44)],
  .q none (some 46) (.mv (.t 0)),
  .q none (some 47) (.bin .eql (.t 45) (.t 46)),
  .q none (some 43) (.mv (.t 47))])
 (.kp [43] (.cond (.t 43) (.seq (.ops [.q none (some 2) (.mv (.k (.d (.int .i64 5)))),
  .q none (some 3) (.mv (.k (.d (.int .i64 0))))])
 .ret) .skip)))))))))))))
 (.kp [] (.seq (.ops [.q none (some 2) (.mv (.k (.d (.int .i64 0)))),
  .q none (some 3) (.mv (.k (.d (.int .i64 2))))])
 .ret)))))⟩
theorem c73 : chkF Γz.P Γz.E 73 1 i73 = true := by kernel_rfl
noncomputable def i74 : FI := -- cosigner/lex.note
 ⟨5, [.t 2],
 (.seq (.ops [.q none (some 2) (.mv (.k (.d (.bool false))))])
 (.kp [0] (.seq (.ops [.q none (some 3) (.mv (.t 0)),
  .q none (some 4) (.bin .eql (.t 3) (.k (.d (.int .i64 6)))),
  .q none (some 2) (.mv (.t 4))])
 .ret)))⟩
theorem c74 : chkF Γz.P Γz.E 74 1 i74 = true := by kernel_rfl
-- 79 (*strings.Builder).Grow: not covered
-- 83 (*strings.Builder).copyCheck: not covered
noncomputable def i88 : FI := -- cosigner/lex.pieces$1
 ⟨91, [],
 (.seq (.ops [.q none (some 3) (.mv (.k (.d (.int .i64 0))))])
 (.kp [0, 1, 3, 1000000000] (.block 0 (.loop [0, 1, 3, 1000000000] (.seq (.seq (.ops [.q none (some 8) (.mv (.t 3)),
  .q none (some 9) (.load 1 false (.t 1)),
  .q none (some 10) (.slen (.t 9)),
  .q none (some 11) (.bin .lss (.t 8) (.t 10))])
 (.kp [0, 1, 3, 11, 1000000000] (.cond (.t 11) .skip (.exit 0))))
 (.kp [0, 1, 3, 1000000000] (.block 1 (.seq (.ops [.q none (some 12) (.load 1 false (.t 1)),
  .q none (some 13) (.mv (.t 3)),
  .q none (some 14) (.sslice (.t 12) (some (.t 13)) none),
  .q none (some 4) (.mv (.t 14))])
 (.kp [0, 1, 3, 4, 1000000000] (.seq (.ops [.q none (some 15) (.mv (.t 3)),
  .q none (some 16) (.build [(.int .i64 0), (.str []), (.int .i64 0), (.int .i64 0), (.int .i64 0), (.int .i64 0)] [(4, 1, (.t 15))]),
  .e none (some 5) (.alloc 108 [(.d (.int .i64 0)), (.d (.str [])), (.d (.int .i64 0)), (.d (.int .i64 0)), (.d (.int .i64 0)), (.d (.int .i64 0))]),
  .e none none (.store 6 (.t 5) (.t 16))])
 (.kp [0, 1, 3, 4, 5, 1000000000] (.seq (.ops [.q none (some 17) (.mv (.t 4)),
  .call none (some 18) 89 [(.t 17)],
  .q none (some 6) (.mv (.t 18))])
 (.kp [0, 1, 3, 4, 5, 6, 1000000000] (.seq (.block 2 (.seq (.ops [.q none (some 33) (.mv (.t 4)),
  .q none (some 34) (.sindex (.t 33) (.k (.d (.int .i64 0)))),
  .q none (some 35) (.bin .eql (.t 34) (.k (.d (.int .u8 32)))),
  .q none (some 32) (.mv (.t 35))])
 (.kp [0, 1, 3, 4, 5, 6, 32, 1000000000] (.cond (.t 32) (.seq (.ops [.q none (some 36) (.mv (.t 3)),
  .q none (some 37) (.bin .add (.t 36) (.k (.d (.int .i64 1)))),
  .q none (some 3) (.mv (.t 37))])
 (.kp [0, 1, 3, 1000000000] (.exit 1))) (.seq (.ops [.q none (some 39) (.mv (.t 4)),
  .call none (some 40) 90 [(.t 39), (.k (.d (.str [45, 45])))],
  .q none (some 38) (.mv (.t 40))])
 (.kp [0, 1, 3, 4, 5, 6, 38, 1000000000] (.cond (.t 38) (.seq (.ops [.q none (some 41) (.mv (.t 4)),
  .q none (some 42) (.faddr 0 (.t 5)),
  .q none (some 43) (.faddr 0 (.t 42)),
  .e none none (.store 1 (.t 43) (.k (.d (.int .i64 6)))),
  .q none (some 44) (.faddr 0 (.t 5)),
  .q none (some 45) (.faddr 1 (.t 44)),
  .e none none (.store 1 (.t 45) (.t 41))])
 (.kp [0, 1, 3, 4, 5, 1000000000] (.seq (.ops [.q none (some 46) (.mv (.t 4)),
  .q none (some 47) (.slen (.t 46)),
  .q none (some 6) (.mv (.t 47))])
 (.kp [0, 1, 3, 4, 5, 6, 1000000000] (.seq (.ops [.q none (some 48) (.mv (.t 4)),
  .call none (some 49) 91 [(.t 48), (.f 92)],
  .q none (some 7) (.mv (.t 49))])
 (.kp [0, 1, 3, 5, 6, 7, 1000000000] (.seq (.ops [.q none (some 50) (.mv (.t 7)),
  .q none (some 51) (.bin .geq (.t 50) (.k (.d (.int .i64 0))))])
 (.kp [0, 1, 3, 5, 6, 7, 51, 1000000000] (.cond (.t 51) (.ops [.q none (some 52) (.mv (.t 3)),
  .q none (some 53) (.mv (.t 7)),
  .q none (some 54) (.bin .add (.t 52) (.t 53)),
  .q none (some 55) (.build [(.int .i64 0), (.str []), (.int .i64 0), (.int .i64 0), (.int .i64 0), (.int .i64 0)] [(4, 1, (.t 54)), (5, 1, (.k (.d (.int .i64 2))))]),
  .e none none (.store 6 (.t 5) (.t 55))]) .skip))))))))) (.seq (.ops [.q none (some 57) (.mv (.t 6)),
  .q none (some 58) (.bin .gtr (.t 57) (.k (.d (.int .i64 0)))),
  .q none (some 59) (.mv (.t 58)),
  .q (some (59, true)) (some 60) (.mv (.t 4)),
  .q (some (59, true)) (some 61) (.sindex (.t 60) (.k (.d (.int .i64 0)))),
  .q (some (59, true)) (some 62) (.bin .neq (.t 61) (.k (.d (.int .u8 95)))),
  .q none (some 63) (.pick (.t 59) (.t 62) (.k (.d (.bool false)))),
  .q none (some 56) (.mv (.t 63))])
 (.kp [0, 1, 3, 4, 5, 6, 56, 1000000000] (.cond (.t 56) (.seq (.ops [.q none (some 64) (.mv (.t 4)),
  .q none (some 65) (.mv (.t 6)),
  .q none (some 66) (.sslice (.t 64) none (some (.t 65))),
  .q none (some 67) (.faddr 0 (.t 5)),
  .q none (some 68) (.faddr 1 (.t 67)),
  .e none none (.store 1 (.t 68) (.t 66))])
 (.kp [0, 1, 3, 5, 6, 1000000000] (.ops [.q none (some 70) (.faddr 0 (.t 5)),
  .q none (some 71) (.faddr 1 (.t 70)),
  .q none (some 72) (.load 1 false (.t 71)),
  .call none (some 73) 73 [(.t 72)],
  .q none (some 69) (.mv (.t 73)),
  .q none (some 74) (.extract (.t 69) 0),
  .q none (some 75) (.extract (.t 69) 1),
  .q none (some 76) (.faddr 0 (.t 5)),
  .q none (some 77) (.faddr 0 (.t 76)),
  .e none none (.store 1 (.t 77) (.t 74)),
  .q none (some 78) (.faddr 5 (.t 5)),
  .e none none (.store 1 (.t 78) (.t 75))]))) (.seq (.ops [.q none (some 19) (.mv (.t 4)),
  .call none (some 20) 93 [(.t 19)],
  .q none (some 21) (.faddr 0 (.t 5)),
  .q none (some 22) (.faddr 0 (.t 21)),
  .e none none (.store 1 (.t 22) (.k (.d (.int .i64 5)))),
  .q none (some 23) (.faddr 0 (.t 5)),
  .q none (some 24) (.faddr 1 (.t 23)),
  .e none none (.store 1 (.t 24) (.t 20))])
 (.kp [0, 1, 3, 5, 1000000000] (.seq (.ops [.q none (some 25) (.faddr 0 (.t 5)),
  .q none (some 26) (.faddr 1 (.t 25)),
  .q none (some 27) (.load 1 false (.t 26)),
  .q none (some 28) (.slen (.t 27)),
  .q none (some 6) (.mv (.t 28))])
 (.kp [0, 1, 3, 5, 6, 1000000000] (.seq (.ops [.q none (some 29) (.mv (.t 6)),
  .q none (some 30) (.bin .eql (.t 29) (.k (.d (.int .i64 0))))])
 (.kp [0, 1, 3, 5, 6, 30, 1000000000] (.cond (.t 30) (.ops [.q none (some 31) (.faddr 5 (.t 5)),
  .e none none (.store 1 (.t 31) (.k (.d (.int .i64 2))))]) .skip)))))))))))))))))
 (.kp [0, 1, 3, 5, 6, 1000000000] (.seq (.seq (.ops [.q none (some 79) (.mv (.t 0)),
  .q none (some 80) (.load 6 true (.t 5)),
  .yld (some 81) (.t 79) (.t 80),
  .q none (some 82) (.not (.t 81)),
  .q none (some 83) (.mv (.t 82)),
  .q (some (83, false)) (some 84) (.faddr 5 (.t 5)),
  .q (some (83, false)) (some 85) (.load 1 false (.t 84)),
  .q (some (83, false)) (some 86) (.bin .neq (.t 85) (.k (.d (.int .i64 0)))),
  .q none (some 87) (.pick (.t 83) (.k (.d (.bool true))) (.t 86))])
 (.kp [0, 1, 3, 6, 87, 1000000000] (.cond (.t 87) .ret .skip)))
 (.kp [0, 1, 3, 6, 1000000000] (.ops [.q none (some 88) (.mv (.t 3)),
  .q none (some 89) (.mv (.t 6)),
  .q none (some 90) (.bin .add (.t 88) (.t 89)),
  .q none (some 3) (.mv (.t 90))]))))))))))))))))))⟩
theorem c88 : chkF Γz.P Γz.E 88 2 i88 = true := by kernel_rfl
noncomputable def i89 : FI := -- cosigner/lex.run
 ⟨17, [.t 2],
 (.seq (.ops [.q none (some 2) (.mv (.k (.d (.int .i64 0))))])
 (.kp [0] (.seq (.ops [.q none (some 3) (.mv (.k (.d (.int .i64 0))))])
 (.kp [0, 3] (.seq (.block 0 (.loop [0, 3] (.seq (.seq (.ops [.q none (some 4) (.mv (.t 3)),
  .q none (some 5) (.mv (.t 0)),
  .q none (some 6) (.slen (.t 5)),
  .q none (some 7) (.bin .lss (.t 4) (.t 6)),
  .q none (some 8) (.mv (.t 7)),
  .q (some (8, true)) (some 9) (.mv (.t 0)),
  .q (some (8, true)) (some 10) (.mv (.t 3)),
  .q (some (8, true)) (some 11) (.sindex (.t 9) (.t 10)),
  .call (some (8, true)) (some 12) 113 [(.t 11)],
  .q none (some 13) (.pick (.t 8) (.t 12) (.k (.d (.bool false))))])
 (.kp [0, 3, 13] (.cond (.t 13) .skip (.exit 0))))
 (.kp [0, 3] (.block 1 (.ops [.q none (some 14) (.mv (.t 3)),
  .q none (some 15) (.bin .add (.t 14) (.k (.d (.int .i64 1)))),
  .q none (some 3) (.mv (.t 15))]))))))
 (.kp [3] (.seq (.ops [.q none (some 16) (.mv (.t 3)),
  .q none (some 2) (.mv (.t 16))])
 .ret)))))))⟩
theorem c89 : chkF Γz.P Γz.E 89 1 i89 = true := by kernel_rfl
noncomputable def i92 : FI := -- cosigner/lex.pieces$1$1
 ⟨9, [.t 2],
 (.seq (.ops [.q none (some 2) (.mv (.k (.d (.bool false))))])
 (.kp [0] (.seq (.ops [.q none (some 3) (.mv (.t 0)),
  .q none (some 4) (.bin .lss (.t 3) (.k (.d (.int .i32 32)))),
  .q none (some 5) (.mv (.t 4)),
  .q (some (5, false)) (some 6) (.mv (.t 0)),
  .q (some (5, false)) (some 7) (.bin .gtr (.t 6) (.k (.d (.int .i32 126)))),
  .q none (some 8) (.pick (.t 5) (.k (.d (.bool true))) (.t 7)),
  .q none (some 2) (.mv (.t 8))])
 .ret)))⟩
theorem c92 : chkF Γz.P Γz.E 92 1 i92 = true := by kernel_rfl
noncomputable def i93 : FI := -- cosigner/lex.sign
 ⟨16, [.t 2],
 (.seq (.ops [.q none (some 2) (.mv (.k (.d (.str []))))])
 (.kp [0] (.scope (.seq (.ops [.q none (some 3) (.mv (.k (.d (.str []))))])
 (.kp [0, 3] (.seq .skip
 (.kp [0, 3] (.seq (.seq (.ops [.call none (some 6) 116 [],
  .q none (some 7) (.mv (.k (.d (.int .i64 0))))])
 (.kp [0, 3, 6, 7] (.block 0 (.loop [0, 3, 6, 7] (.seq (.ops [.q none (some 8) (.bin .lss (.t 7) (.k (.d (.int .i64 22))))])
 (.kp [0, 3, 6, 7, 8] (.seq (.cond (.t 8) .skip (.exit 0))
 (.kp [0, 3, 6, 7] (.seq (.block 1 (.seq (.ops [.q none (some 9) (.aindex 22 1 false (.t 6) (.t 7)),
  .q none (some 5) (.mv (.t 9))])
 (.kp [0, 3, 5, 6, 7] (.seq (.ops [.q none (some 10) (.mv (.t 0)),
  .q none (some 11) (.mv (.t 5)),
  .call none (some 12) 90 [(.t 10), (.t 11)]])
 (.kp [0, 3, 5, 6, 7, 12] (.cond (.t 12) (.seq (.ops [.q none (some 13) (.mv (.t 5)),
  .q none (some 3) (.mv (.t 13))])
 (.kp [3] (.exit 0))) .skip))))))
 (.kp [0, 3, 6, 7] (.ops [.q none (some 14) (.bin .add (.t 7) (.k (.d (.int .i64 1)))),
  .q none (some 7) (.mv (.t 14))])))))))))))
 (.kp [3] (.seq (.ops [.q none (some 15) (.mv (.t 3)),
  .q none (some 2) (.mv (.t 15))])
 .ret))))))))))⟩
theorem c93 : chkF Γz.P Γz.E 93 1 i93 = true := by kernel_rfl
noncomputable def i95 : FI := -- cosigner/cosignerref01.signs
 ⟨2, [.t 0],
 (.seq (.ops [.q none (some 0) (.mv (.k .snil))])
 (.kp [] (.seq (.ops [.e none (some 1) (.bslice 1 [(.k (.d (.str [58, 61]))), (.k (.d (.str [47, 61]))), (.k (.d (.str [60, 61]))), (.k (.d (.str [62, 61]))), (.k (.d (.str [47, 47]))), (.k (.d (.str [61]))), (.k (.d (.str [60]))), (.k (.d (.str [62]))), (.k (.d (.str [43]))), (.k (.d (.str [45]))), (.k (.d (.str [42]))), (.k (.d (.str [37]))), (.k (.d (.str [40]))), (.k (.d (.str [41]))), (.k (.d (.str [91]))), (.k (.d (.str [93]))), (.k (.d (.str [123]))), (.k (.d (.str [125]))), (.k (.d (.str [44]))), (.k (.d (.str [59]))), (.k (.d (.str [58]))), (.k (.d (.str [46])))]),
  .q none (some 0) (.mv (.t 1))])
 .ret)))⟩
theorem c95 : chkF Γz.P Γz.E 95 0 i95 = true := by kernel_rfl
noncomputable def i96 : FI := -- cosigner/cosignerref01.small
 ⟨9, [.t 2],
 (.seq (.ops [.q none (some 2) (.mv (.k (.d (.bool false))))])
 (.kp [0] (.seq (.ops [.q none (some 3) (.mv (.t 0)),
  .q none (some 4) (.bin .geq (.t 3) (.k (.d (.int .u8 97)))),
  .q none (some 5) (.mv (.t 4)),
  .q (some (5, true)) (some 6) (.mv (.t 0)),
  .q (some (5, true)) (some 7) (.bin .leq (.t 6) (.k (.d (.int .u8 122)))),
  .q none (some 8) (.pick (.t 5) (.t 7) (.k (.d (.bool false)))),
  .q none (some 2) (.mv (.t 8))])
 .ret)))⟩
theorem c96 : chkF Γz.P Γz.E 96 1 i96 = true := by kernel_rfl
noncomputable def i97 : FI := -- cosigner/cosignerref01.capital
 ⟨9, [.t 2],
 (.seq (.ops [.q none (some 2) (.mv (.k (.d (.bool false))))])
 (.kp [0] (.seq (.ops [.q none (some 3) (.mv (.t 0)),
  .q none (some 4) (.bin .geq (.t 3) (.k (.d (.int .u8 65)))),
  .q none (some 5) (.mv (.t 4)),
  .q (some (5, true)) (some 6) (.mv (.t 0)),
  .q (some (5, true)) (some 7) (.bin .leq (.t 6) (.k (.d (.int .u8 90)))),
  .q none (some 8) (.pick (.t 5) (.t 7) (.k (.d (.bool false)))),
  .q none (some 2) (.mv (.t 8))])
 .ret)))⟩
theorem c97 : chkF Γz.P Γz.E 97 1 i97 = true := by kernel_rfl
noncomputable def i98 : FI := -- cosigner/cosignerref01.digit
 ⟨9, [.t 2],
 (.seq (.ops [.q none (some 2) (.mv (.k (.d (.bool false))))])
 (.kp [0] (.seq (.ops [.q none (some 3) (.mv (.t 0)),
  .q none (some 4) (.bin .geq (.t 3) (.k (.d (.int .u8 48)))),
  .q none (some 5) (.mv (.t 4)),
  .q (some (5, true)) (some 6) (.mv (.t 0)),
  .q (some (5, true)) (some 7) (.bin .leq (.t 6) (.k (.d (.int .u8 57)))),
  .q none (some 8) (.pick (.t 5) (.t 7) (.k (.d (.bool false)))),
  .q none (some 2) (.mv (.t 8))])
 .ret)))⟩
theorem c98 : chkF Γz.P Γz.E 98 1 i98 = true := by kernel_rfl
noncomputable def i99 : FI := -- cosigner/cosignerref01.has
 ⟨18, [.t 4],
 (.seq (.ops [.q none (some 4) (.mv (.k (.d (.bool false))))])
 (.kp [0, 1] (.seq (.seq (.ops [.q none (some 5) (.mv (.k (.d (.int .i64 0))))])
 (.kp [0, 1, 5] (.block 0 (.loop [0, 1, 5] (.seq (.seq (.ops [.q none (some 6) (.mv (.t 5)),
  .q none (some 7) (.mv (.t 0)),
  .q none (some 8) (.len (.t 7)),
  .q none (some 9) (.bin .lss (.t 6) (.t 8))])
 (.kp [0, 1, 5, 9] (.cond (.t 9) .skip (.exit 0))))
 (.kp [0, 1, 5] (.seq (.block 1 (.seq (.ops [.q none (some 12) (.mv (.t 0)),
  .q none (some 13) (.mv (.t 5)),
  .q none (some 14) (.iaddr 1 (.t 12) (.t 13)),
  .q none (some 15) (.load 1 false (.t 14)),
  .q none (some 16) (.mv (.t 1)),
  .q none (some 17) (.bin .eql (.t 15) (.t 16))])
 (.kp [0, 1, 5, 17] (.cond (.t 17) (.seq (.ops [.q none (some 4) (.mv (.k (.d (.bool true))))])
 .ret) .skip))))
 (.kp [0, 1, 5] (.ops [.q none (some 10) (.mv (.t 5)),
  .q none (some 11) (.bin .add (.t 10) (.k (.d (.int .i64 1)))),
  .q none (some 5) (.mv (.t 11))])))))))))
 (.kp [] (.seq (.ops [.q none (some 4) (.mv (.k (.d (.bool false))))])
 .ret)))))⟩
theorem c99 : chkF Γz.P Γz.E 99 2 i99 = true := by kernel_rfl
noncomputable def i100 : FI := -- cosigner/cosignerref01.number
 ⟨46, [.c 2 2 true],
 (.seq (.ops [.e none (some 2) (.alloc 112 [(.d (.int .i64 0)), (.d (.int .i64 0))])])
 (.kp [0, 2] (.seq (.seq (.ops [.q none (some 3) (.mv (.k (.d (.int .i64 0))))])
 (.kp [0, 2, 3] (.block 0 (.loop [0, 2, 3] (.seq (.seq (.ops [.q none (some 6) (.mv (.t 3)),
  .q none (some 7) (.mv (.t 0)),
  .q none (some 8) (.slen (.t 7)),
  .q none (some 9) (.bin .lss (.t 6) (.t 8))])
 (.kp [0, 2, 3, 9] (.cond (.t 9) .skip (.exit 0))))
 (.kp [0, 2, 3] (.seq (.block 1 (.seq (.ops [.q none (some 12) (.mv (.t 0)),
  .q none (some 13) (.mv (.t 3)),
  .q none (some 14) (.sindex (.t 12) (.t 13)),
  .call none (some 15) 98 [(.t 14)],
  .q none (some 16) (.not (.t 15))])
 (.kp [0, 2, 3, 16] (.cond (.t 16) (.seq (.ops [.q none (some 17) (.build [(.int .i64 0), (.int .i64 0)] [(1, 1, (.k (.d (.int .i64 2))))]),
  .e none none (.store 2 (.t 2) (.t 17))])
 .ret) .skip))))
 (.kp [0, 2, 3] (.ops [.q none (some 10) (.mv (.t 3)),
  .q none (some 11) (.bin .add (.t 10) (.k (.d (.int .i64 1)))),
  .q none (some 3) (.mv (.t 11))])))))))))
 (.kp [0, 2] (.seq (.seq (.ops [.q none (some 18) (.mv (.t 0)),
  .q none (some 19) (.sindex (.t 18) (.k (.d (.int .i64 0)))),
  .q none (some 20) (.bin .eql (.t 19) (.k (.d (.int .u8 48)))),
  .q none (some 21) (.mv (.t 20)),
  .q (some (21, true)) (some 22) (.mv (.t 0)),
  .q (some (21, true)) (some 23) (.slen (.t 22)),
  .q (some (21, true)) (some 24) (.bin .gtr (.t 23) (.k (.d (.int .i64 1)))),
  .q none (some 25) (.pick (.t 21) (.t 24) (.k (.d (.bool false))))])
 (.kp [0, 2, 25] (.cond (.t 25) (.seq (.ops [.q none (some 26) (.build [(.int .i64 0), (.int .i64 0)] [(1, 1, (.k (.d (.int .i64 2))))]),
  .e none none (.store 2 (.t 2) (.t 26))])
 .ret) .skip)))
 (.kp [0, 2] (.seq (.ops [.q none (some 4) (.mv (.k (.d (.int .i64 0))))])
 (.kp [0, 2, 4] (.seq (.seq (.ops [.q none (some 5) (.mv (.k (.d (.int .i64 0))))])
 (.kp [0, 2, 4, 5] (.block 2 (.loop [0, 2, 4, 5] (.seq (.seq (.ops [.q none (some 27) (.mv (.t 5)),
  .q none (some 28) (.mv (.t 0)),
  .q none (some 29) (.slen (.t 28)),
  .q none (some 30) (.bin .lss (.t 27) (.t 29))])
 (.kp [0, 2, 4, 5, 30] (.cond (.t 30) .skip (.exit 2))))
 (.kp [0, 2, 4, 5] (.seq (.block 3 (.seq (.ops [.q none (some 33) (.mv (.t 4)),
  .q none (some 34) (.bin .mul (.k (.d (.int .i64 10))) (.t 33)),
  .q none (some 35) (.mv (.t 0)),
  .q none (some 36) (.mv (.t 5)),
  .q none (some 37) (.sindex (.t 35) (.t 36)),
  .q none (some 38) (.conv .i64 (.t 37)),
  .q none (some 39) (.bin .add (.t 34) (.t 38)),
  .q none (some 40) (.bin .sub (.t 39) (.k (.d (.int .i64 48)))),
  .q none (some 4) (.mv (.t 40))])
 (.kp [0, 2, 4, 5] (.seq (.ops [.q none (some 41) (.mv (.t 4)),
  .q none (some 42) (.bin .gtr (.t 41) (.k (.d (.int .i64 1099511627776))))])
 (.kp [0, 2, 4, 5, 42] (.cond (.t 42) (.seq (.ops [.q none (some 43) (.build [(.int .i64 0), (.int .i64 0)] [(1, 1, (.k (.d (.int .i64 3))))]),
  .e none none (.store 2 (.t 2) (.t 43))])
 .ret) .skip))))))
 (.kp [0, 2, 4, 5] (.ops [.q none (some 31) (.mv (.t 5)),
  .q none (some 32) (.bin .add (.t 31) (.k (.d (.int .i64 1)))),
  .q none (some 5) (.mv (.t 32))])))))))))
 (.kp [2, 4] (.seq (.ops [.q none (some 44) (.mv (.t 4)),
  .q none (some 45) (.build [(.int .i64 0), (.int .i64 0)] [(0, 1, (.t 44))]),
  .e none none (.store 2 (.t 2) (.t 45))])
 .ret)))))))))))⟩
theorem c100 : chkF Γz.P Γz.E 100 1 i100 = true := by kernel_rfl
noncomputable def i101 : FI := -- cosigner/cosignerref01.word
 ⟨51, [.c 2 2 true],
 (.seq (.ops [.e none (some 2) (.alloc 120 [(.d (.int .i64 0)), (.d (.int .i64 0))])])
 (.kp [0, 2] (.seq (.seq (.ops [.call none (some 6) 118 [],
  .q none (some 7) (.mv (.t 0)),
  .call none (some 8) 99 [(.t 6), (.t 7)],
  .q none (some 9) (.mv (.t 8)),
  .e (some (9, false)) (some 10) (.bslice 1 [(.k (.d (.str [84, 114, 117, 101]))), (.k (.d (.str [70, 97, 108, 115, 101]))), (.k (.d (.str [86, 111, 105, 100]))), (.k (.d (.str [67, 117, 114, 114, 101, 110, 116]))), (.k (.d (.str [82, 101, 115, 117, 108, 116])))]),
  .q (some (9, false)) (some 11) (.mv (.t 0)),
  .call (some (9, false)) (some 12) 99 [(.t 10), (.t 11)],
  .q none (some 13) (.pick (.t 9) (.k (.d (.bool true))) (.t 12))])
 (.kp [0, 2, 13] (.cond (.t 13) (.seq (.ops [.q none (some 14) (.build [(.int .i64 0), (.int .i64 0)] [(0, 1, (.k (.d (.int .i64 3))))]),
  .e none none (.store 2 (.t 2) (.t 14))])
 .ret) .skip)))
 (.kp [0, 2] (.seq (.seq (.ops [.e none (some 15) (.bslice 1 [(.k (.d (.str [116, 114, 117, 101]))), (.k (.d (.str [102, 97, 108, 115, 101]))), (.k (.d (.str [118, 111, 105, 100]))), (.k (.d (.str [99, 117, 114, 114, 101, 110, 116]))), (.k (.d (.str [114, 101, 115, 117, 108, 116])))]),
  .q none (some 16) (.mv (.t 0)),
  .call none (some 17) 99 [(.t 15), (.t 16)]])
 (.kp [0, 2, 17] (.cond (.t 17) (.seq (.ops [.q none (some 18) (.build [(.int .i64 0), (.int .i64 0)] [(1, 1, (.k (.d (.int .i64 4))))]),
  .e none none (.store 2 (.t 2) (.t 18))])
 .ret) .skip)))
 (.kp [0, 2] (.seq (.ops [.q none (some 3) (.mv (.k (.d (.bool false))))])
 (.kp [0, 2, 3] (.seq (.ops [.q none (some 4) (.mv (.k (.d (.bool false))))])
 (.kp [0, 2, 3, 4] (.seq (.seq (.ops [.q none (some 5) (.mv (.k (.d (.int .i64 0))))])
 (.kp [0, 2, 3, 4, 5] (.block 0 (.loop [0, 2, 3, 4, 5] (.seq (.seq (.ops [.q none (some 19) (.mv (.t 5)),
  .q none (some 20) (.mv (.t 0)),
  .q none (some 21) (.slen (.t 20)),
  .q none (some 22) (.bin .lss (.t 19) (.t 21))])
 (.kp [0, 2, 3, 4, 5, 22] (.cond (.t 22) .skip (.exit 0))))
 (.kp [0, 2, 3, 4, 5] (.seq (.block 1 (.seq (.ops [.q none (some 25) (.mv (.t 3)),
  .q none (some 26) (.mv (.t 25)),
  .q (some (26, false)) (some 27) (.mv (.t 0)),
  .q (some (26, false)) (some 28) (.mv (.t 5)),
  .q (some (26, false)) (some 29) (.sindex (.t 27) (.t 28)),
  .call (some (26, false)) (some 30) 96 [(.t 29)],
  .q none (some 31) (.pick (.t 26) (.k (.d (.bool true))) (.t 30)),
  .q none (some 3) (.mv (.t 31))])
 (.kp [0, 2, 3, 4, 5] (.ops [.q none (some 32) (.mv (.t 4)),
  .q none (some 33) (.mv (.t 32)),
  .q (some (33, false)) (some 34) (.mv (.t 0)),
  .q (some (33, false)) (some 35) (.mv (.t 5)),
  .q (some (33, false)) (some 36) (.sindex (.t 34) (.t 35)),
  .call (some (33, false)) (some 37) 97 [(.t 36)],
  .q none (some 38) (.pick (.t 33) (.k (.d (.bool true))) (.t 37)),
  .q none (some 4) (.mv (.t 38))]))))
 (.kp [0, 2, 3, 4, 5] (.ops [.q none (some 23) (.mv (.t 5)),
  .q none (some 24) (.bin .add (.t 23) (.k (.d (.int .i64 1)))),
  .q none (some 5) (.mv (.t 24))])))))))))
 (.kp [0, 2, 3, 4] (.seq (.seq (.ops [.q none (some 39) (.mv (.t 3)),
  .q none (some 40) (.mv (.t 39)),
  .q (some (40, true)) (some 41) (.mv (.t 4)),
  .q none (some 42) (.pick (.t 40) (.t 41) (.k (.d (.bool false))))])
 (.kp [0, 2, 3, 42] (.cond (.t 42) (.seq (.ops [.q none (some 43) (.build [(.int .i64 0), (.int .i64 0)] [(1, 1, (.k (.d (.int .i64 2))))]),
  .e none none (.store 2 (.t 2) (.t 43))])
 .ret) .skip)))
 (.kp [0, 2, 3] (.seq (.seq (.ops [.q none (some 44) (.mv (.t 0)),
  .q none (some 45) (.slen (.t 44)),
  .q none (some 46) (.bin .gtr (.t 45) (.k (.d (.int .i64 20))))])
 (.kp [2, 3, 46] (.cond (.t 46) (.seq (.ops [.q none (some 47) (.build [(.int .i64 0), (.int .i64 0)] [(1, 1, (.k (.d (.int .i64 3))))]),
  .e none none (.store 2 (.t 2) (.t 47))])
 .ret) .skip)))
 (.kp [2, 3] (.seq (.seq (.ops [.q none (some 48) (.mv (.t 3))])
 (.kp [2, 48] (.cond (.t 48) (.seq (.ops [.q none (some 49) (.build [(.int .i64 0), (.int .i64 0)] [(0, 1, (.k (.d (.int .i64 1))))]),
  .e none none (.store 2 (.t 2) (.t 49))])
 .ret) .skip)))
 (.kp [2] (.seq (.ops [.q none (some 50) (.build [(.int .i64 0), (.int .i64 0)] [(0, 1, (.k (.d (.int .i64 2))))]),
  .e none none (.store 2 (.t 2) (.t 50))])
 .ret)))))))))))))))))))⟩
theorem c101 : chkF Γz.P Γz.E 101 1 i101 = true := by kernel_rfl
noncomputable def i102 : FI := -- slices.IndexFunc[[]cosigner/api.Token,cosigner/api.Token]
 ⟨19, [.t 4],
 (.seq (.ops [.q none (some 4) (.mv (.k (.d (.int .i64 0))))])
 (.kp [0, 1] (.seq (.seq (.ops [.q none (some 6) (.mv (.t 0)),
  .q none (some 7) (.len (.t 6)),
  .q none (some 8) (.mv (.k (.d (.int .i64 0))))])
 (.kp [0, 1, 7, 8] (.block 0 (.loop [0, 1, 7, 8] (.seq (.ops [.q none (some 9) (.bin .lss (.t 8) (.t 7))])
 (.kp [0, 1, 7, 8, 9] (.seq (.cond (.t 9) .skip (.exit 0))
 (.kp [0, 1, 7, 8] (.seq (.block 1 (.seq (.ops [.q none (some 10) (.mv (.t 8)),
  .q none (some 5) (.mv (.t 10))])
 (.kp [0, 1, 5, 7, 8] (.seq (.ops [.q none (some 11) (.mv (.t 1)),
  .q none (some 12) (.mv (.t 0)),
  .q none (some 13) (.mv (.t 5)),
  .q none (some 14) (.iaddr 4 (.t 12) (.t 13)),
  .q none (some 15) (.load 4 true (.t 14)),
  .callv none (some 16) (.t 11) [(.t 15)]])
 (.kp [0, 1, 5, 7, 8, 16] (.cond (.t 16) (.seq (.ops [.q none (some 17) (.mv (.t 5)),
  .q none (some 4) (.mv (.t 17))])
 .ret) .skip))))))
 (.kp [0, 1, 7, 8] (.ops [.q none (some 18) (.bin .add (.t 8) (.k (.d (.int .i64 1)))),
  .q none (some 8) (.mv (.t 18))])))))))))))
 (.kp [] (.seq (.ops [.q none (some 4) (.mv (.k (.d (.int .i64 (-1)))))])
 .ret)))))⟩
theorem c102 : chkF Γz.P Γz.E 102 2 i102 = true := by kernel_rfl
noncomputable def i103 : FI := -- cosigner/lex.digit
 ⟨9, [.t 2],
 (.seq (.ops [.q none (some 2) (.mv (.k (.d (.bool false))))])
 (.kp [0] (.seq (.ops [.q none (some 3) (.mv (.t 0)),
  .q none (some 4) (.bin .leq (.k (.d (.int .u8 48))) (.t 3)),
  .q none (some 5) (.mv (.t 4)),
  .q (some (5, true)) (some 6) (.mv (.t 0)),
  .q (some (5, true)) (some 7) (.bin .leq (.t 6) (.k (.d (.int .u8 57)))),
  .q none (some 8) (.pick (.t 5) (.t 7) (.k (.d (.bool false)))),
  .q none (some 2) (.mv (.t 8))])
 .ret)))⟩
theorem c103 : chkF Γz.P Γz.E 103 1 i103 = true := by kernel_rfl
noncomputable def i104 : FI := -- cosigner/lex.number
 ⟨36, [.t 2, .t 3],
 (.seq (.ops [.q none (some 2) (.mv (.k (.d (.int .i64 0)))),
  .q none (some 3) (.mv (.k (.d (.int .i64 0))))])
 (.kp [0] (.seq (.seq (.ops [.q none (some 6) (.mv (.t 0)),
  .call none (some 7) 119 [(.t 6), (.f 103)],
  .q none (some 8) (.not (.t 7)),
  .q none (some 9) (.mv (.t 8)),
  .q (some (9, false)) (some 10) (.mv (.t 0)),
  .q (some (9, false)) (some 11) (.slen (.t 10)),
  .q (some (9, false)) (some 12) (.bin .gtr (.t 11) (.k (.d (.int .i64 1)))),
  .q (some (9, false)) (some 13) (.mv (.t 12)),
  .q (some (13, true)) (some 14) (.mv (.t 0)),
  .q (some (13, true)) (some 15) (.sindex (.t 14) (.k (.d (.int .i64 0)))),
  .q (some (13, true)) (some 16) (.bin .eql (.t 15) (.k (.d (.int .u8 48)))),
  .q (some (9, false)) (some 17) (.pick (.t 13) (.t 16) (.k (.d (.bool false)))),
  .q none (some 18) (.pick (.t 9) (.k (.d (.bool true))) (.t 17))])
 (.kp [0, 18] (.cond (.t 18) (.seq (.ops [.q none (some 2) (.mv (.k (.d (.int .i64 0)))),
  .q none (some 3) (.mv (.k (.d (.int .i64 2))))])
 .ret) .skip)))
 (.kp [0] (.seq (.ops [.q none (some 4) (.mv (.k (.d (.int .i64 0))))])
 (.kp [0, 4] (.seq (.seq (.ops [.q none (some 19) (.mv (.t 0)),
  .q none (some 20) (.slen (.t 19)),
  .q none (some 21) (.mv (.k (.d (.int .i64 0))))])
 (.kp [0, 4, 20, 21] (.block 0 (.loop [0, 4, 20, 21] (.seq (.ops [.q none (some 22) (.bin .lss (.t 21) (.t 20))])
 (.kp [0, 4, 20, 21, 22] (.seq (.cond (.t 22) .skip (.exit 0))
 (.kp [0, 4, 20, 21] (.seq (.block 1 (.seq (.ops [.q none (some 23) (.mv (.t 21)),
  .q none (some 5) (.mv (.t 23))])
 (.kp [0, 4, 5, 20, 21] (.seq (.ops [.q none (some 24) (.mv (.t 4)),
  .q none (some 25) (.bin .mul (.k (.d (.int .i64 10))) (.t 24)),
  .q none (some 26) (.mv (.t 0)),
  .q none (some 27) (.mv (.t 5)),
  .q none (some 28) (.sindex (.t 26) (.t 27)),
  .q none (some 29) (.bin .sub (.t 28) (.k (.d (.int .u8 48)))),
  .q none (some 30) (.conv .i64 (.t 29)),
  .q none (some 31) (.bin .add (.t 25) (.t 30)),
  .q none (some 4) (.mv (.t 31))])
 (.kp [0, 4, 20, 21] (.seq (.ops [.q none (some 32) (.mv (.t 4)),
  .q none (some 33) (.bin .gtr (.t 32) (.k (.d (.int .i64 1099511627776))))])
 (.kp [0, 4, 20, 21, 33] (.cond (.t 33) (.seq (.ops [.q none (some 2) (.mv (.k (.d (.int .i64 0)))),
  .q none (some 3) (.mv (.k (.d (.int .i64 3))))])
 .ret) .skip))))))))
 (.kp [0, 4, 20, 21] (.ops [.q none (some 34) (.bin .add (.t 21) (.k (.d (.int .i64 1)))),
  .q none (some 21) (.mv (.t 34))])))))))))))
 (.kp [4] (.seq (.ops [.q none (some 35) (.mv (.t 4)),
  .q none (some 2) (.mv (.t 35)),
  .q none (some 3) (.mv (.k (.d (.int .i64 0))))])
 .ret)))))))))⟩
theorem c104 : chkF Γz.P Γz.E 104 1 i104 = true := by kernel_rfl
noncomputable def i105 : FI := -- cosigner/lex.word
 ⟨34, [.t 2, .t 3],
 (.seq (.ops [.q none (some 2) (.mv (.k (.d (.int .i64 0)))),
  .q none (some 3) (.mv (.k (.d (.int .i64 0))))])
 (.kp [0] (.seq (.ops [.q none (some 6) (.mv (.t 0)),
  .call none (some 7) 119 [(.t 6), (.f 120)],
  .q none (some 4) (.mv (.t 7))])
 (.kp [0, 4] (.seq (.ops [.q none (some 8) (.mv (.t 0)),
  .call none (some 9) 119 [(.t 8), (.f 122)],
  .q none (some 5) (.mv (.t 9))])
 (.kp [0, 4, 5] (.seq (.block 0 (.seq (.seq (.ops [.call none (some 11) 27 [],
  .q none (some 12) (.mv (.t 0)),
  .call none (some 13) 124 [(.t 11), (.t 12)],
  .q none (some 10) (.mv (.t 13))])
 (.kp [0, 4, 5, 10] (.cond (.t 10) .skip (.ops [.e none (some 14) (.bslice 1 [(.k (.d (.str [84, 114, 117, 101]))), (.k (.d (.str [70, 97, 108, 115, 101]))), (.k (.d (.str [86, 111, 105, 100]))), (.k (.d (.str [67, 117, 114, 114, 101, 110, 116]))), (.k (.d (.str [82, 101, 115, 117, 108, 116])))]),
  .q none (some 15) (.mv (.t 0)),
  .call none (some 16) 124 [(.t 14), (.t 15)],
  .q none (some 10) (.mv (.t 16))]))))
 (.kp [0, 4, 5, 10] (.cond (.t 10) (.seq (.ops [.q none (some 2) (.mv (.k (.d (.int .i64 3)))),
  .q none (some 3) (.mv (.k (.d (.int .i64 0))))])
 .ret) (.seq (.ops [.e none (some 18) (.bslice 1 [(.k (.d (.str [116, 114, 117, 101]))), (.k (.d (.str [102, 97, 108, 115, 101]))), (.k (.d (.str [118, 111, 105, 100]))), (.k (.d (.str [99, 117, 114, 114, 101, 110, 116]))), (.k (.d (.str [114, 101, 115, 117, 108, 116])))]),
  .q none (some 19) (.mv (.t 0)),
  .call none (some 20) 124 [(.t 18), (.t 19)],
  .q none (some 17) (.mv (.t 20))])
 (.kp [0, 4, 5, 17] (.cond (.t 17) (.seq (.ops [.q none (some 2) (.mv (.k (.d (.int .i64 0)))),
  .q none (some 3) (.mv (.k (.d (.int .i64 4))))])
 .ret) (.seq (.ops [.q none (some 22) (.mv (.t 4)),
  .q none (some 23) (.not (.t 22)),
  .q none (some 24) (.mv (.t 23)),
  .q (some (24, true)) (some 25) (.mv (.t 5)),
  .q (some (24, true)) (some 26) (.not (.t 25)),
  .q none (some 27) (.pick (.t 24) (.t 26) (.k (.d (.bool false)))),
  .q none (some 21) (.mv (.t 27))])
 (.kp [0, 4, 21] (.cond (.t 21) (.seq (.ops [.q none (some 2) (.mv (.k (.d (.int .i64 0)))),
  .q none (some 3) (.mv (.k (.d (.int .i64 2))))])
 .ret) (.seq (.ops [.q none (some 29) (.mv (.t 0)),
  .q none (some 30) (.slen (.t 29)),
  .q none (some 31) (.bin .gtr (.t 30) (.k (.d (.int .i64 20)))),
  .q none (some 28) (.mv (.t 31))])
 (.kp [4, 28] (.cond (.t 28) (.seq (.ops [.q none (some 2) (.mv (.k (.d (.int .i64 0)))),
  .q none (some 3) (.mv (.k (.d (.int .i64 3))))])
 .ret) (.seq (.ops [.q none (some 33) (.mv (.t 4)),
  .q none (some 32) (.mv (.t 33))])
 (.kp [32] (.cond (.t 32) (.seq (.ops [.q none (some 2) (.mv (.k (.d (.int .i64 1)))),
  .q none (some 3) (.mv (.k (.d (.int .i64 0))))])
 .ret) .skip))))))))))))))))
 (.kp [] (.seq (.ops [.q none (some 2) (.mv (.k (.d (.int .i64 2)))),
  .q none (some 3) (.mv (.k (.d (.int .i64 0))))])
 .ret)))))))))⟩
theorem c105 : chkF Γz.P Γz.E 105 1 i105 = true := by kernel_rfl
-- 109 (*strings.Builder).grow: not covered
noncomputable def i113 : FI := -- cosigner/lex.within
 ⟨17, [.t 2],
 (.seq (.ops [.q none (some 2) (.mv (.k (.d (.bool false))))])
 (.kp [0] (.seq (.ops [.q none (some 3) (.mv (.t 0)),
  .call none (some 4) 123 [(.t 3)],
  .q none (some 5) (.mv (.t 4)),
  .q (some (5, false)) (some 6) (.mv (.t 0)),
  .call (some (5, false)) (some 7) 121 [(.t 6)],
  .q none (some 8) (.pick (.t 5) (.k (.d (.bool true))) (.t 7)),
  .q none (some 9) (.mv (.t 8)),
  .q (some (9, false)) (some 10) (.mv (.t 0)),
  .call (some (9, false)) (some 11) 103 [(.t 10)],
  .q none (some 12) (.pick (.t 9) (.k (.d (.bool true))) (.t 11)),
  .q none (some 13) (.mv (.t 12)),
  .q (some (13, false)) (some 14) (.mv (.t 0)),
  .q (some (13, false)) (some 15) (.bin .eql (.t 14) (.k (.d (.int .u8 95)))),
  .q none (some 16) (.pick (.t 13) (.k (.d (.bool true))) (.t 15)),
  .q none (some 2) (.mv (.t 16))])
 .ret)))⟩
theorem c113 : chkF Γz.P Γz.E 113 1 i113 = true := by kernel_rfl
noncomputable def i116 : FI := -- cosigner/lex.signs
 ⟨2, [.c 0 22 true],
 (.seq (.ops [.e none (some 0) (.alloc 156 [(.d (.str [])), (.d (.str [])), (.d (.str [])), (.d (.str [])), (.d (.str [])), (.d (.str [])), (.d (.str [])), (.d (.str [])), (.d (.str [])), (.d (.str [])), (.d (.str [])), (.d (.str [])), (.d (.str [])), (.d (.str [])), (.d (.str [])), (.d (.str [])), (.d (.str [])), (.d (.str [])), (.d (.str [])), (.d (.str [])), (.d (.str [])), (.d (.str []))])])
 (.kp [0] (.seq (.ops [.q none (some 1) (.build [(.str []), (.str []), (.str []), (.str []), (.str []), (.str []), (.str []), (.str []), (.str []), (.str []), (.str []), (.str []), (.str []), (.str []), (.str []), (.str []), (.str []), (.str []), (.str []), (.str []), (.str []), (.str [])] [(0, 1, (.k (.d (.str [58, 61])))), (1, 1, (.k (.d (.str [47, 61])))), (2, 1, (.k (.d (.str [60, 61])))), (3, 1, (.k (.d (.str [62, 61])))), (4, 1, (.k (.d (.str [47, 47])))), (5, 1, (.k (.d (.str [61])))), (6, 1, (.k (.d (.str [60])))), (7, 1, (.k (.d (.str [62])))), (8, 1, (.k (.d (.str [43])))), (9, 1, (.k (.d (.str [45])))), (10, 1, (.k (.d (.str [42])))), (11, 1, (.k (.d (.str [37])))), (12, 1, (.k (.d (.str [40])))), (13, 1, (.k (.d (.str [41])))), (14, 1, (.k (.d (.str [91])))), (15, 1, (.k (.d (.str [93])))), (16, 1, (.k (.d (.str [123])))), (17, 1, (.k (.d (.str [125])))), (18, 1, (.k (.d (.str [44])))), (19, 1, (.k (.d (.str [59])))), (20, 1, (.k (.d (.str [58])))), (21, 1, (.k (.d (.str [46]))))]),
  .e none none (.store 22 (.t 0) (.t 1))])
 .ret)))⟩
theorem c116 : chkF Γz.P Γz.E 116 0 i116 = true := by kernel_rfl
noncomputable def i118 : FI := -- cosigner/cosignerref01.Keywords
 ⟨2, [.t 0],
 (.seq (.ops [.q none (some 0) (.mv (.k .snil))])
 (.kp [] (.seq (.ops [.e none (some 1) (.bslice 1 [(.k (.d (.str [97, 110, 100]))), (.k (.d (.str [97, 115]))), (.k (.d (.str [97, 116, 116, 97, 99, 104, 101, 100]))), (.k (.d (.str [99, 104, 101, 99, 107]))), (.k (.d (.str [99, 108, 97, 115, 115]))), (.k (.d (.str [99, 114, 101, 97, 116, 101]))), (.k (.d (.str [100, 101, 102, 101, 114, 114, 101, 100]))), (.k (.d (.str [100, 101, 116, 97, 99, 104, 97, 98, 108, 101]))), (.k (.d (.str [100, 111]))), (.k (.d (.str [101, 108, 115, 101]))), (.k (.d (.str [101, 110, 100]))), (.k (.d (.str [101, 110, 115, 117, 114, 101]))), (.k (.d (.str [102, 101, 97, 116, 117, 114, 101]))), (.k (.d (.str [102, 114, 111, 109]))), (.k (.d (.str [105, 102]))), (.k (.d (.str [105, 109, 112, 108, 105, 101, 115]))), (.k (.d (.str [105, 110, 104, 101, 114, 105, 116]))), (.k (.d (.str [105, 110, 118, 97, 114, 105, 97, 110, 116]))), (.k (.d (.str [108, 111, 99, 97, 108]))), (.k (.d (.str [108, 111, 111, 112]))), (.k (.d (.str [110, 111, 116]))), (.k (.d (.str [111, 108, 100]))), (.k (.d (.str [111, 114]))), (.k (.d (.str [112, 117, 116]))), (.k (.d (.str [114, 97, 105, 115, 101]))), (.k (.d (.str [114, 101, 100, 101, 102, 105, 110, 101]))), (.k (.d (.str [114, 101, 110, 97, 109, 101]))), (.k (.d (.str [114, 101, 113, 117, 105, 114, 101]))), (.k (.d (.str [114, 101, 115, 99, 117, 101]))), (.k (.d (.str [114, 101, 116, 114, 121]))), (.k (.d (.str [115, 101, 108, 101, 99, 116]))), (.k (.d (.str [115, 101, 112, 97, 114, 97, 116, 101]))), (.k (.d (.str [116, 104, 101, 110]))), (.k (.d (.str [117, 110, 100, 101, 102, 105, 110, 101]))), (.k (.d (.str [117, 110, 116, 105, 108]))), (.k (.d (.str [118, 97, 114, 105, 97, 110, 116]))), (.k (.d (.str [119, 104, 101, 110])))]),
  .q none (some 0) (.mv (.t 1))])
 .ret)))⟩
theorem c118 : chkF Γz.P Γz.E 118 0 i118 = true := by kernel_rfl
noncomputable def i119 : FI := -- cosigner/lex.only
 ⟨18, [.t 4],
 (.seq (.ops [.q none (some 4) (.mv (.k (.d (.bool false))))])
 (.kp [0, 1] (.seq (.seq (.ops [.q none (some 6) (.mv (.t 0)),
  .q none (some 7) (.slen (.t 6)),
  .q none (some 8) (.mv (.k (.d (.int .i64 0))))])
 (.kp [0, 1, 7, 8] (.block 0 (.loop [0, 1, 7, 8] (.seq (.ops [.q none (some 9) (.bin .lss (.t 8) (.t 7))])
 (.kp [0, 1, 7, 8, 9] (.seq (.cond (.t 9) .skip (.exit 0))
 (.kp [0, 1, 7, 8] (.seq (.block 1 (.seq (.ops [.q none (some 10) (.mv (.t 8)),
  .q none (some 5) (.mv (.t 10))])
 (.kp [0, 1, 5, 7, 8] (.seq (.ops [.q none (some 11) (.mv (.t 1)),
  .q none (some 12) (.mv (.t 0)),
  .q none (some 13) (.mv (.t 5)),
  .q none (some 14) (.sindex (.t 12) (.t 13)),
  .callv none (some 15) (.t 11) [(.t 14)],
  .q none (some 16) (.not (.t 15))])
 (.kp [0, 1, 7, 8, 16] (.cond (.t 16) (.seq (.ops [.q none (some 4) (.mv (.k (.d (.bool false))))])
 .ret) .skip))))))
 (.kp [0, 1, 7, 8] (.ops [.q none (some 17) (.bin .add (.t 8) (.k (.d (.int .i64 1)))),
  .q none (some 8) (.mv (.t 17))])))))))))))
 (.kp [] (.seq (.ops [.q none (some 4) (.mv (.k (.d (.bool true))))])
 .ret)))))⟩
theorem c119 : chkF Γz.P Γz.E 119 2 i119 = true := by kernel_rfl
noncomputable def i120 : FI := -- cosigner/lex.word$1
 ⟨10, [.t 2],
 (.seq (.ops [.q none (some 2) (.mv (.k (.d (.bool false))))])
 (.kp [0] (.seq (.ops [.q none (some 3) (.mv (.t 0)),
  .call none (some 4) 113 [(.t 3)],
  .q none (some 5) (.mv (.t 4)),
  .q (some (5, true)) (some 6) (.mv (.t 0)),
  .call (some (5, true)) (some 7) 121 [(.t 6)],
  .q (some (5, true)) (some 8) (.not (.t 7)),
  .q none (some 9) (.pick (.t 5) (.t 8) (.k (.d (.bool false)))),
  .q none (some 2) (.mv (.t 9))])
 .ret)))⟩
theorem c120 : chkF Γz.P Γz.E 120 1 i120 = true := by kernel_rfl
noncomputable def i121 : FI := -- cosigner/lex.capital
 ⟨9, [.t 2],
 (.seq (.ops [.q none (some 2) (.mv (.k (.d (.bool false))))])
 (.kp [0] (.seq (.ops [.q none (some 3) (.mv (.t 0)),
  .q none (some 4) (.bin .leq (.k (.d (.int .u8 65))) (.t 3)),
  .q none (some 5) (.mv (.t 4)),
  .q (some (5, true)) (some 6) (.mv (.t 0)),
  .q (some (5, true)) (some 7) (.bin .leq (.t 6) (.k (.d (.int .u8 90)))),
  .q none (some 8) (.pick (.t 5) (.t 7) (.k (.d (.bool false)))),
  .q none (some 2) (.mv (.t 8))])
 .ret)))⟩
theorem c121 : chkF Γz.P Γz.E 121 1 i121 = true := by kernel_rfl
noncomputable def i122 : FI := -- cosigner/lex.word$2
 ⟨10, [.t 2],
 (.seq (.ops [.q none (some 2) (.mv (.k (.d (.bool false))))])
 (.kp [0] (.seq (.ops [.q none (some 3) (.mv (.t 0)),
  .call none (some 4) 113 [(.t 3)],
  .q none (some 5) (.mv (.t 4)),
  .q (some (5, true)) (some 6) (.mv (.t 0)),
  .call (some (5, true)) (some 7) 123 [(.t 6)],
  .q (some (5, true)) (some 8) (.not (.t 7)),
  .q none (some 9) (.pick (.t 5) (.t 8) (.k (.d (.bool false)))),
  .q none (some 2) (.mv (.t 9))])
 .ret)))⟩
theorem c122 : chkF Γz.P Γz.E 122 1 i122 = true := by kernel_rfl
noncomputable def i123 : FI := -- cosigner/lex.small
 ⟨9, [.t 2],
 (.seq (.ops [.q none (some 2) (.mv (.k (.d (.bool false))))])
 (.kp [0] (.seq (.ops [.q none (some 3) (.mv (.t 0)),
  .q none (some 4) (.bin .leq (.k (.d (.int .u8 97))) (.t 3)),
  .q none (some 5) (.mv (.t 4)),
  .q (some (5, true)) (some 6) (.mv (.t 0)),
  .q (some (5, true)) (some 7) (.bin .leq (.t 6) (.k (.d (.int .u8 122)))),
  .q none (some 8) (.pick (.t 5) (.t 7) (.k (.d (.bool false)))),
  .q none (some 2) (.mv (.t 8))])
 .ret)))⟩
theorem c123 : chkF Γz.P Γz.E 123 1 i123 = true := by kernel_rfl
noncomputable def i124 : FI := -- slices.Contains[[]string,string]
 ⟨9, [.t 4],
 (.seq (.ops [.q none (some 4) (.mv (.k (.d (.bool false))))])
 (.kp [0, 1] (.seq (.ops [.q none (some 5) (.mv (.t 0)),
  .q none (some 6) (.mv (.t 1)),
  .call none (some 7) 135 [(.t 5), (.t 6)],
  .q none (some 8) (.bin .geq (.t 7) (.k (.d (.int .i64 0)))),
  .q none (some 4) (.mv (.t 8))])
 .ret)))⟩
theorem c124 : chkF Γz.P Γz.E 124 2 i124 = true := by kernel_rfl
noncomputable def i135 : FI := -- slices.Index[[]string,string]
 ⟨19, [.t 4],
 (.seq (.ops [.q none (some 4) (.mv (.k (.d (.int .i64 0))))])
 (.kp [0, 1] (.seq (.seq (.ops [.q none (some 6) (.mv (.t 0)),
  .q none (some 7) (.len (.t 6)),
  .q none (some 8) (.mv (.k (.d (.int .i64 0))))])
 (.kp [0, 1, 7, 8] (.block 0 (.loop [0, 1, 7, 8] (.seq (.ops [.q none (some 9) (.bin .lss (.t 8) (.t 7))])
 (.kp [0, 1, 7, 8, 9] (.seq (.cond (.t 9) .skip (.exit 0))
 (.kp [0, 1, 7, 8] (.seq (.block 1 (.seq (.ops [.q none (some 10) (.mv (.t 8)),
  .q none (some 5) (.mv (.t 10))])
 (.kp [0, 1, 5, 7, 8] (.seq (.ops [.q none (some 11) (.mv (.t 1)),
  .q none (some 12) (.mv (.t 0)),
  .q none (some 13) (.mv (.t 5)),
  .q none (some 14) (.iaddr 1 (.t 12) (.t 13)),
  .q none (some 15) (.load 1 false (.t 14)),
  .q none (some 16) (.bin .eql (.t 11) (.t 15))])
 (.kp [0, 1, 5, 7, 8, 16] (.cond (.t 16) (.seq (.ops [.q none (some 17) (.mv (.t 5)),
  .q none (some 4) (.mv (.t 17))])
 .ret) .skip))))))
 (.kp [0, 1, 7, 8] (.ops [.q none (some 18) (.bin .add (.t 8) (.k (.d (.int .i64 1)))),
  .q none (some 8) (.mv (.t 18))])))))))))))
 (.kp [] (.seq (.ops [.q none (some 4) (.mv (.k (.d (.int .i64 (-1)))))])
 .ret)))))⟩
theorem c135 : chkF Γz.P Γz.E 135 2 i135 = true := by kernel_rfl
end Go.Plane
end
section
namespace Go.Proofs
open Go.Shelf
def Tryz.lays169_ren : Go.Shelf.Ren := ⟨fun | 169 => 57 | n => n, fun | 70 => 90 | 9 => 9 | 0 => 0 | 72 => 93 | 37 => 91 | 127 => 134 | 3 => 3 | 5 => 5 | n => n, fun | n => n⟩
theorem Tryz.lays169 : Go.Proofs.Lays.n169 Tryz.prog Tryz.lays169_ren := {
  mixed := by kernel_rfl
  f169 := Tryz.func57.trans (congrArg some (by kernel_rfl))
  t0 := Tryz.underlying0
  a0 := Tryz.isAgg0
  z0 := Tryz.sizeOf0
  v0 := Tryz.zeroValue0
  t3 := Tryz.underlying3
  a3 := Tryz.isAgg3
  z3 := Tryz.sizeOf3
  v3 := Tryz.zeroValue3
  t9 := Tryz.underlying9
  a9 := Tryz.isAgg9
  z9 := Tryz.sizeOf9
  v9 := Tryz.zeroValue9
  t37 := Tryz.underlying91
  a37 := Tryz.isAgg91
  z37 := Tryz.sizeOf91
  v37 := Tryz.zeroValue91
  t70 := Tryz.underlying90
  a70 := Tryz.isAgg90
  z70 := Tryz.sizeOf90
  v70 := Tryz.zeroValue90
  t72 := Tryz.underlying93
  a72 := Tryz.isAgg93
  z72 := Tryz.sizeOf93
  v72 := Tryz.zeroValue93
  t127 := Tryz.underlying134
  a127 := Tryz.isAgg134
  z127 := Tryz.sizeOf134
  v127 := Tryz.zeroValue134 }
theorem Tryz.Builder_Extra_169 : Builder.Extra Tryz.prog Tryz.lays169_ren := {
  sizeBuilder := by kernel_rfl
  liesBuilder := by kernel_rfl
  t5 := Tryz.underlying5
  a5 := Tryz.isAgg5
  z5 := Tryz.sizeOf5
  v5 := Tryz.zeroValue5
  infoByte := by kernel_rfl
  cellsByte := by kernel_rfl
  sizeByte := by kernel_rfl
  neB5 := by decide }
def Tryz.lays156_ren : Go.Shelf.Ren := ⟨fun | 156 => 49 | 165 => 79 | 166 => 55 | 169 => 57 | 240 => 83 | 241 => 109 | 276 => 111 | 277 => 127 | n => n, fun | 31 => 66 | 9 => 9 | 3 => 3 | 4 => 4 | 0 => 0 | 20 => 20 | 72 => 93 | 76 => 97 | 70 => 90 | 37 => 91 | 75 => 96 | 127 => 134 | 164 => 147 | 5 => 5 | 80 => 100 | n => n, fun | n => n⟩
theorem Tryz.lays156 : Go.Proofs.Lays.n156 Tryz.prog Tryz.lays156_ren := {
  mixed := by kernel_rfl
  f156 := Tryz.func49.trans (congrArg some (by kernel_rfl))
  f165 := Tryz.func79.trans (congrArg some (by kernel_rfl))
  f166 := Tryz.func55.trans (congrArg some (by kernel_rfl))
  f169 := Tryz.func57.trans (congrArg some (by kernel_rfl))
  f240 := Tryz.func83.trans (congrArg some (by kernel_rfl))
  f241 := Tryz.func109.trans (congrArg some (by kernel_rfl))
  f276 := Tryz.func111.trans (congrArg some (by kernel_rfl))
  f277 := Tryz.func127.trans (congrArg some (by kernel_rfl))
  t0 := Tryz.underlying0
  a0 := Tryz.isAgg0
  z0 := Tryz.sizeOf0
  v0 := Tryz.zeroValue0
  t3 := Tryz.underlying3
  a3 := Tryz.isAgg3
  z3 := Tryz.sizeOf3
  v3 := Tryz.zeroValue3
  t4 := Tryz.underlying4
  a4 := Tryz.isAgg4
  z4 := Tryz.sizeOf4
  v4 := Tryz.zeroValue4
  t9 := Tryz.underlying9
  a9 := Tryz.isAgg9
  z9 := Tryz.sizeOf9
  v9 := Tryz.zeroValue9
  t20 := Tryz.underlying20
  a20 := Tryz.isAgg20
  z20 := Tryz.sizeOf20
  v20 := Tryz.zeroValue20
  t31 := Tryz.underlying66
  a31 := Tryz.isAgg66
  z31 := Tryz.sizeOf66
  v31 := Tryz.zeroValue66
  t37 := Tryz.underlying91
  a37 := Tryz.isAgg91
  z37 := Tryz.sizeOf91
  v37 := Tryz.zeroValue91
  t70 := Tryz.underlying90
  a70 := Tryz.isAgg90
  z70 := Tryz.sizeOf90
  v70 := Tryz.zeroValue90
  t72 := Tryz.underlying93
  a72 := Tryz.isAgg93
  z72 := Tryz.sizeOf93
  v72 := Tryz.zeroValue93
  t75 := Tryz.underlying96
  a75 := Tryz.isAgg96
  z75 := Tryz.sizeOf96
  v75 := Tryz.zeroValue96
  t76 := Tryz.underlying97
  a76 := Tryz.isAgg97
  z76 := Tryz.sizeOf97
  v76 := Tryz.zeroValue97
  t127 := Tryz.underlying134
  a127 := Tryz.isAgg134
  z127 := Tryz.sizeOf134
  v127 := Tryz.zeroValue134
  t164 := Tryz.underlying147
  a164 := Tryz.isAgg147
  z164 := Tryz.sizeOf147
  v164 := Tryz.zeroValue147 }
theorem Tryz.Builder_Extra_156 : Builder.Extra Tryz.prog Tryz.lays156_ren := {
  sizeBuilder := by kernel_rfl
  liesBuilder := by kernel_rfl
  t5 := Tryz.underlying5
  a5 := Tryz.isAgg5
  z5 := Tryz.sizeOf5
  v5 := Tryz.zeroValue5
  infoByte := by kernel_rfl
  cellsByte := by kernel_rfl
  sizeByte := by kernel_rfl
  neB5 := by decide }
open Go.RowKit in
theorem Tryz.strings_Join_none (a : Option Addr) (c : Nat) (sep : ByteArray) (w : World) :
    Calls Tryz.prog 49 #[.slice a 0 c, .string sep] w fun e w' => e = .returned (.string ⟨#[]⟩) ∧ w' = w := Any.strings_Join_none Tryz.lays156 Tryz.Builder_Extra_156 a c sep w
open Go.RowKit in
theorem Tryz.strings_Join (bk o c : Nat) (xs : List ByteArray) (sep : ByteArray) (w : World) (hcells : ∀ (j : Nat) x, xs[j]? = some x → w.cell? ⟨bk, o + j, none⟩ = some (.string x)) (hbk : bk < w.heap.size) (hN : xs.length ≤ 140737488355328) (hcap : xs.length ≤ c) (hlen : (Lib.join (xs.map (·.data.toList)) sep.data.toList).length ≤ 140737488355328) :
    Calls Tryz.prog 49 #[.slice (some ⟨bk, o, none⟩) xs.length c, .string sep] w fun e w' => e = .returned (.string ⟨(Lib.join (xs.map (·.data.toList)) sep.data.toList).toArray⟩) ∧ Below w.heap.size w w' := Any.strings_Join Tryz.lays156 Tryz.Builder_Extra_156 bk o c xs sep w hcells hbk hN hcap hlen
def Tryz.lays162_ren : Go.Shelf.Ren := ⟨fun | 162 => 48 | 232 => 75 | 227 => 76 | 234 => 77 | 236 => 78 | 228 => 106 | 271 => 107 | 151 => 108 | 120 => 125 | 197 => 117 | 152 => 126 | 260 => 134 | 137 => 136 | 119 => 137 | 224 => 130 | 225 => 129 | 217 => 128 | 266 => 138 | n => n, fun | 9 => 9 | 4 => 4 | 3 => 3 | 5 => 5 | 117 => 128 | 116 => 127 | 0 => 0 | 124 => 131 | 21 => 21 | 105 => 144 | 46 => 162 | 119 => 135 | 139 => 181 | 138 => 180 | n => n, fun | 3 => 3 | 4 => 4 | n => n⟩
theorem Tryz.lays162 : Go.Proofs.Lays.n162 Tryz.prog Tryz.lays162_ren := {
  mixed := by kernel_rfl
  f119 := Tryz.func137.trans (congrArg some (by kernel_rfl))
  f120 := Tryz.func125.trans (congrArg some (by kernel_rfl))
  f137 := Tryz.func136.trans (congrArg some (by kernel_rfl))
  f151 := Tryz.func108.trans (congrArg some (by kernel_rfl))
  f152 := Tryz.func126.trans (congrArg some (by kernel_rfl))
  f162 := Tryz.func48.trans (congrArg some (by kernel_rfl))
  f197 := Tryz.func117.trans (congrArg some (by kernel_rfl))
  f217 := Tryz.func128.trans (congrArg some (by kernel_rfl))
  f224 := Tryz.func130.trans (congrArg some (by kernel_rfl))
  f225 := Tryz.func129.trans (congrArg some (by kernel_rfl))
  f227 := Tryz.func76.trans (congrArg some (by kernel_rfl))
  f228 := Tryz.func106.trans (congrArg some (by kernel_rfl))
  f232 := Tryz.func75.trans (congrArg some (by kernel_rfl))
  f234 := Tryz.func77.trans (congrArg some (by kernel_rfl))
  f236 := Tryz.func78.trans (congrArg some (by kernel_rfl))
  f260 := Tryz.func134.trans (congrArg some (by kernel_rfl))
  f266 := Tryz.func138.trans (congrArg some (by kernel_rfl))
  f271 := Tryz.func107.trans (congrArg some (by kernel_rfl))
  t0 := Tryz.underlying0
  a0 := Tryz.isAgg0
  z0 := Tryz.sizeOf0
  v0 := Tryz.zeroValue0
  t3 := Tryz.underlying3
  a3 := Tryz.isAgg3
  z3 := Tryz.sizeOf3
  v3 := Tryz.zeroValue3
  t4 := Tryz.underlying4
  a4 := Tryz.isAgg4
  z4 := Tryz.sizeOf4
  v4 := Tryz.zeroValue4
  t5 := Tryz.underlying5
  a5 := Tryz.isAgg5
  z5 := Tryz.sizeOf5
  v5 := Tryz.zeroValue5
  t9 := Tryz.underlying9
  a9 := Tryz.isAgg9
  z9 := Tryz.sizeOf9
  v9 := Tryz.zeroValue9
  t21 := Tryz.underlying21
  a21 := Tryz.isAgg21
  z21 := Tryz.sizeOf21
  v21 := Tryz.zeroValue21
  t46 := Tryz.underlying162
  a46 := Tryz.isAgg162
  z46 := Tryz.sizeOf162
  v46 := Tryz.zeroValue162
  t105 := Tryz.underlying144
  a105 := Tryz.isAgg144
  z105 := Tryz.sizeOf144
  v105 := Tryz.zeroValue144
  t116 := Tryz.underlying127
  a116 := Tryz.isAgg127
  z116 := Tryz.sizeOf127
  t117 := Tryz.underlying128
  a117 := Tryz.isAgg128
  z117 := Tryz.sizeOf128
  v117 := Tryz.zeroValue128
  t119 := Tryz.underlying135
  a119 := Tryz.isAgg135
  z119 := Tryz.sizeOf135
  t124 := Tryz.underlying131
  a124 := Tryz.isAgg131
  z124 := Tryz.sizeOf131
  v124 := Tryz.zeroValue131
  t138 := Tryz.underlying180
  a138 := Tryz.isAgg180
  z138 := Tryz.sizeOf180
  v138 := Tryz.zeroValue180
  t139 := Tryz.underlying181
  a139 := Tryz.isAgg181
  z139 := Tryz.sizeOf181
  v139 := Tryz.zeroValue181
  g3 := by kernel_rfl
  g4 := by kernel_rfl }
open Go.RowKit in
theorem Tryz.strings_TrimRight_one (s : ByteArray) (c : UInt8) (hc : c.toNat < 128) (w : World) (hs : s.size ≤ 9223372036854775807) :
    Calls Tryz.prog 48 #[.string s, .string ⟨#[c]⟩] w fun e w' => e = .returned (.string ⟨(Lib.trimRightB s.data.toList c).toArray⟩) ∧ w' = w := Any.strings_TrimRight_one Tryz.lays162 s c hc w hs
def Tryz.lays122_ren : Go.Shelf.Ren := ⟨fun | 122 => 60 | 215 => 86 | n => n, fun | 3 => 3 | 4 => 4 | n => n, fun | n => n⟩
theorem Tryz.lays122 : Go.Proofs.Lays.n122 Tryz.prog Tryz.lays122_ren := {
  mixed := by kernel_rfl
  f122 := Tryz.func60.trans (congrArg some (by kernel_rfl))
  f215 := Tryz.func86.trans (congrArg some (by kernel_rfl))
  t3 := Tryz.underlying3
  a3 := Tryz.isAgg3
  z3 := Tryz.sizeOf3
  v3 := Tryz.zeroValue3
  t4 := Tryz.underlying4
  a4 := Tryz.isAgg4
  z4 := Tryz.sizeOf4
  v4 := Tryz.zeroValue4 }
open Go.RowKit in
theorem Tryz.cmp_Compare_int (x y : Int) (w : World) :
    Calls Tryz.prog 60 #[.int .i64 x, .int .i64 y] w fun e w' => e = .returned (.int .i64 (Lib.compareInt x y)) ∧ w' = w := Any.cmp_Compare_int Tryz.lays122 x y w
def Tryz.lays138_ren : Go.Shelf.Ren := ⟨fun | 138 => 54 | 195 => 80 | 218 => 81 | 143 => 82 | 219 => 110 | 217 => 128 | 225 => 129 | 224 => 130 | 267 => 131 | 266 => 138 | 314 => 139 | n => n, fun | 9 => 9 | 3 => 3 | 4 => 4 | 5 => 5 | 0 => 0 | 46 => 162 | 146 => 175 | 51 => 152 | n => n, fun | 1 => 1 | n => n⟩
theorem Tryz.lays138 : Go.Proofs.Lays.n138 Tryz.prog Tryz.lays138_ren := {
  mixed := by kernel_rfl
  f138 := Tryz.func54.trans (congrArg some (by kernel_rfl))
  f143 := Tryz.func82.trans (congrArg some (by kernel_rfl))
  f195 := Tryz.func80.trans (congrArg some (by kernel_rfl))
  f217 := Tryz.func128.trans (congrArg some (by kernel_rfl))
  f218 := Tryz.func81.trans (congrArg some (by kernel_rfl))
  f219 := Tryz.func110.trans (congrArg some (by kernel_rfl))
  f224 := Tryz.func130.trans (congrArg some (by kernel_rfl))
  f225 := Tryz.func129.trans (congrArg some (by kernel_rfl))
  f266 := Tryz.func138.trans (congrArg some (by kernel_rfl))
  f267 := Tryz.func131.trans (congrArg some (by kernel_rfl))
  f314 := Tryz.func139.trans (congrArg some (by kernel_rfl))
  t0 := Tryz.underlying0
  a0 := Tryz.isAgg0
  z0 := Tryz.sizeOf0
  v0 := Tryz.zeroValue0
  t3 := Tryz.underlying3
  a3 := Tryz.isAgg3
  z3 := Tryz.sizeOf3
  v3 := Tryz.zeroValue3
  t4 := Tryz.underlying4
  a4 := Tryz.isAgg4
  z4 := Tryz.sizeOf4
  v4 := Tryz.zeroValue4
  t5 := Tryz.underlying5
  a5 := Tryz.isAgg5
  z5 := Tryz.sizeOf5
  v5 := Tryz.zeroValue5
  t9 := Tryz.underlying9
  a9 := Tryz.isAgg9
  z9 := Tryz.sizeOf9
  v9 := Tryz.zeroValue9
  t46 := Tryz.underlying162
  a46 := Tryz.isAgg162
  z46 := Tryz.sizeOf162
  v46 := Tryz.zeroValue162
  t51 := Tryz.underlying152
  a51 := Tryz.isAgg152
  z51 := Tryz.sizeOf152
  v51 := Tryz.zeroValue152
  t146 := Tryz.underlying175
  a146 := Tryz.isAgg175
  z146 := Tryz.sizeOf175
  v146 := Tryz.zeroValue175
  g1 := by kernel_rfl }
open Go.RowKit Go.Lib in
theorem Tryz.strings_Count_one (s : ByteArray) (c : UInt8) (w : World) :
    Calls Tryz.prog 54 #[.string s, .string ⟨#[c]⟩] w fun e w' => e = .returned (.int .i64 (Lib.countByte s.data.toList c)) ∧ w' = w := Any.strings_Count_one Tryz.lays138 s c w
def Tryz.lays149_ren : Go.Shelf.Ren := ⟨fun | 149 => 61 | 222 => 87 | n => n, fun | 9 => 9 | 5 => 5 | 3 => 3 | 4 => 4 | n => n, fun | n => n⟩
theorem Tryz.lays149 : Go.Proofs.Lays.n149 Tryz.prog Tryz.lays149_ren := {
  mixed := by kernel_rfl
  f149 := Tryz.func61.trans (congrArg some (by kernel_rfl))
  f222 := Tryz.func87.trans (congrArg some (by kernel_rfl))
  t3 := Tryz.underlying3
  a3 := Tryz.isAgg3
  z3 := Tryz.sizeOf3
  v3 := Tryz.zeroValue3
  t4 := Tryz.underlying4
  a4 := Tryz.isAgg4
  z4 := Tryz.sizeOf4
  v4 := Tryz.zeroValue4
  t5 := Tryz.underlying5
  a5 := Tryz.isAgg5
  z5 := Tryz.sizeOf5
  v5 := Tryz.zeroValue5
  t9 := Tryz.underlying9
  a9 := Tryz.isAgg9
  z9 := Tryz.sizeOf9
  v9 := Tryz.zeroValue9 }
open Go.RowKit Go.Lib in
theorem Tryz.strings_LastIndexByte (s : ByteArray) (c : Int) (hs : s.size < 4611686018427387904) (w : World) :
    Calls Tryz.prog 61 #[.string s, .int .u8 c] w fun e w' => e = .returned (.int .i64 (Lib.lastIndexByte s c)) ∧ w' = w := Any.strings_LastIndexByte Tryz.lays149 s c hs w
def Tryz.laysGw15_ren : Go.Shelf.Ren := ⟨fun | 15 => 91 | 20 => 115 | n => n, fun | 9 => 9 | 23 => 137 | 3 => 3 | 4 => 4 | 0 => 0 | 21 => 21 | n => n, fun | n => n⟩
theorem Tryz.laysGw15 : Go.Proofs.LaysGw.n15 Tryz.prog Tryz.laysGw15_ren := {
  mixed := by kernel_rfl
  f15 := Tryz.func91.trans (congrArg some (by kernel_rfl))
  f20 := Tryz.func115.trans (congrArg some (by kernel_rfl))
  t0 := Tryz.underlying0
  a0 := Tryz.isAgg0
  z0 := Tryz.sizeOf0
  v0 := Tryz.zeroValue0
  i0 := by kernel_rfl
  t3 := Tryz.underlying3
  a3 := Tryz.isAgg3
  z3 := Tryz.sizeOf3
  v3 := Tryz.zeroValue3
  i3 := by kernel_rfl
  t4 := Tryz.underlying4
  a4 := Tryz.isAgg4
  z4 := Tryz.sizeOf4
  v4 := Tryz.zeroValue4
  i4 := by kernel_rfl
  t9 := Tryz.underlying9
  a9 := Tryz.isAgg9
  z9 := Tryz.sizeOf9
  v9 := Tryz.zeroValue9
  i9 := by kernel_rfl
  t21 := Tryz.underlying21
  a21 := Tryz.isAgg21
  z21 := Tryz.sizeOf21
  v21 := Tryz.zeroValue21
  i21 := by kernel_rfl
  t23 := Tryz.underlying137
  a23 := Tryz.isAgg137
  z23 := Tryz.sizeOf137
  v23 := Tryz.zeroValue137
  i23 := by kernel_rfl }
def Tryz.lays99_ren : Go.Shelf.Ren := ⟨fun | 99 => 90 | 206 => 114 | n => n, fun | 9 => 9 | 4 => 4 | 3 => 3 | n => n, fun | n => n⟩
theorem Tryz.lays99 : Go.Proofs.Lays.n99 Tryz.prog Tryz.lays99_ren := {
  mixed := by kernel_rfl
  f99 := Tryz.func90.trans (congrArg some (by kernel_rfl))
  f206 := Tryz.func114.trans (congrArg some (by kernel_rfl))
  t3 := Tryz.underlying3
  a3 := Tryz.isAgg3
  z3 := Tryz.sizeOf3
  v3 := Tryz.zeroValue3
  t4 := Tryz.underlying4
  a4 := Tryz.isAgg4
  z4 := Tryz.sizeOf4
  v4 := Tryz.zeroValue4
  t9 := Tryz.underlying9
  a9 := Tryz.isAgg9
  z9 := Tryz.sizeOf9
  v9 := Tryz.zeroValue9 }
open Go.RowKit Go.Lib in
theorem Tryz.strings_HasPrefix (s p : ByteArray) (w : World) :
    Calls Tryz.prog 90 #[.string s, .string p] w fun e w' => e = .returned (.bool (Lib.hasPrefix s.data.toList p.data.toList)) ∧ w' = w := Any.strings_HasPrefix Tryz.lays99 s p w
def Tryz.lays146_ren : Go.Shelf.Ren := ⟨fun | 146 => 32 | 221 => 63 | 268 => 94 | 138 => 54 | 143 => 82 | 195 => 80 | 197 => 117 | 218 => 81 | 219 => 110 | 260 => 134 | 217 => 128 | 225 => 129 | 224 => 130 | 267 => 131 | 266 => 138 | 314 => 139 | n => n, fun | 9 => 9 | 31 => 66 | 3 => 3 | 4 => 4 | 0 => 0 | 105 => 144 | 21 => 21 | 5 => 5 | 46 => 162 | 119 => 135 | 139 => 181 | 138 => 180 | 146 => 175 | 51 => 152 | n => n, fun | 1 => 1 | 3 => 3 | 4 => 4 | n => n⟩
theorem Tryz.lays146 : Go.Proofs.Lays.n146 Tryz.prog Tryz.lays146_ren := {
  mixed := by kernel_rfl
  f138 := Tryz.func54.trans (congrArg some (by kernel_rfl))
  f143 := Tryz.func82.trans (congrArg some (by kernel_rfl))
  f146 := Tryz.func32.trans (congrArg some (by kernel_rfl))
  f195 := Tryz.func80.trans (congrArg some (by kernel_rfl))
  f197 := Tryz.func117.trans (congrArg some (by kernel_rfl))
  f217 := Tryz.func128.trans (congrArg some (by kernel_rfl))
  f218 := Tryz.func81.trans (congrArg some (by kernel_rfl))
  f219 := Tryz.func110.trans (congrArg some (by kernel_rfl))
  f221 := Tryz.func63.trans (congrArg some (by kernel_rfl))
  f224 := Tryz.func130.trans (congrArg some (by kernel_rfl))
  f225 := Tryz.func129.trans (congrArg some (by kernel_rfl))
  f260 := Tryz.func134.trans (congrArg some (by kernel_rfl))
  f266 := Tryz.func138.trans (congrArg some (by kernel_rfl))
  f267 := Tryz.func131.trans (congrArg some (by kernel_rfl))
  f268 := Tryz.func94.trans (congrArg some (by kernel_rfl))
  f314 := Tryz.func139.trans (congrArg some (by kernel_rfl))
  t0 := Tryz.underlying0
  a0 := Tryz.isAgg0
  z0 := Tryz.sizeOf0
  v0 := Tryz.zeroValue0
  t3 := Tryz.underlying3
  a3 := Tryz.isAgg3
  z3 := Tryz.sizeOf3
  v3 := Tryz.zeroValue3
  t4 := Tryz.underlying4
  a4 := Tryz.isAgg4
  z4 := Tryz.sizeOf4
  v4 := Tryz.zeroValue4
  t5 := Tryz.underlying5
  a5 := Tryz.isAgg5
  z5 := Tryz.sizeOf5
  v5 := Tryz.zeroValue5
  t9 := Tryz.underlying9
  a9 := Tryz.isAgg9
  z9 := Tryz.sizeOf9
  v9 := Tryz.zeroValue9
  t21 := Tryz.underlying21
  a21 := Tryz.isAgg21
  z21 := Tryz.sizeOf21
  v21 := Tryz.zeroValue21
  t31 := Tryz.underlying66
  a31 := Tryz.isAgg66
  z31 := Tryz.sizeOf66
  v31 := Tryz.zeroValue66
  t46 := Tryz.underlying162
  a46 := Tryz.isAgg162
  z46 := Tryz.sizeOf162
  v46 := Tryz.zeroValue162
  t51 := Tryz.underlying152
  a51 := Tryz.isAgg152
  z51 := Tryz.sizeOf152
  v51 := Tryz.zeroValue152
  t105 := Tryz.underlying144
  a105 := Tryz.isAgg144
  z105 := Tryz.sizeOf144
  v105 := Tryz.zeroValue144
  t119 := Tryz.underlying135
  a119 := Tryz.isAgg135
  z119 := Tryz.sizeOf135
  t138 := Tryz.underlying180
  a138 := Tryz.isAgg180
  z138 := Tryz.sizeOf180
  v138 := Tryz.zeroValue180
  t139 := Tryz.underlying181
  a139 := Tryz.isAgg181
  z139 := Tryz.sizeOf181
  v139 := Tryz.zeroValue181
  t146 := Tryz.underlying175
  a146 := Tryz.isAgg175
  z146 := Tryz.sizeOf175
  v146 := Tryz.zeroValue175
  g1 := by kernel_rfl
  g3 := by kernel_rfl
  g4 := by kernel_rfl }
open Go.RowKit Go.Lib in
theorem Tryz.strings_Split (s sep : ByteArray) (m : Int) (w : World) (hs : s.size < 4294967281) (hm : w.cell? ⟨1, 0, none⟩ = some (.int .i64 m)) (h1 : 1 ≤ sep.size) :
    Calls Tryz.prog 32 #[.string s, .string sep] w fun e w' =>
      e = .returned (.slice (some ⟨w.heap.size, 0, none⟩) (Lib.countB s sep + 1) (Lib.countB s sep + 1)) ∧ w' = w.alloc (.cells ((Lib.splitB sep 0 (Lib.countB s sep) s).map Value.string).toArray 9) := Any.strings_Split Tryz.lays146 (by kernel_rfl) s sep m w hs hm h1
def Tryz.lays157_ren : Go.Shelf.Ren := ⟨fun | 157 => 58 | 229 => 84 | 199 => 85 | 261 => 112 | 311 => 132 | 312 => 133 | n => n, fun | 9 => 9 | 31 => 66 | 3 => 3 | 5 => 5 | 4 => 4 | 119 => 135 | 0 => 0 | 40 => 137 | 152 => 149 | 21 => 21 | 154 => 151 | 51 => 152 | 141 => 154 | 196 => 166 | 193 => 163 | 198 => 169 | 49 => 167 | 194 => 164 | 201 => 172 | 226 => 177 | 46 => 162 | 227 => 178 | n => n, fun | 0 => 0 | 6 => 2 | n => n⟩
theorem Tryz.lays157 : Go.Proofs.Lays.n157 Tryz.prog Tryz.lays157_ren := {
  mixed := by kernel_rfl
  f157 := Tryz.func58.trans (congrArg some (by kernel_rfl))
  f199 := Tryz.func85.trans (congrArg some (by kernel_rfl))
  f229 := Tryz.func84.trans (congrArg some (by kernel_rfl))
  f261 := Tryz.func112.trans (congrArg some (by kernel_rfl))
  f311 := Tryz.func132.trans (congrArg some (by kernel_rfl))
  f312 := Tryz.func133.trans (congrArg some (by kernel_rfl))
  t0 := Tryz.underlying0
  a0 := Tryz.isAgg0
  z0 := Tryz.sizeOf0
  v0 := Tryz.zeroValue0
  t3 := Tryz.underlying3
  a3 := Tryz.isAgg3
  z3 := Tryz.sizeOf3
  v3 := Tryz.zeroValue3
  t4 := Tryz.underlying4
  a4 := Tryz.isAgg4
  z4 := Tryz.sizeOf4
  v4 := Tryz.zeroValue4
  t5 := Tryz.underlying5
  a5 := Tryz.isAgg5
  z5 := Tryz.sizeOf5
  v5 := Tryz.zeroValue5
  t9 := Tryz.underlying9
  a9 := Tryz.isAgg9
  z9 := Tryz.sizeOf9
  v9 := Tryz.zeroValue9
  t21 := Tryz.underlying21
  a21 := Tryz.isAgg21
  z21 := Tryz.sizeOf21
  v21 := Tryz.zeroValue21
  t31 := Tryz.underlying66
  a31 := Tryz.isAgg66
  z31 := Tryz.sizeOf66
  v31 := Tryz.zeroValue66
  t40 := Tryz.underlying137
  a40 := Tryz.isAgg137
  z40 := Tryz.sizeOf137
  v40 := Tryz.zeroValue137
  t46 := Tryz.underlying162
  a46 := Tryz.isAgg162
  z46 := Tryz.sizeOf162
  v46 := Tryz.zeroValue162
  t49 := Tryz.underlying167
  a49 := Tryz.isAgg167
  z49 := Tryz.sizeOf167
  v49 := Tryz.zeroValue167
  t51 := Tryz.underlying152
  a51 := Tryz.isAgg152
  z51 := Tryz.sizeOf152
  v51 := Tryz.zeroValue152
  t119 := Tryz.underlying135
  a119 := Tryz.isAgg135
  z119 := Tryz.sizeOf135
  t141 := Tryz.underlying154
  a141 := Tryz.isAgg154
  z141 := Tryz.sizeOf154
  v141 := Tryz.zeroValue154
  t152 := Tryz.underlying149
  a152 := Tryz.isAgg149
  z152 := Tryz.sizeOf149
  v152 := Tryz.zeroValue149
  t154 := Tryz.underlying151
  a154 := Tryz.isAgg151
  z154 := Tryz.sizeOf151
  v154 := Tryz.zeroValue151
  t193 := Tryz.underlying163
  a193 := Tryz.isAgg163
  z193 := Tryz.sizeOf163
  v193 := Tryz.zeroValue163
  t194 := Tryz.underlying164
  a194 := Tryz.isAgg164
  z194 := Tryz.sizeOf164
  v194 := Tryz.zeroValue164
  t196 := Tryz.underlying166
  a196 := Tryz.isAgg166
  z196 := Tryz.sizeOf166
  v196 := Tryz.zeroValue166
  t198 := Tryz.underlying169
  a198 := Tryz.isAgg169
  z198 := Tryz.sizeOf169
  v198 := Tryz.zeroValue169
  t201 := Tryz.underlying172
  a201 := Tryz.isAgg172
  z201 := Tryz.sizeOf172
  v201 := Tryz.zeroValue172
  t226 := Tryz.underlying177
  a226 := Tryz.isAgg177
  z226 := Tryz.sizeOf177
  v226 := Tryz.zeroValue177
  t227 := Tryz.underlying178
  a227 := Tryz.isAgg178
  z227 := Tryz.sizeOf178
  v227 := Tryz.zeroValue178
  g0 := by kernel_rfl
  g6 := by kernel_rfl }
open Go.RowKit Go.Lib in
theorem Tryz.strings_Fields (s : ByteArray) (w : World) (hs : s.size < 4294967281) (hascii : ∀ (j : Nat) b, s.data.toList[j]? = some b → b.toNat < 128) (htab : Lib.TabIs Tryz.prog w "strings.asciiSpace" .u8 Lib.asciiSpaceTab) :
    Calls Tryz.prog 58 #[.string s] w fun e w' =>
      e = .returned (.slice (some ⟨w.heap.size, 0, none⟩) (Lib.fields s.data.toList).length (Lib.fields s.data.toList).length) ∧ w' = w.alloc (.cells ((Lib.fields s.data.toList).map fun l => Value.string ⟨l.toArray⟩).toArray 9) := Any.strings_Fields Tryz.lays157 (by kernel_rfl) (by kernel_rfl) s w hs hascii htab
open Go.RowKit Go.Lib in
theorem Tryz.strings_IndexFunc_grows (g : Nat) (lb : Array Value) (eg : ∀ args w, (callFunc g args).run Tryz.prog w = .ok (.enter g args) w) (p : Nat → Bool) (s : ByteArray) (w : World) (hp : PredGrows Tryz.prog g lb p w) :
    Calls Tryz.prog 91 #[.string s, .func (.func g) #[] lb] w fun e w' => e = .returned (.int .i64 (Lib.idxFunc p true s)) ∧ Below w.heap.size w w' := Any.strings_IndexFunc_grows Tryz.laysGw15 g lb eg p s w hp
end Go.Proofs
end
section
set_option linter.unusedVariables false
namespace Go.Plane
open Go Go.Proofs Go.RowKit

theorem str_of {l : List UInt8} {s : ByteArray} (h : s.data.toList = l) : s = ⟨l.toArray⟩ := by subst h; simp
theorem rep_str {M : Mem} {s : ByteArray} (hb : (s.data.toList.length : Int) ≤ 9223372036854775807) : Rep M [] [] (.string s) (.d (.str s.data.toList)) := .d _ _ (.str s _ rfl hb)
theorem rep_str' {M : Mem} {l : List UInt8} (hb : (l.length : Int) ≤ 9223372036854775807) : Rep M [] [] (.string ⟨l.toArray⟩) (.d (.str l)) := .d _ _ (.str _ _ (by simp) hb)

theorem F_HasPrefix (s p : List UInt8) : F Γz 90 [.d (.str s), .d (.str p)] (.d (.bool (p.isPrefixOf s))) :=
  F_same (by kernel_rfl) fun M w vs hh hr => by
    obtain ⟨v1, _, rfl, h1, hr⟩ := hr.cons_inv
    obtain ⟨v2, _, rfl, h2, hr⟩ := hr.cons_inv
    obtain rfl := hr.nil_inv
    obtain ⟨a, rfl, rfl, _, _⟩ := h1.str_inv
    obtain ⟨b, rfl, rfl, _, _⟩ := h2.str_inv
    exact ⟨_, .d _ _ (.bool _), Tryz.strings_HasPrefix a b w⟩
theorem F_Count (s : List UInt8) (c : UInt8) : F Γz 54 [.d (.str s), .d (.str [c])] (.d (.int .i64 (s.count c))) :=
  F_same (by kernel_rfl) fun M w vs hh hr => by
    obtain ⟨v1, _, rfl, h1, hr⟩ := hr.cons_inv
    obtain ⟨v2, _, rfl, h2, hr⟩ := hr.cons_inv
    obtain rfl := hr.nil_inv
    obtain ⟨a, rfl, rfl, _, _⟩ := h1.str_inv
    obtain ⟨b, rfl, hb, _, _⟩ := h2.str_inv
    obtain rfl := str_of hb
    exact ⟨_, .d _ _ (.int _ _), Tryz.strings_Count_one a c w⟩
theorem F_TrimRight (s : List UInt8) (c : UInt8) (hc : c.toNat < 128) : F Γz 48 [.d (.str s), .d (.str [c])] (.d (.str (s.reverse.dropWhile (· == c)).reverse)) :=
  F_same (by kernel_rfl) fun M w vs hh hr => by
    obtain ⟨v1, _, rfl, h1, hr⟩ := hr.cons_inv
    obtain ⟨v2, _, rfl, h2, hr⟩ := hr.cons_inv
    obtain rfl := hr.nil_inv
    obtain ⟨a, rfl, rfl, hs, hl⟩ := h1.str_inv
    obtain ⟨b, rfl, hb, _, _⟩ := h2.str_inv
    obtain rfl := str_of hb
    refine ⟨_, rep_str' ?_, Tryz.strings_TrimRight_one a c hc w (by omega)⟩
    have h1 : ((a.data.toList.reverse.dropWhile (· == c)).reverse).length ≤ a.data.toList.length := by
      rw [List.length_reverse]
      exact Nat.le_trans (List.dropWhile_sublist _).length_le (by simp)
    show (((a.data.toList.reverse.dropWhile (· == c)).reverse).length : Int) ≤ _
    omega
theorem F_Compare (a b : Int) : F Γz 60 [.d (.int .i64 a), .d (.int .i64 b)] (.d (.int .i64 (if a < b then -1 else if b < a then 1 else 0))) :=
  F_same (by kernel_rfl) fun M w vs hh hr => by
    obtain ⟨v1, _, rfl, h1, hr⟩ := hr.cons_inv
    obtain ⟨v2, _, rfl, h2, hr⟩ := hr.cons_inv
    obtain rfl := hr.nil_inv
    obtain rfl := h1.int_inv
    obtain rfl := h2.int_inv
    exact ⟨_, .d _ _ (.int _ _), Tryz.cmp_Compare_int a b w⟩

theorem F_LastIndexByte (s : List UInt8) (c : UInt8) (hs : s.length < 4611686018427387904) : F Γz 61 [.d (.str s), .d (.int .u8 c.toNat)] (.d (.int .i64 (Lib.lastIndexByte ⟨s.toArray⟩ c.toNat))) :=
  F_same (by kernel_rfl) fun M w vs hh hr => by
    obtain ⟨v1, _, rfl, h1, hr⟩ := hr.cons_inv
    obtain ⟨v2, _, rfl, h2, hr⟩ := hr.cons_inv
    obtain rfl := hr.nil_inv
    obtain ⟨a, rfl, rfl, h3, _⟩ := h1.str_inv
    obtain rfl := h2.int_inv
    refine ⟨_, .d _ _ (.int _ _), ?_⟩
    have := Tryz.strings_LastIndexByte a c.toNat (by omega) w
    rwa [show (⟨a.data.toList.toArray⟩ : ByteArray) = a by simp] 

/-- One string a row. -/
def strsD (l : List (List UInt8)) : List (List D) := l.map fun s => [.str s]
theorem repds_strs {M : Mem} : ∀ (xs : List ByteArray), (∀ x ∈ xs, (x.data.toList.length : Int) ≤ 9223372036854775807) → RepDs M (xs.map Value.string) (strsD (xs.map (·.data.toList))).flatten
  | [], _ => ⟨rfl, by simp⟩
  | x :: xs, h => by
    have ih := repds_strs (M := M) xs (fun y hy => h y (by simp [hy]))
    refine ⟨by simpa [strsD] using ih.1, fun j v d hv hd => ?_⟩
    cases j with
    | zero =>
      simp [strsD] at hv hd
      subst hv hd
      exact .str x _ rfl (h x (by simp))
    | succ j => exact ih.2 j v d (by simpa using hv) (by simpa [strsD] using hd)

theorem splitL_le (c : UInt8) : ∀ (l : List UInt8), ∀ x ∈ splitL c l, x.length ≤ l.length
  | [], x, h => by simp [splitL] at h; subst h; simp
  | b :: l, x, h => by
    have ih := splitL_le c l
    unfold splitL at h
    split at h
    · rcases List.mem_cons.1 h with rfl | h
      · simp
      · have := ih x h; simp; omega
    · split at h
      · rename_i y r he
        rw [he] at ih
        rcases List.mem_cons.1 h with rfl | h
        · have := ih y (by simp); simp; omega
        · have := ih x (by simp [h]); simp; omega
      · simp at h; subst h; simp

theorem F_Split (s : List UInt8) (c : UInt8) (hs : s.length < 4294967281) : F Γz 32 [.d (.str s), .d (.str [c])] (.d (.slice (strsD (splitL c s)))) := by
  have hcnt : s.count c ≤ s.length := List.count_le_length
  refine F_row (sz := 1) (by kernel_rfl) (by simp [strsD]) (by simp only [strsD, List.length_map, splitL_length]; omega) fun M w vs hh hr => ?_
  obtain ⟨v1, _, rfl, h1, hr⟩ := hr.cons_inv
  obtain ⟨v2, _, rfl, h2, hr⟩ := hr.cons_inv
  obtain rfl := hr.nil_inv
  obtain ⟨a, rfl, rfl, h3, _⟩ := h1.str_inv
  obtain ⟨b, rfl, hb, _, _⟩ := h2.str_inv
  obtain rfl := str_of hb
  obtain ⟨m, hm⟩ := hh.1.1
  have key := Tryz.strings_Split a ⟨#[c]⟩ m w (by omega) (hh.2.2 1 0 _ hm) (by simp [ByteArray.size])
  refine ⟨(Lib.splitB ⟨#[c]⟩ 0 (Lib.countB a ⟨#[c]⟩) a).map Value.string, 9, ?_, ?_⟩
  · rw [← splitB_eq]
    refine repds_strs _ fun x hx => ?_
    have : x.data.toList ∈ splitL c a.data.toList := by rw [← splitB_eq]; exact List.mem_map.2 ⟨x, hx, rfl⟩
    have := splitL_le c _ _ this
    omega
  · have hl : (strsD (splitL c a.data.toList)).length = Lib.countB a ⟨#[c]⟩ + 1 := by
      rw [strsD, List.length_map, splitL_length, ← count_one]
    rw [hl]
    exact key
theorem strs_at {M : Mem} {a : Option Addr} {n cap : Nat} {l : List (List UInt8)} (h : RepD M (.slice a n cap) (.slice (strsD l))) (hne : l ≠ []) :
    ∃ b o, ∃ xs : List ByteArray, a = some ⟨b, o, none⟩ ∧ n = xs.length ∧ n ≤ cap ∧ xs.map (·.data.toList) = l ∧ ∀ (j : Nat) (x : ByteArray), xs[j]? = some x → M b (o + j) = some (.string x) := by
  obtain ⟨a', n', cap', sz, va, he, hn, hc, hb, hsz, hcell, hrep⟩ := h.slice_parts
  cases he
  have hs1 : sz = 1 := by
    cases l with
    | nil => exact absurd rfl hne
    | cons x l => have := hsz [.str x] (by simp [strsD]); simpa using this.symm
  subst hs1
  have at_ : ∀ (i : Nat) (x : List UInt8), l[i]? = some x → ∃ s : ByteArray, va i 0 = .string s ∧ s.data.toList = x ∧ ∃ b o, a = some ⟨b, o, none⟩ ∧ M b (o + i) = some (va i 0) := fun i x hx => by
    have h1 : (strsD l)[i]? = some [.str x] := by simp [strsD, hx]
    obtain ⟨s, h2, h3, _⟩ := (hrep i _ 0 _ h1 rfl).str_inv
    obtain ⟨b, o, h4, h5⟩ := hcell i _ 0 _ h1 rfl
    exact ⟨s, h2, h3, b, o, h4, by simpa using h5⟩
  obtain ⟨x0, hx0⟩ : ∃ x, l[0]? = some x := by cases l with | nil => exact absurd rfl hne | cons x l => exact ⟨x, rfl⟩
  obtain ⟨_, _, _, b, o, rfl, _⟩ := at_ 0 x0 hx0
  refine ⟨b, o, l.map fun x => ⟨x.toArray⟩, rfl, by rw [← hn]; simp [strsD], hc, by simp [Function.comp_def], fun j x hx => ?_⟩
  rw [List.getElem?_map] at hx
  obtain ⟨y, hy, rfl⟩ := Option.map_eq_some_iff.1 hx
  obtain ⟨s, h2, h3, b', o', h4, h5⟩ := at_ j y hy
  cases h4
  rw [h5, h2, str_of h3]

theorem F_Join (l : List (List UInt8)) (sep : List UInt8) (hlen : (sep.intercalate l).length ≤ 140737488355328) (hN : l.length ≤ 140737488355328) : F Γz 49 [.d (.slice (strsD l)), .d (.str sep)] (.d (.str (sep.intercalate l))) :=
  F_below (by kernel_rfl) fun M w vs hh hlt hr => by
    obtain ⟨v1, _, rfl, h1, hr⟩ := hr.cons_inv
    obtain ⟨v2, _, rfl, h2, hr⟩ := hr.cons_inv
    obtain rfl := hr.nil_inv
    obtain ⟨b, rfl, rfl, _, _⟩ := h2.str_inv
    have h1 := h1.d_inv
    by_cases hne : l = []
    · subst hne
      obtain ⟨a, n, cap, rfl, hn, hc, _⟩ := h1.slice_inv
      obtain rfl : n = 0 := by rw [← hn]; rfl
      refine ⟨_, rep_str' (l := []) (by simp), (Tryz.strings_Join_none a cap b w).mono ?_⟩
      rintro e w' ⟨rfl, rfl⟩
      exact ⟨rfl, Below.refl _ _⟩
    · obtain ⟨a, n, cap, rfl, _⟩ := h1.slice_inv
      obtain ⟨bk, o, xs, rfl, rfl, hc, hl, hcell⟩ := strs_at h1 hne
      refine ⟨_, rep_str' (l := b.data.toList.intercalate l) (by omega), ?_⟩
      have hx0 : ∃ x, xs[0]? = some x := by
        cases xs with
        | nil => exact absurd (by simpa using hl.symm) hne
        | cons x _ => exact ⟨x, rfl⟩
      obtain ⟨x0, hx0⟩ := hx0
      have hxl : xs.length = l.length := by rw [← hl]; simp
      have := Tryz.strings_Join bk o cap xs b w (fun j x hx => hh.2.2 _ _ _ (hcell j x hx)) (hlt _ _ _ (hcell 0 x0 hx0)) (by omega) hc (by rw [hl]; exact hlen)
      rw [hl] at this
      exact this
theorem F_IndexFunc (g : FuncId) (p : Nat → Bool) (hp : ∀ x : Nat, x ≤ 1114111 → F Γz g [.d (.int .i32 x)] (.d (.bool (p x)))) (s : List UInt8) :
    F Γz 91 [.d (.str s), .fn g [] []] (.d (.int .i64 (Lib.idxFunc p true ⟨s.toArray⟩))) := by
  have hg : fnOk Tryz.prog g = true := (hp 0 (by omega)).1
  refine F_below (by kernel_rfl) fun M w vs hh hlt hr => ?_
  obtain ⟨v1, _, rfl, h1, hr⟩ := hr.cons_inv
  obtain ⟨v2, _, rfl, h2, hr⟩ := hr.cons_inv
  obtain rfl := hr.nil_inv
  obtain ⟨a, rfl, ha, _, _⟩ := h1.str_inv
  obtain rfl := str_of ha
  obtain ⟨us, ws, rfl, hu, hw, _⟩ := h2.fn_inv
  obtain rfl : us = [] := List.eq_nil_of_length_eq_zero hu
  obtain rfl : ws = [] := List.eq_nil_of_length_eq_zero hw
  refine ⟨_, .d _ _ (.int _ _), ?_⟩
  refine Tryz.strings_IndexFunc_grows g #[] (fun args W => run_callFunc hg args W) p ⟨s.toArray⟩ w fun W x hx hb => ?_
  have hrel : Rel Γz M [] [] W := ⟨hh.1, fun b o v hm => by
    have := hh.2.2 b o v hm
    unfold World.cell? at this ⊢
    rw [hb.block b (hlt b o v hm)]
    exact this, rfl, fun i ty cs hi => by simp at hi, fun i sz xs hi => by simp at hi, fun i j g1 g2 b hij h1 => by simp at h1⟩
  have hgw : Γz.GW W := Γz.gw w W (fun b s hs => by
    have hlt' : b < w.heap.size := by
      rcases Nat.lt_or_ge b w.heap.size with h1 | h1
      · exact h1
      · simp [World.shape?, Array.getElem?_eq_none h1] at hs
    unfold World.shape? at hs ⊢
    rw [hb.block b hlt']
    exact hs) hh.2.1
  refine ((hp x hx).2 M [] W [.int .i32 x] hrel hgw rfl (fun j v p hv hp => ?_)).mono ?_
  · cases j with
    | zero => simp at hv hp; subst hv hp; exact .d _ _ (.int _ _)
    | succ j => simp at hv
  · rintro e w' ⟨M', ρ', σ', o, h1, h2, h3, rfl, rfl⟩
    cases e <;> simp only [RepOut] at h3 <;> try (exact h3.elim)
    rw [h3.bool_inv]
    exact ⟨rfl, h1.ext.os, h1.ext.tape, h1.ext.output, h1.ext.size, fun k hk => h1.ext.keep k hk (by simp [blks])⟩

theorem F_Fields (s : List UInt8) (hs : s.length < 4294967281) (ha : ∀ b ∈ s, b.toNat < 128) (hb : ∀ x ∈ Lib.fields s, x.length ≤ 4294967281) (hl : (Lib.fields s).length ≤ 4294967281) : F Γz 58 [.d (.str s)] (.d (.slice (strsD (Lib.fields s)))) := by
  refine F_row (sz := 1) (by kernel_rfl) (by simp [strsD]) (by simp only [strsD, List.length_map]; omega) fun M w vs hh hr => ?_
  obtain ⟨v1, _, rfl, h1, hr⟩ := hr.cons_inv
  obtain rfl := hr.nil_inv
  obtain ⟨a, rfl, rfl, h3, _⟩ := h1.str_inv
  have key := Tryz.strings_Fields a w (by omega) (fun j b hb => ha b (List.mem_of_getElem? hb)) (tab_of hh)
  refine ⟨(Lib.fields a.data.toList).map fun l => Value.string ⟨l.toArray⟩, 9, ?_, ?_⟩
  · have := repds_strs (M := M) ((Lib.fields a.data.toList).map fun l => ⟨l.toArray⟩) (fun x hx => by
      obtain ⟨y, hy, rfl⟩ := List.mem_map.1 hx
      have := hb y hy
      simp
      omega)
    simpa [Function.comp_def] using this
  · rw [show (strsD (Lib.fields a.data.toList)).length = (Lib.fields a.data.toList).length by simp [strsD]]
    exact key
end Go.Plane
end
section
set_option linter.unusedVariables false
set_option linter.unusedSimpArgs false
namespace Go.Plane
open Go Go.Proofs

/-! ### Bytes -/
def isSmall (b : UInt8) : Bool := 97 ≤ b && b ≤ 122
def isCapital (b : UInt8) : Bool := 65 ≤ b && b ≤ 90
def isDigit (b : UInt8) : Bool := 48 ≤ b && b ≤ 57
def isPart (b : UInt8) : Bool := isSmall b || isCapital b || isDigit b || b == 95
theorem byte_ge (b : UInt8) (n : Nat) (h : n < 256) : decide ((n : Int) ≤ (b.toNat : Int)) = decide (UInt8.ofNat n ≤ b) := by
  rw [decide_eq_decide, UInt8.le_iff_toNat_le, UInt8.toNat_ofNat_of_lt' (by simpa using h)]; omega
theorem byte_le (b : UInt8) (n : Nat) (h : n < 256) : decide ((b.toNat : Int) ≤ (n : Int)) = decide (b ≤ UInt8.ofNat n) := by
  rw [decide_eq_decide, UInt8.le_iff_toNat_le, UInt8.toNat_ofNat_of_lt' (by simpa using h)]; omega
theorem byte_eq (b : UInt8) (n : Nat) (h : n < 256) : ((b.toNat : Int) == (n : Int)) = (b == UInt8.ofNat n) := by
  rw [Bool.eq_iff_iff, beq_iff_eq, beq_iff_eq, ← UInt8.toNat_inj, UInt8.toNat_ofNat_of_lt' (by simpa using h)]; omega

theorem isDigit_int (b : UInt8) : isDigit b = (decide ((48 : Int) ≤ b.toNat) && decide ((b.toNat : Int) ≤ 57)) := by
  rw [show (48 : Int) = ((48 : Nat) : Int) from rfl, show (57 : Int) = ((57 : Nat) : Int) from rfl, byte_ge b 48 (by decide), byte_le b 57 (by decide)]; rfl
theorem isSmall_int (b : UInt8) : isSmall b = (decide ((97 : Int) ≤ b.toNat) && decide ((b.toNat : Int) ≤ 122)) := by
  rw [show (97 : Int) = ((97 : Nat) : Int) from rfl, show (122 : Int) = ((122 : Nat) : Int) from rfl, byte_ge b 97 (by decide), byte_le b 122 (by decide)]; rfl
theorem isCapital_int (b : UInt8) : isCapital b = (decide ((65 : Int) ≤ b.toNat) && decide ((b.toNat : Int) ≤ 90)) := by
  rw [show (65 : Int) = ((65 : Nat) : Int) from rfl, show (90 : Int) = ((90 : Nat) : Int) from rfl, byte_ge b 65 (by decide), byte_le b 90 (by decide)]; rfl
theorem byteN (b : UInt8) (n : Nat) (h : n < 256) : ((b.toNat : Int) = (n : Int)) ↔ b = UInt8.ofNat n := by
  have := byte_eq b n h
  rw [Bool.eq_iff_iff, beq_iff_eq, beq_iff_eq] at this
  exact this
theorem isPart_int (b : UInt8) : isPart b = (isSmall b || isCapital b || isDigit b || ((b.toNat : Int) == 95)) := by
  unfold isPart
  congr 1
  exact (byte_eq b 95 (by decide)).symm
theorem f_digit (b : UInt8) : F Γz 103 [.d (.int .u8 b.toNat)] (.d (.bool (isDigit b))) := by
  refine fn_of c103 rfl (by simp only [Env.of, List.zipIdx, List.map]; rfl) ?_
  repeat' (first | refine dr ?_ | (refine ds ?_ ?_ <;> intro hb) | ((with_reducible refine dbm ?_); first | exact db_nil | refine dbc ?_ ?_) | ((with_reducible refine natle ?_); first | assumption | omega | (simp; omega)))
  all_goals simp [isDigit_int, *]
theorem f_small (b : UInt8) : F Γz 123 [.d (.int .u8 b.toNat)] (.d (.bool (isSmall b))) := by
  refine fn_of c123 rfl (by simp only [Env.of, List.zipIdx, List.map]; rfl) ?_
  repeat' (first | refine dr ?_ | (refine ds ?_ ?_ <;> intro hb) | ((with_reducible refine dbm ?_); first | exact db_nil | refine dbc ?_ ?_) | ((with_reducible refine natle ?_); first | assumption | omega | (simp; omega)))
  all_goals simp [isSmall_int, *]
theorem f_capital (b : UInt8) : F Γz 121 [.d (.int .u8 b.toNat)] (.d (.bool (isCapital b))) := by
  refine fn_of c121 rfl (by simp only [Env.of, List.zipIdx, List.map]; rfl) ?_
  repeat' (first | refine dr ?_ | (refine ds ?_ ?_ <;> intro hb) | ((with_reducible refine dbm ?_); first | exact db_nil | refine dbc ?_ ?_) | ((with_reducible refine natle ?_); first | assumption | omega | (simp; omega)))
  all_goals simp [isCapital_int, *]
theorem f_within (b : UInt8) : F Γz 113 [.d (.int .u8 b.toNat)] (.d (.bool (isPart b))) := by
  refine fn_of c113 rfl (by simp only [Env.of, List.zipIdx, List.map]; rfl) ?_
  repeat' (first | ((with_reducible refine wcm ?_); first | refine cF (f_small _) ?_ | refine cF (f_capital _) ?_ | refine cF (f_digit _) ?_) | refine dr ?_ | (refine ds ?_ ?_ <;> intro hb) | ((with_reducible refine dbm ?_); first | exact db_nil | refine dbc ?_ ?_) | ((with_reducible refine natle ?_); first | assumption | omega | (simp; omega)))
  all_goals simp [isPart_int, *]
end Go.Plane
end
section
set_option linter.unusedVariables false
set_option linter.unusedSimpArgs false
namespace Go.Plane
open Go Go.Proofs


theorem takeWhile_at {p : UInt8 → Bool} {s : List UInt8} {n : Nat} (h : ∀ b ∈ s.take n, p b = true) (hn : n ≤ s.length) (hs : ∀ b, s[n]? = some b → p b = false) : (s.takeWhile p).length = n := by
  induction s generalizing n with
  | nil => simp at hn; subst hn; rfl
  | cons b s ih =>
    cases n with
    | zero => have := hs b rfl; simp [this]
    | succ n =>
      have hb : p b = true := h b (by simp)
      rw [List.takeWhile_cons, if_pos hb, List.length_cons, ih (n := n) (fun c hc => h c (by simp [hc])) (by simpa using hn) (fun c hc => hs c (by simpa using hc))]

theorem f_run (s : List UInt8) (hs : s.length ≤ 4294967296) : F Γz 89 [.d (.str s)] (.d (.int .i64 (s.takeWhile isPart).length)) := by
  refine fn_of c89 rfl (by simp only [Env.of, List.zipIdx, List.map]; rfl) ?_
  repeat' (first | refine dr ?_ | (refine ds ?_ ?_ <;> intro hb) | ((with_reducible refine dbm ?_); first | exact db_nil | refine dbc ?_ ?_) | ((with_reducible refine natle ?_); first | assumption | omega | (simp; omega)))
  refine LP_ind (α := Nat) (fun n => s.length - n) (fun n => [(0, .d (.str s)), (3, .d (.int .i64 n))]) (fun _ => []) (fun n => n ≤ s.length ∧ ∀ b ∈ s.take n, isPart b = true) 0 rfl rfl ⟨Nat.zero_le _, by simp⟩ ?_
  rintro n ⟨h1, h2⟩ ih
  apply LP_go
  cases hx : s[n]? with
  | none =>
    have hn := List.getElem?_eq_none_iff.1 hx
    repeat' (first | refine dr ?_ | (refine ds ?_ ?_ <;> intro hb) | ((with_reducible refine dbm ?_); first | exact db_nil | refine dbc ?_ ?_) | ((with_reducible refine natle ?_); first | assumption | omega | (simp; omega)))
    rw [takeWhile_at h2 h1 (fun b hb => by rw [hx] at hb; cases hb)]
    exact ⟨rfl, rfl⟩
  | some b =>
    have hn : n < s.length := (List.getElem?_eq_some_iff.1 hx).1
    repeat' (first | ((with_reducible refine wcm ?_); first | refine cF (f_within _) ?_) | refine dr ?_ | (refine ds ?_ ?_ <;> intro hb) | ((with_reducible refine dbm ?_); first | exact db_nil | refine dbc ?_ ?_) | ((with_reducible refine natle ?_); first | assumption | omega | (simp; omega)))
    · refine LP_at ?_ rfl (ih (n + 1) ⟨hn, fun c hc => ?_⟩ (by omega))
      · (first | (simp [Env.shr, Env.get, PV.exp, PV.ids, PV.ids.idsL]; done) | simp [Env.shr, Env.get, PV.exp, PV.ids, PV.ids.idsL, *])
      · rw [List.take_add_one, List.mem_append] at hc
        rcases hc with hc | hc
        · exact h2 c hc
        · rw [hx] at hc; simp at hc; subst hc; exact hb
    · rw [takeWhile_at h2 h1 (fun c hc => by rw [hx] at hc; cases hc; exact hb)]
      exact ⟨rfl, rfl⟩
end Go.Plane
end
section
set_option linter.unusedVariables false
set_option linter.unusedSimpArgs false
namespace Go.Plane
open Go Go.Proofs

theorem f_only (g : FuncId) (p : UInt8 → Bool) (hp : ∀ b : UInt8, F Γz g [.d (.int .u8 b.toNat)] (.d (.bool (p b)))) (s : List UInt8) (hs : s.length ≤ 4294967296) :
    F Γz 119 [.d (.str s), .fn g [] []] (.d (.bool (s.all p))) := by
  refine fn_of c119 rfl (by simp only [Env.of, List.zipIdx, List.map]; rfl) ?_
  repeat' (first | refine dr ?_ | (refine ds ?_ ?_ <;> intro hb) | ((with_reducible refine dbm ?_); first | exact db_nil | refine dbc ?_ ?_) | ((with_reducible refine natle ?_); first | assumption | omega | (simp; omega)))
  refine LP_ind (α := Nat) (fun n => s.length - n) (fun n => [(0, .d (.str s)), (1, .fn g [] []), (7, .d (.int .i64 s.length)), (8, .d (.int .i64 n))]) (fun _ => []) (fun n => n ≤ s.length ∧ ∀ b ∈ s.take n, p b = true) 0 rfl rfl ⟨Nat.zero_le _, by simp⟩ ?_
  rintro n ⟨h1, h2⟩ ih
  apply LP_go
  cases hx : s[n]? with
  | none =>
    have hn : s.length ≤ n := List.getElem?_eq_none_iff.1 hx
    repeat' (first | refine dr ?_ | (refine ds ?_ ?_ <;> intro hb) | ((with_reducible refine dbm ?_); first | exact db_nil | refine dbc ?_ ?_) | ((with_reducible refine natle ?_); first | assumption | omega | (simp; omega)))
    obtain rfl : n = s.length := by omega
    rw [List.take_length] at h2
    rw [List.all_eq_true.2 h2]
    exact ⟨rfl, rfl⟩
  | some b =>
    have hn : n < s.length := (List.getElem?_eq_some_iff.1 hx).1
    have hb := hp b
    cases hpb : p b with
    | true =>
      rw [hpb] at hb
      repeat' (first | ((with_reducible refine wcm ?_); first | refine cF (hb) ?_) | refine dr ?_ | (refine ds ?_ ?_ <;> intro hb) | ((with_reducible refine dbm ?_); first | exact db_nil | refine dbc ?_ ?_) | ((with_reducible refine natle ?_); first | assumption | omega | (simp; omega)))
      refine LP_at ?_ rfl (ih (n + 1) ⟨hn, fun c hc => ?_⟩ (by omega))
      · (first | (simp [Env.shr, Env.get, PV.exp, PV.ids, PV.ids.idsL]; done) | simp [Env.shr, Env.get, PV.exp, PV.ids, PV.ids.idsL, *])
      · rw [List.take_add_one, List.mem_append] at hc
        rcases hc with hc | hc
        · exact h2 c hc
        · rw [hx] at hc; simp at hc; subst hc; exact hpb
    | false =>
      rw [hpb] at hb
      repeat' (first | ((with_reducible refine wcm ?_); first | refine cF (hb) ?_) | refine dr ?_ | (refine ds ?_ ?_ <;> intro hb) | ((with_reducible refine dbm ?_); first | exact db_nil | refine dbc ?_ ?_) | ((with_reducible refine natle ?_); first | assumption | omega | (simp; omega)))
      rw [show s.all p = false from by
        rw [Bool.eq_false_iff]
        intro h
        have := List.all_eq_true.1 h b (List.mem_of_getElem? hx)
        rw [hpb] at this; cases this]
      exact ⟨rfl, rfl⟩
end Go.Plane
end
section
set_option linter.unusedVariables false
set_option linter.unusedSimpArgs false
namespace Go.Plane
open Go Go.Proofs

theorem strsD_length (l : List (List UInt8)) : (strsD l).length = l.length := by simp [strsD]
theorem strsD_at {l : List (List UInt8)} {n : Nat} {x : List UInt8} (h : l[n]? = some x) : (strsD l)[n]? = some [.str x] := by simp [strsD, h]

/-- The first place of a text among texts; -1 if there is none. -/
def idxOfL (x : List UInt8) : List (List UInt8) → Int
  | [] => -1
  | y :: l => if x = y then 0 else if idxOfL x l = -1 then -1 else idxOfL x l + 1
theorem idxOfL_at {x : List UInt8} : ∀ {l : List (List UInt8)} {n : Nat}, l[n]? = some x → (∀ y ∈ l.take n, x ≠ y) → idxOfL x l = n
  | [], n, h, _ => by simp at h
  | y :: l, 0, h, _ => by simp at h; subst h; simp [idxOfL]
  | y :: l, n + 1, h, hn => by
    have h1 : x ≠ y := hn y (by simp)
    have ih := idxOfL_at (l := l) (n := n) (by simpa using h) (fun z hz => hn z (by simp [hz]))
    simp only [idxOfL, if_neg h1, ih]
    rw [if_neg (by omega)]
    omega
theorem idxOfL_none {x : List UInt8} : ∀ {l : List (List UInt8)}, (∀ y ∈ l, x ≠ y) → idxOfL x l = -1
  | [], _ => rfl
  | y :: l, h => by simp [idxOfL, h y (by simp), idxOfL_none (l := l) (fun z hz => h z (by simp [hz]))]
theorem idxOfL_mem (x : List UInt8) (l : List (List UInt8)) : decide (0 ≤ idxOfL x l) = decide (x ∈ l) := by
  rw [decide_eq_decide]
  constructor
  · intro h
    apply Decidable.byContradiction
    intro hn
    rw [idxOfL_none (fun y hy he => hn (by rw [he]; exact hy))] at h
    omega
  · intro h
    induction l with
    | nil => cases h
    | cons y l ih =>
      unfold idxOfL
      split
      · omega
      · rename_i hne
        have := ih (by rcases List.mem_cons.1 h with h | h; exact absurd h hne; exact h)
        rw [if_neg (by omega)]
        omega

theorem f_Index (l : List (List UInt8)) (x : List UInt8) (hs : l.length ≤ 4294967296) : F Γz 135 [.d (.slice (strsD l)), .d (.str x)] (.d (.int .i64 (idxOfL x l))) := by
  refine fn_of c135 rfl (by simp only [Env.of, List.zipIdx, List.map]; rfl) ?_
  have hl := strsD_length l
  repeat' (first | refine dr ?_ | (refine ds ?_ ?_ <;> intro hb) | ((with_reducible refine dbm ?_); first | exact db_nil | refine dbc ?_ ?_) | ((with_reducible refine natle ?_); first | assumption | omega | (simp; omega)))
  refine LP_ind (α := Nat) (fun n => l.length - n) (fun n => [(0, .d (.slice (strsD l))), (1, .d (.str x)), (7, .d (.int .i64 l.length)), (8, .d (.int .i64 n))]) (fun _ => []) (fun n => n ≤ l.length ∧ ∀ y ∈ l.take n, x ≠ y) 0 rfl rfl ⟨Nat.zero_le _, by simp⟩ ?_
  rintro n ⟨h1, h2⟩ ih
  apply LP_go
  cases hx : l[n]? with
  | none =>
    have hn := List.getElem?_eq_none_iff.1 hx
    repeat' (first | refine dr ?_ | (refine ds ?_ ?_ <;> intro hb) | ((with_reducible refine dbm ?_); first | exact db_nil | refine dbc ?_ ?_) | ((with_reducible refine natle ?_); first | assumption | omega | (simp; omega)))
    obtain rfl : n = l.length := by omega
    rw [List.take_length] at h2
    rw [idxOfL_none h2]
    exact ⟨rfl, rfl⟩
  | some y =>
    have hn : n < l.length := (List.getElem?_eq_some_iff.1 hx).1
    have hy := strsD_at hx
    repeat' (first | refine dr ?_ | (refine ds ?_ ?_ <;> intro hb) | ((with_reducible refine dbm ?_); first | exact db_nil | refine dbc ?_ ?_) | ((with_reducible refine natle ?_); first | assumption | omega | (simp; omega)))
    · obtain rfl : x = y := hb
      rw [idxOfL_at hx h2]
      exact ⟨rfl, rfl⟩
    · refine LP_at ?_ rfl (ih (n + 1) ⟨hn, fun c hc => ?_⟩ (by omega))
      · (first | (simp [Env.shr, Env.get, PV.exp, PV.ids, PV.ids.idsL]; done) | simp [Env.shr, Env.get, PV.exp, PV.ids, PV.ids.idsL, *])
      · rw [List.take_add_one, List.mem_append] at hc
        rcases hc with hc | hc
        · exact h2 c hc
        · rw [hx] at hc; simp at hc; subst hc; exact hb
theorem f_Contains (l : List (List UInt8)) (x : List UInt8) (hs : l.length ≤ 4294967296) : F Γz 124 [.d (.slice (strsD l)), .d (.str x)] (.d (.bool (decide (x ∈ l)))) := by
  refine fn_of c124 rfl (by simp only [Env.of, List.zipIdx, List.map]; rfl) ?_
  have hc := f_Index l x hs
  repeat' (first | ((with_reducible refine wcm ?_); first | refine cF (hc) ?_) | refine dr ?_ | (refine ds ?_ ?_ <;> intro hb) | ((with_reducible refine dbm ?_); first | exact db_nil | refine dbc ?_ ?_) | ((with_reducible refine natle ?_); first | assumption | omega | (simp; omega)))
  rw [idxOfL_mem]
  exact ⟨rfl, rfl⟩
end Go.Plane
end
section
set_option linter.unusedVariables false
set_option linter.unusedSimpArgs false
set_option maxRecDepth 100000
namespace Go.Plane
open Go Go.Proofs

def keywords : List (List UInt8) := [[97, 110, 100], [97, 115], [97, 116, 116, 97, 99, 104, 101, 100], [99, 104, 101, 99, 107], [99, 108, 97, 115, 115], [99, 114, 101, 97, 116, 101], [100, 101, 102, 101, 114, 114, 101, 100], [100, 101, 116, 97, 99, 104, 97, 98, 108, 101], [100, 111], [101, 108, 115, 101], [101, 110, 100], [101, 110, 115, 117, 114, 101], [102, 101, 97, 116, 117, 114, 101], [102, 114, 111, 109], [105, 102], [105, 109, 112, 108, 105, 101, 115], [105, 110, 104, 101, 114, 105, 116], [105, 110, 118, 97, 114, 105, 97, 110, 116], [108, 111, 99, 97, 108], [108, 111, 111, 112], [110, 111, 116], [111, 108, 100], [111, 114], [112, 117, 116], [114, 97, 105, 115, 101], [114, 101, 100, 101, 102, 105, 110, 101], [114, 101, 110, 97, 109, 101], [114, 101, 113, 117, 105, 114, 101], [114, 101, 115, 99, 117, 101], [114, 101, 116, 114, 121], [115, 101, 108, 101, 99, 116], [115, 101, 112, 97, 114, 97, 116, 101], [116, 104, 101, 110], [117, 110, 100, 101, 102, 105, 110, 101], [117, 110, 116, 105, 108], [118, 97, 114, 105, 97, 110, 116], [119, 104, 101, 110]]
def specials : List (List UInt8) := [[84, 114, 117, 101], [70, 97, 108, 115, 101], [86, 111, 105, 100], [67, 117, 114, 114, 101, 110, 116], [82, 101, 115, 117, 108, 116]]
def lowers : List (List UInt8) := [[116, 114, 117, 101], [102, 97, 108, 115, 101], [118, 111, 105, 100], [99, 117, 114, 114, 101, 110, 116], [114, 101, 115, 117, 108, 116]]
theorem fields_keywords : Lib.fields [97, 110, 100, 32, 97, 115, 32, 97, 116, 116, 97, 99, 104, 101, 100, 32, 99, 104, 101, 99, 107, 32, 99, 108, 97, 115, 115, 32, 99, 114, 101, 97, 116, 101, 32, 100, 101, 102, 101, 114, 114, 101, 100, 32, 100, 101, 116, 97, 99, 104, 97, 98, 108, 101, 32, 100, 111, 32, 101, 108, 115, 101, 32, 101, 110, 100, 32, 101, 110, 115, 117, 114, 101, 32, 102, 101, 97, 116, 117, 114, 101, 32, 102, 114, 111, 109, 32, 105, 102, 32, 105, 109, 112, 108, 105, 101, 115, 32, 105, 110, 104, 101, 114, 105, 116, 32, 105, 110, 118, 97, 114, 105, 97, 110, 116, 32, 108, 111, 99, 97, 108, 32, 108, 111, 111, 112, 32, 110, 111, 116, 32, 111, 108, 100, 32, 111, 114, 32, 112, 117, 116, 32, 114, 97, 105, 115, 101, 32, 114, 101, 100, 101, 102, 105, 110, 101, 32, 114, 101, 110, 97, 109, 101, 32, 114, 101, 113, 117, 105, 114, 101, 32, 114, 101, 115, 99, 117, 101, 32, 114, 101, 116, 114, 121, 32, 115, 101, 108, 101, 99, 116, 32, 115, 101, 112, 97, 114, 97, 116, 101, 32, 116, 104, 101, 110, 32, 117, 110, 100, 101, 102, 105, 110, 101, 32, 117, 110, 116, 105, 108, 32, 118, 97, 114, 105, 97, 110, 116, 32, 119, 104, 101, 110] = keywords := by decide +kernel
theorem f_Keywords : F Γz 27 [] (.d (.slice (strsD keywords))) := by
  refine fn_of c27 rfl (by simp only [Env.of, List.zipIdx, List.map]; rfl) ?_
  have h := F_Fields [97, 110, 100, 32, 97, 115, 32, 97, 116, 116, 97, 99, 104, 101, 100, 32, 99, 104, 101, 99, 107, 32, 99, 108, 97, 115, 115, 32, 99, 114, 101, 97, 116, 101, 32, 100, 101, 102, 101, 114, 114, 101, 100, 32, 100, 101, 116, 97, 99, 104, 97, 98, 108, 101, 32, 100, 111, 32, 101, 108, 115, 101, 32, 101, 110, 100, 32, 101, 110, 115, 117, 114, 101, 32, 102, 101, 97, 116, 117, 114, 101, 32, 102, 114, 111, 109, 32, 105, 102, 32, 105, 109, 112, 108, 105, 101, 115, 32, 105, 110, 104, 101, 114, 105, 116, 32, 105, 110, 118, 97, 114, 105, 97, 110, 116, 32, 108, 111, 99, 97, 108, 32, 108, 111, 111, 112, 32, 110, 111, 116, 32, 111, 108, 100, 32, 111, 114, 32, 112, 117, 116, 32, 114, 97, 105, 115, 101, 32, 114, 101, 100, 101, 102, 105, 110, 101, 32, 114, 101, 110, 97, 109, 101, 32, 114, 101, 113, 117, 105, 114, 101, 32, 114, 101, 115, 99, 117, 101, 32, 114, 101, 116, 114, 121, 32, 115, 101, 108, 101, 99, 116, 32, 115, 101, 112, 97, 114, 97, 116, 101, 32, 116, 104, 101, 110, 32, 117, 110, 100, 101, 102, 105, 110, 101, 32, 117, 110, 116, 105, 108, 32, 118, 97, 114, 105, 97, 110, 116, 32, 119, 104, 101, 110] (by decide) (by decide) (by rw [fields_keywords]; decide) (by rw [fields_keywords]; decide)
  rw [fields_keywords] at h
  repeat' (first | ((with_reducible refine wcm ?_); first | refine cF (h) ?_) | refine dr ?_ | (refine ds ?_ ?_ <;> intro hb) | ((with_reducible refine dbm ?_); first | exact db_nil | refine dbc ?_ ?_) | ((with_reducible refine natle ?_); first | assumption | omega | (simp; omega)))
  exact ⟨rfl, rfl⟩
theorem f_word1 (b : UInt8) : F Γz 120 [.d (.int .u8 b.toNat)] (.d (.bool (isPart b && !isCapital b))) := by
  refine fn_of c120 rfl (by simp only [Env.of, List.zipIdx, List.map]; rfl) ?_
  repeat' (first | ((with_reducible refine wcm ?_); first | refine cF (f_within _) ?_ | refine cF (f_capital _) ?_) | refine dr ?_ | (refine ds ?_ ?_ <;> intro hb) | ((with_reducible refine dbm ?_); first | exact db_nil | refine dbc ?_ ?_) | ((with_reducible refine natle ?_); first | assumption | omega | (simp; omega)))
  all_goals simp [*]
theorem f_word2 (b : UInt8) : F Γz 122 [.d (.int .u8 b.toNat)] (.d (.bool (isPart b && !isSmall b))) := by
  refine fn_of c122 rfl (by simp only [Env.of, List.zipIdx, List.map]; rfl) ?_
  repeat' (first | ((with_reducible refine wcm ?_); first | refine cF (f_within _) ?_ | refine cF (f_small _) ?_) | refine dr ?_ | (refine ds ?_ ?_ <;> intro hb) | ((with_reducible refine dbm ?_); first | exact db_nil | refine dbc ?_ ?_) | ((with_reducible refine natle ?_); first | assumption | omega | (simp; omega)))
  all_goals simp [*]
/-- What a word is: its kind, or its error. -/
def wordM (s : List UInt8) : Int × Int :=
  if s ∈ keywords ∨ s ∈ specials then (3, 0)
  else if s ∈ lowers then (0, 4)
  else if s.all (fun b => isPart b && !isCapital b) = false ∧ s.all (fun b => isPart b && !isSmall b) = false then (0, 2)
  else if 20 < s.length then (0, 3)
  else if s.all (fun b => isPart b && !isCapital b) then (1, 0) else (2, 0)
def pairI (p : Int × Int) : PV := .tup [.d (.int .i64 p.1), .d (.int .i64 p.2)]
theorem f_word (s : List UInt8) (hs : s.length ≤ 4294967296) : F Γz 105 [.d (.str s)] (pairI (wordM s)) := by
  refine fn_of c105 rfl (by simp only [Env.of, List.zipIdx, List.map]; rfl) ?_
  repeat' (first | ((with_reducible refine wcm ?_); first | refine cF (f_only _ _ f_word1 s hs) ?_ | refine cF (f_only _ _ f_word2 s hs) ?_ | refine cF (f_Keywords) ?_ | refine cF (f_Contains keywords s (by decide)) ?_ | refine cF (f_Contains specials s (by decide)) ?_ | refine cF (f_Contains lowers s (by decide)) ?_) | refine dr ?_ | (refine ds ?_ ?_ <;> intro hb) | ((with_reducible refine dbm ?_); first | exact db_nil | refine dbc ?_ ?_) | ((with_reducible refine natle ?_); first | assumption | omega | (simp; omega)))
  all_goals (have hnat : ((20 : Int) < (s.length : Int)) ↔ 20 < s.length := by omega)
  all_goals (simp only [pairI, wordM, Bool.not_eq_true', Bool.not_eq_false', hnat] at *; first | contradiction | (exfalso; simp_all only [Bool.true_eq_false, Bool.false_eq_true]; done) | simp [*])
end Go.Plane
end
section
set_option linter.unusedVariables false
set_option linter.unusedSimpArgs false
set_option maxRecDepth 100000
namespace Go.Plane
open Go Go.Proofs
def signs : List (List UInt8) := [[58, 61], [47, 61], [60, 61], [62, 61], [47, 47], [61], [60], [62], [43], [45], [42], [37], [40], [41], [91], [93], [123], [125], [44], [59], [58], [46]]
theorem f_signs : F Γz 116 [] (.agg (signs.map D.str)) := by
  refine fn_of c116 rfl (by simp only [Env.of, List.zipIdx, List.map]; rfl) ?_
  repeat' (first | refine dr ?_ | (refine ds ?_ ?_ <;> intro hb) | ((with_reducible refine dbm ?_); first | exact db_nil | refine dbc ?_ ?_) | ((with_reducible refine natle ?_); first | assumption | omega | (simp; omega)))
  exact ⟨rfl, rfl⟩
def signM (s : List UInt8) : List UInt8 := (signs.find? fun x => x.isPrefixOf s).getD []
theorem find_at {α : Type} {p : α → Bool} : ∀ {l : List α} {n : Nat} {x : α}, l[n]? = some x → p x = true → (∀ y ∈ l.take n, p y = false) → l.find? p = some x
  | [], n, x, h, _, _ => by simp at h
  | y :: l, 0, x, h, hp, _ => by simp at h; subst h; simp [hp]
  | y :: l, n + 1, x, h, hp, hn => by
    rw [List.find?_cons, hn y (by simp)]
    exact find_at (n := n) (by simpa using h) hp (fun z hz => hn z (by simp [hz]))
theorem f_sign (s : List UInt8) : F Γz 93 [.d (.str s)] (.d (.str (signM s))) := by
  refine fn_of c93 rfl (by simp only [Env.of, List.zipIdx, List.map]; rfl) ?_
  repeat' (first | ((with_reducible refine wcm ?_); first | refine cF (f_signs) ?_) | refine dr ?_ | (refine ds ?_ ?_ <;> intro hb) | ((with_reducible refine dbm ?_); first | exact db_nil | refine dbc ?_ ?_) | ((with_reducible refine natle ?_); first | assumption | omega | (simp; omega)))
  refine LP_ind (α := Nat) (fun n => 22 - n) (fun n => [(0, .d (.str s)), (3, .d (.str [])), (6, .agg (signs.map D.str)), (7, .d (.int .i64 n))]) (fun _ => []) (fun n => n ≤ 22 ∧ ∀ y ∈ signs.take n, y.isPrefixOf s = false) 0 rfl rfl ⟨Nat.zero_le _, by simp⟩ ?_
  rintro n ⟨h1, h2⟩ ih
  apply LP_go
  cases hx : signs[n]? with
  | none =>
    have hn : n = 22 := by have := List.getElem?_eq_none_iff.1 hx; simp [signs] at this; omega
    have hlt : decide ((n : Int) < 22) = false := by simp; omega
    repeat' (first | refine dr ?_ | (refine ds ?_ ?_ <;> intro hb) | ((with_reducible refine dbm ?_); first | exact db_nil | refine dbc ?_ ?_) | ((with_reducible refine natle ?_); first | assumption | omega | (simp; omega)))
    subst hn
    have : signM s = [] := by
      unfold signM
      rw [List.find?_eq_none.2]
      · rfl
      · intro x hx'
        rw [h2 x (by rw [List.take_of_length_le (by simp [signs])]; exact hx')]
        simp
    rw [this]
    exact ⟨rfl, rfl⟩
  | some y =>
    have hn : n < 22 := by have := (List.getElem?_eq_some_iff.1 hx).1; simpa [signs] using this
    have hlt : decide ((n : Int) < 22) = true := by simp; omega
    have hlt2 : ((n : Int) < ((22 : Nat) : Int)) = True := by simp; omega
    have hy : (signs.map D.str)[n]? = some (.str y) := by simp [hx]
    have hc := F_HasPrefix s y
    cases hp : y.isPrefixOf s with
    | true =>
      rw [hp] at hc
      repeat' (first | ((with_reducible refine wcm ?_); first | refine cF (hc) ?_) | refine dr ?_ | (refine ds ?_ ?_ <;> intro hb) | ((with_reducible refine dbm ?_); first | exact db_nil | refine dbc ?_ ?_) | ((with_reducible refine natle ?_); first | assumption | omega | (simp; omega)))
      have : signM s = y := by unfold signM; rw [find_at hx hp h2]; rfl
      rw [this]
      exact ⟨rfl, rfl⟩
    | false =>
      rw [hp] at hc
      repeat' (first | ((with_reducible refine wcm ?_); first | refine cF (hc) ?_) | refine dr ?_ | (refine ds ?_ ?_ <;> intro hb) | ((with_reducible refine dbm ?_); first | exact db_nil | refine dbc ?_ ?_) | ((with_reducible refine natle ?_); first | assumption | omega | (simp; omega)))
      refine LP_at ?_ rfl (ih (n + 1) ⟨hn, fun c hc' => ?_⟩ (by omega))
      · (first | (simp [Env.shr, Env.get, PV.exp, PV.ids, PV.ids.idsL]; done) | simp [Env.shr, Env.get, PV.exp, PV.ids, PV.ids.idsL, *])
      · rw [List.take_add_one, List.mem_append] at hc'
        rcases hc' with hc' | hc'
        · exact h2 c hc'
        · rw [hx] at hc'; simp at hc'; subst hc'; exact hp
end Go.Plane
end
