/- A part of the proof: the calculus over pure values, contracts of functions, and plain lemmas. -/
import Derived.Test.YtccejlonkoafgaaDoorW2
import Derived.Shelf.Strings.Builder1
import Derived.Shelf.Strings.Builder2
import Derived.Shelf.Strings.OnBuilder
import Derived.Shelf.Strings.Trim
import Derived.Shelf.Small.Utf8
import Derived.Shelf.Small.Strs
import Derived.Shelf.Small.Wraps
import Derived.Shelf.Strings.BuilderF
import Derived.Shelf.Strings.BuilderK
import Derived.Shelf.Utf8.RuneCount
import Derived.Shelf.Strings.Builder2Cap
import Derived.Shelf.Strings.Search1
import Derived.Shelf.Strings.Search2
import Derived.Shelf.Strings.Search3
import Derived.Shelf.Strings.Count
import Derived.Shelf.LaysM
import Derived.Shelf.Strings.Shaped
import Derived.Shelf.Strings.LastIndex
import Derived.Shelf.GgClosure.StringsIndexFunc
import Derived.Ground.GgwProg
import Derived.Shelf.GgClosure.StringsIndexFuncTop
import Derived.Shelf.GgClosure.StringsRunes
import Derived.Shelf.Strings.Prefix
import Derived.Shelf.Strings.Split
import Derived.Shelf.Strings.Fields
import Derived.Shelf.Strings.SplitShaped
import Derived.Shelf.Unicode.Latin
import Derived.Shelf.Unicode.Decode
import Derived.Shelf.Strings.Runes
import Derived.Shelf.Strings.RuneCount
import Derived.Shelf.Strings.AsciiSet
import Derived.Shelf.Strings.Explode
import Derived.Shelf.Unicode.DecodeSlow
import Derived.Shelf.Unicode.DecodeAny
import Derived.Shelf.Unicode.Is16White
import Derived.Shelf.Unicode.IsSpaceAny
import Derived.Shelf.Unicode.DecodeLast
import Derived.Shelf.Unicode.Is16WhiteD
import Derived.Shelf.Unicode.IsSpaceAnyD
import Derived.Shelf.Strings.FieldsAny
import Derived.Shelf.Strings.FieldsFuncAny
import Derived.Shelf.Unicode.Is16Any
import Derived.Shelf.Unicode.Is32Any
import Derived.Shelf.Unicode.ExclAny
import Derived.Shelf.Strings.FuncGrows
import Derived.Shelf.Strings.FieldsFuncGrows
import Derived.Shelf.Strings.BuilderCap
import Derived.Shelf.Slices.Turned
import Derived.Ground.Names2Prog
import Derived.Shelf.Slices.SearchI
import Derived.Ground.PaProg
import Derived.Shelf.Path.Small
import Derived.Test.YtccejlonkoafgaaDoorProg
import Derived.Calls
section
set_option linter.unusedVariables false
set_option maxRecDepth 100000
namespace Go.Plane
open Go Go.Proofs
noncomputable def i3 : FI := -- cosigner/cosignerlaw01.LexPlaces
 ⟨160, [.t 10],
 (.seq (.ops [.e none (some 6) (.box 23 (.t 1)),
  .e none (some 8) (.box 25 (.t 3)),
  .q none (some 10) (.mv (.k (.d (.bool false))))])
 (.kp [0, 2, 4, 6, 8] (.seq (.seq (.ops [.q none (some 26) (.mv (.t 0)),
  .call none (some 27) 12 [(.t 26)],
  .q none (some 28) (.not (.t 27)),
  .q none (some 29) (.mv (.t 28)),
  .q (some (29, false)) (some 30) (.faddr 2 (.t 8)),
  .q (some (29, false)) (some 31) (.load 1 false (.t 30)),
  .q (some (29, false)) (some 32) (.slen (.t 31)),
  .q (some (29, false)) (some 33) (.bin .gtr (.t 32) (.k (.d (.int .i64 21000)))),
  .q none (some 34) (.pick (.t 29) (.k (.d (.bool true))) (.t 33)),
  .q none (some 35) (.mv (.t 34)),
  .q (some (35, false)) (some 36) (.mv (.t 4)),
  .q (some (35, false)) (some 37) (.len (.t 36)),
  .q (some (35, false)) (some 38) (.bin .gtr (.t 37) (.k (.d (.int .i64 30)))),
  .q none (some 39) (.pick (.t 35) (.k (.d (.bool true))) (.t 38))])
 (.kp [0, 2, 4, 6, 8, 39] (.cond (.t 39) (.seq (.ops [.call none (some 40) 13 [],
  .q none (some 10) (.mv (.t 40))])
 .ret) .skip)))
 (.kp [0, 2, 4, 6, 8] (.seq (.seq (.ops [.q none (some 11) (.mv (.k (.d (.int .i64 0))))])
 (.kp [0, 2, 4, 6, 8, 11] (.block 0 (.loop [0, 2, 4, 6, 8, 11] (.seq (.seq (.ops [.q none (some 41) (.mv (.t 11)),
  .q none (some 42) (.mv (.t 4)),
  .q none (some 43) (.len (.t 42)),
  .q none (some 44) (.bin .lss (.t 41) (.t 43))])
 (.kp [0, 2, 4, 6, 8, 11, 44] (.cond (.t 44) .skip (.exit 0))))
 (.kp [0, 2, 4, 6, 8, 11] (.seq (.block 1 (.seq (.ops [.q none (some 47) (.mv (.t 4)),
  .q none (some 48) (.mv (.t 11)),
  .q none (some 49) (.iaddr 1 (.t 47) (.t 48)),
  .q none (some 50) (.load 1 false (.t 49)),
  .q none (some 51) (.slen (.t 50)),
  .q none (some 52) (.bin .gtr (.t 51) (.k (.d (.int .i64 900))))])
 (.kp [0, 2, 4, 6, 8, 11, 52] (.cond (.t 52) (.seq (.ops [.call none (some 53) 13 [],
  .q none (some 10) (.mv (.t 53))])
 .ret) .skip))))
 (.kp [0, 2, 4, 6, 8, 11] (.ops [.q none (some 45) (.mv (.t 11)),
  .q none (some 46) (.bin .add (.t 45) (.k (.d (.int .i64 1)))),
  .q none (some 11) (.mv (.t 46))])))))))))
 (.kp [0, 2, 4, 6, 8] (.seq (.ops [.q none (some 55) (.mv (.t 0)),
  .q none (some 56) (.load 2 true (.t 6)),
  .call none (some 57) 14 [(.t 55), (.t 56)],
  .q none (some 54) (.mv (.t 57)),
  .q none (some 58) (.extract (.t 54) 0),
  .q none (some 59) (.extract (.t 54) 1),
  .q none (some 12) (.mv (.t 58)),
  .q none (some 13) (.mv (.t 59))])
 (.kp [0, 2, 4, 6, 8, 12, 13] (.seq (.ops [.q none (some 60) (.mv (.t 0)),
  .q none (some 61) (.load 2 true (.t 6)),
  .call none (some 62) 15 [(.t 60), (.t 61)],
  .e none (some 14) (.alloc 33 [(.d (.int .i64 0)), (.d (.int .i64 0))]),
  .e none none (.store 2 (.t 14) (.t 62))])
 (.kp [0, 2, 4, 8, 12, 13, 14] (.seq (.ops [.q none (some 64) (.mv (.t 0)),
  .q none (some 65) (.mv (.t 2)),
  .call none (some 66) 16 [(.t 64), (.t 65)],
  .q none (some 63) (.mv (.t 66)),
  .q none (some 67) (.extract (.t 63) 0),
  .q none (some 68) (.extract (.t 63) 1),
  .e none (some 15) (.alloc 23 [(.d (.int .i64 0)), (.d (.int .i64 0))]),
  .e none none (.store 2 (.t 15) (.t 67)),
  .q none (some 16) (.mv (.t 68))])
 (.kp [0, 2, 4, 8, 12, 13, 14, 15, 16] (.seq (.ops [.q none (some 69) (.mv (.t 0)),
  .q none (some 70) (.mv (.t 2)),
  .call none (some 71) 17 [(.t 69), (.t 70)],
  .e none (some 17) (.alloc 38 [(.d (.int .i64 0)), (.d (.int .i64 0)), (.d (.int .i64 0))]),
  .e none none (.store 3 (.t 17) (.t 71))])
 (.kp [0, 4, 8, 12, 13, 14, 15, 16, 17] (.seq (.ops [.q none (some 73) (.mv (.t 0)),
  .q none (some 74) (.load 3 true (.t 8)),
  .call none (some 75) 18 [(.t 73), (.t 74)],
  .q none (some 72) (.mv (.t 75)),
  .q none (some 76) (.extract (.t 72) 0),
  .q none (some 77) (.extract (.t 72) 1),
  .q none (some 18) (.mv (.t 76)),
  .q none (some 19) (.mv (.t 77))])
 (.kp [0, 4, 8, 12, 13, 14, 15, 16, 17, 18, 19] (.seq (.ops [.q none (some 78) (.mv (.t 0)),
  .q none (some 79) (.load 3 true (.t 8)),
  .call none (some 80) 19 [(.t 78), (.t 79)],
  .e none (some 20) (.alloc 43 [(.d (.str [])), (.d (.int .i64 0))]),
  .e none none (.store 2 (.t 20) (.t 80))])
 (.kp [4, 12, 13, 14, 15, 16, 17, 18, 19, 20] (.seq (.ops [.q none (some 82) (.mv (.t 4)),
  .call none (some 83) 20 [(.t 82)],
  .q none (some 81) (.mv (.t 83)),
  .q none (some 84) (.extract (.t 81) 0),
  .q none (some 85) (.extract (.t 81) 1),
  .q none (some 86) (.extract (.t 81) 2),
  .q none (some 21) (.mv (.t 84)),
  .q none (some 22) (.mv (.t 85)),
  .q none (some 23) (.mv (.t 86))])
 (.kp [4, 12, 13, 14, 15, 16, 17, 18, 19, 20, 21, 22, 23] (.seq (.ops [.q none (some 87) (.mv (.t 4)),
  .call none (some 88) 21 [(.t 87)],
  .e none (some 24) (.alloc 49 [(.d (.str [])), .snil, (.d (.int .i64 0))]),
  .e none none (.store 3 (.t 24) (.t 88))])
 (.kp [12, 13, 14, 15, 16, 17, 18, 19, 20, 21, 22, 23, 24] (.seq (.seq (.ops [.q none (some 89) (.mv (.t 21)),
  .q none (some 90) (.faddr 0 (.t 24)),
  .q none (some 91) (.load 1 false (.t 90)),
  .q none (some 92) (.bin .neq (.t 89) (.t 91)),
  .q none (some 93) (.mv (.t 92)),
  .q (some (93, false)) (some 94) (.mv (.t 23)),
  .q (some (93, false)) (some 95) (.faddr 2 (.t 24)),
  .q (some (93, false)) (some 96) (.load 1 false (.t 95)),
  .q (some (93, false)) (some 97) (.bin .neq (.t 94) (.t 96)),
  .q none (some 98) (.pick (.t 93) (.k (.d (.bool true))) (.t 97)),
  .q none (some 99) (.mv (.t 98)),
  .q (some (99, false)) (some 100) (.mv (.t 22)),
  .q (some (99, false)) (some 101) (.len (.t 100)),
  .q (some (99, false)) (some 102) (.faddr 1 (.t 24)),
  .q (some (99, false)) (some 103) (.load 1 false (.t 102)),
  .q (some (99, false)) (some 104) (.len (.t 103)),
  .q (some (99, false)) (some 105) (.bin .neq (.t 101) (.t 104)),
  .q none (some 106) (.pick (.t 99) (.k (.d (.bool true))) (.t 105))])
 (.kp [12, 13, 14, 15, 16, 17, 18, 19, 20, 22, 24, 106] (.cond (.t 106) (.seq (.ops [.q none (some 10) (.mv (.k (.d (.bool false))))])
 .ret) .skip)))
 (.kp [12, 13, 14, 15, 16, 17, 18, 19, 20, 22, 24] (.seq (.seq (.ops [.q none (some 25) (.mv (.k (.d (.int .i64 0))))])
 (.kp [12, 13, 14, 15, 16, 17, 18, 19, 20, 22, 24, 25] (.block 2 (.loop [12, 13, 14, 15, 16, 17, 18, 19, 20, 22, 24, 25] (.seq (.seq (.ops [.q none (some 107) (.mv (.t 25)),
  .q none (some 108) (.mv (.t 22)),
  .q none (some 109) (.len (.t 108)),
  .q none (some 110) (.bin .lss (.t 107) (.t 109))])
 (.kp [12, 13, 14, 15, 16, 17, 18, 19, 20, 22, 24, 25, 110] (.cond (.t 110) .skip (.exit 2))))
 (.kp [12, 13, 14, 15, 16, 17, 18, 19, 20, 22, 24, 25] (.seq (.block 3 (.seq (.draw (.q 0 (.q none (some 113) (.mv (.t 22))) (.q 1 (.q none (some 114) (.mv (.t 25))) (.q 2 (.q none (some 115) (.iaddr 1 (.t 113) (.t 114))) (.q 3 (.q none (some 116) (.load 1 false (.t 115))) (.q 4 (.q none (some 117) (.faddr 1 (.t 24))) (.q 5 (.q none (some 118) (.load 1 false (.t 117))) (.q 6 (.q none (some 119) (.mv (.t 25))) (.q 7 (.q none (some 120) (.iaddr 1 (.t 118) (.t 119))) (.q 8 (.q none (some 121) (.load 1 false (.t 120))) (.q 9 (.q none (some 122) (.bin .neq (.t 116) (.t 121))) .done)))))))))))
 (.kp [12, 13, 14, 15, 16, 17, 18, 19, 20, 22, 24, 25, 122] (.cond (.t 122) (.seq (.ops [.q none (some 10) (.mv (.k (.d (.bool false))))])
 .ret) .skip))))
 (.kp [12, 13, 14, 15, 16, 17, 18, 19, 20, 22, 24, 25] (.ops [.q none (some 111) (.mv (.t 25)),
  .q none (some 112) (.bin .add (.t 111) (.k (.d (.int .i64 1)))),
  .q none (some 25) (.mv (.t 112))])))))))))
 (.kp [12, 13, 14, 15, 16, 17, 18, 19, 20] (.seq (.ops [.call none (some 123) 13 [],
  .q none (some 124) (.mv (.t 123)),
  .q (some (124, true)) (some 125) (.mv (.t 12)),
  .q (some (124, true)) (some 126) (.faddr 0 (.t 14)),
  .q (some (124, true)) (some 127) (.load 1 false (.t 126)),
  .q (some (124, true)) (some 128) (.bin .eql (.t 125) (.t 127)),
  .q none (some 129) (.pick (.t 124) (.t 128) (.k (.d (.bool false)))),
  .q none (some 130) (.mv (.t 129)),
  .q (some (130, true)) (some 131) (.mv (.t 13)),
  .q (some (130, true)) (some 132) (.faddr 1 (.t 14)),
  .q (some (130, true)) (some 133) (.load 1 false (.t 132)),
  .q (some (130, true)) (some 134) (.bin .eql (.t 131) (.t 133)),
  .q none (some 135) (.pick (.t 130) (.t 134) (.k (.d (.bool false)))),
  .q none (some 136) (.mv (.t 135)),
  .q (some (136, true)) (some 137) (.load 2 true (.t 15)),
  .q (some (136, true)) (some 138) (.faddr 0 (.t 17)),
  .q (some (136, true)) (some 139) (.load 2 true (.t 138)),
  .q (some (136, true)) (some 140) (.eqs false [.int .i64, .int .i64] (.t 137) (.t 139)),
  .q none (some 141) (.pick (.t 136) (.t 140) (.k (.d (.bool false)))),
  .q none (some 142) (.mv (.t 141)),
  .q (some (142, true)) (some 143) (.mv (.t 16)),
  .q (some (142, true)) (some 144) (.faddr 2 (.t 17)),
  .q (some (142, true)) (some 145) (.load 1 false (.t 144)),
  .q (some (142, true)) (some 146) (.bin .eql (.t 143) (.t 145)),
  .q none (some 147) (.pick (.t 142) (.t 146) (.k (.d (.bool false)))),
  .q none (some 148) (.mv (.t 147)),
  .q (some (148, true)) (some 149) (.mv (.t 18)),
  .q (some (148, true)) (some 150) (.faddr 0 (.t 20)),
  .q (some (148, true)) (some 151) (.load 1 false (.t 150)),
  .q (some (148, true)) (some 152) (.bin .eql (.t 149) (.t 151)),
  .q none (some 153) (.pick (.t 148) (.t 152) (.k (.d (.bool false)))),
  .q none (some 154) (.mv (.t 153)),
  .q (some (154, true)) (some 155) (.mv (.t 19)),
  .q (some (154, true)) (some 156) (.faddr 1 (.t 20)),
  .q (some (154, true)) (some 157) (.load 1 false (.t 156)),
  .q (some (154, true)) (some 158) (.bin .eql (.t 155) (.t 157)),
  .q none (some 159) (.pick (.t 154) (.t 158) (.k (.d (.bool false)))),
  .q none (some 10) (.mv (.t 159))])
 .ret)))))))))))))))))))))))))))⟩
theorem c3 : chkF Γd.P Γd.E 3 5 i3 = true := by kernel_rfl
noncomputable def i4 : FI := -- cosigner/cosignerlaw01.LexLines
 ⟨142, [.t 4],
 (.seq (.ops [.e none (some 3) (.box 25 (.t 1)),
  .q none (some 4) (.mv (.k (.d (.bool false))))])
 (.kp [0, 3] (.seq (.seq (.ops [.q none (some 25) (.mv (.t 0)),
  .q none (some 26) (.slen (.t 25)),
  .q none (some 27) (.bin .gtr (.t 26) (.k (.d (.int .i64 400)))),
  .q none (some 28) (.mv (.t 27)),
  .q (some (28, false)) (some 29) (.faddr 2 (.t 3)),
  .q (some (28, false)) (some 30) (.load 1 false (.t 29)),
  .q (some (28, false)) (some 31) (.slen (.t 30)),
  .q (some (28, false)) (some 32) (.bin .gtr (.t 31) (.k (.d (.int .i64 100)))),
  .q none (some 33) (.pick (.t 28) (.k (.d (.bool true))) (.t 32))])
 (.kp [0, 3, 33] (.cond (.t 33) (.seq (.ops [.call none (some 34) 13 [],
  .q none (some 4) (.mv (.t 34))])
 .ret) .skip)))
 (.kp [0, 3] (.seq (.ops [.q none (some 36) (.mv (.t 0)),
  .call none (some 37) 22 [(.t 36)],
  .q none (some 35) (.mv (.t 37)),
  .q none (some 38) (.extract (.t 35) 0),
  .q none (some 39) (.extract (.t 35) 1),
  .q none (some 40) (.extract (.t 35) 2),
  .e none (some 6) (.alloc 23 [(.d (.int .i64 0)), (.d (.int .i64 0))]),
  .q none (some 5) (.mv (.t 38)),
  .e none none (.store 2 (.t 6) (.t 39)),
  .q none (some 7) (.mv (.t 40))])
 (.kp [0, 3, 5, 6, 7] (.seq (.ops [.q none (some 8) (.mv (.k .snil)),
  .own 8 (57, 4)])
 (.kp [0, 3, 5, 6, 7, 8] (.seq (.seq (.ops [.q none (some 41) (.mv (.t 0)),
  .call none (some 42) 23 [(.t 41), (.k (.d (.str [10])))],
  .q none (some 43) (.len (.t 42)),
  .q none (some 44) (.mv (.k (.d (.int .i64 0))))])
 (.kp [0, 3, 5, 6, 7, 8, 42, 43, 44] (.block 0 (.loop [0, 3, 5, 6, 7, 8, 42, 43, 44] (.seq (.ops [.q none (some 45) (.bin .lss (.t 44) (.t 43))])
 (.kp [0, 3, 5, 6, 7, 8, 42, 43, 44, 45] (.seq (.cond (.t 45) .skip (.exit 0))
 (.kp [0, 3, 5, 6, 7, 8, 42, 43, 44] (.seq (.block 1 (.seq (.ops [.q none (some 46) (.mv (.t 44)),
  .q none (some 47) (.iaddr 1 (.t 42) (.t 44)),
  .q none (some 48) (.load 1 false (.t 47)),
  .q none (some 9) (.mv (.t 46)),
  .q none (some 10) (.mv (.t 48))])
 (.kp [0, 3, 5, 6, 7, 8, 9, 10, 42, 43, 44] (.seq (.ops [.q none (some 50) (.mv (.t 10)),
  .call none (some 51) 22 [(.t 50)],
  .q none (some 49) (.mv (.t 51)),
  .q none (some 52) (.extract (.t 49) 0),
  .q none (some 53) (.extract (.t 49) 1),
  .q none (some 54) (.extract (.t 49) 2),
  .e none (some 12) (.alloc 23 [(.d (.int .i64 0)), (.d (.int .i64 0))]),
  .q none (some 11) (.mv (.t 52)),
  .e none none (.store 2 (.t 12) (.t 53)),
  .q none (some 13) (.mv (.t 54))])
 (.kp [0, 3, 5, 6, 7, 8, 9, 11, 12, 13, 42, 43, 44] (.seq (.seq (.ops [.q none (some 55) (.mv (.t 13)),
  .q none (some 56) (.bin .neq (.t 55) (.k (.d (.int .i64 0))))])
 (.kp [0, 3, 5, 6, 7, 8, 9, 11, 12, 13, 42, 43, 44, 56] (.cond (.t 56) (.seq (.ops [.call none (some 57) 13 [],
  .q none (some 58) (.mv (.t 57)),
  .q (some (58, true)) (some 59) (.mv (.t 7)),
  .q (some (58, true)) (some 60) (.mv (.t 13)),
  .q (some (58, true)) (some 61) (.bin .eql (.t 59) (.t 60)),
  .q none (some 62) (.pick (.t 58) (.t 61) (.k (.d (.bool false)))),
  .q none (some 63) (.mv (.t 62)),
  .q (some (63, true)) (some 64) (.load 2 true (.t 6)),
  .q (some (63, true)) (some 65) (.mv (.t 9)),
  .q (some (63, true)) (some 66) (.bin .add (.t 65) (.k (.d (.int .i64 1)))),
  .q (some (63, true)) (some 67) (.faddr 1 (.t 12)),
  .q (some (63, true)) (some 68) (.load 1 false (.t 67)),
  .q (some (63, true)) (some 69) (.build [(.int .i64 0), (.int .i64 0)] [(0, 1, (.t 66)), (1, 1, (.t 68))]),
  .q (some (63, true)) (some 70) (.eqs false [.int .i64, .int .i64] (.t 64) (.t 69)),
  .q none (some 71) (.pick (.t 63) (.t 70) (.k (.d (.bool false)))),
  .q none (some 4) (.mv (.t 71))])
 .ret) .skip)))
 (.kp [0, 3, 5, 6, 7, 8, 9, 11, 42, 43, 44] (.seq (.ops [.q none (some 72) (.mv (.t 11)),
  .q none (some 73) (.len (.t 72)),
  .q none (some 74) (.mv (.k (.d (.int .i64 0))))])
 (.kp [0, 3, 5, 6, 7, 8, 9, 42, 43, 44, 72, 73, 74] (.block 2 (.loop [0, 3, 5, 6, 7, 8, 9, 42, 43, 44, 72, 73, 74] (.seq (.ops [.q none (some 75) (.bin .lss (.t 74) (.t 73))])
 (.kp [0, 3, 5, 6, 7, 8, 9, 42, 43, 44, 72, 73, 74, 75] (.seq (.cond (.t 75) .skip (.exit 2))
 (.kp [0, 3, 5, 6, 7, 8, 9, 42, 43, 44, 72, 73, 74] (.seq (.block 3 (.seq (.ops [.q none (some 76) (.iaddr 4 (.t 72) (.t 74)),
  .q none (some 77) (.load 4 true (.t 76)),
  .e none (some 15) (.alloc 57 [(.d (.int .i64 0)), (.d (.str [])), (.d (.int .i64 0)), (.d (.int .i64 0))]),
  .e none none (.store 4 (.t 15) (.t 77))])
 (.kp [0, 3, 5, 6, 7, 8, 9, 15, 42, 43, 44, 72, 73, 74] (.seq (.ops [.q none (some 78) (.mv (.t 9)),
  .q none (some 79) (.bin .add (.t 78) (.k (.d (.int .i64 1)))),
  .q none (some 80) (.faddr 2 (.t 15)),
  .q none (some 81) (.faddr 0 (.t 80)),
  .e none none (.store 1 (.t 81) (.t 79))])
 (.kp [0, 3, 5, 6, 7, 8, 9, 15, 42, 43, 44, 72, 73, 74] (.ops [.q none (some 82) (.mv (.t 8)),
  .q none (some 83) (.load 4 true (.t 15)),
  .e none (some 84) (.bslice 4 [(.t 83)]),
  .e none (some 85) (.append 57 4 false (.t 82) (.t 84)),
  .q none (some 8) (.mv (.t 85))]))))))
 (.kp [0, 3, 5, 6, 7, 8, 9, 42, 43, 44, 72, 73, 74] (.ops [.q none (some 86) (.bin .add (.t 74) (.k (.d (.int .i64 1)))),
  .q none (some 74) (.mv (.t 86))]))))))))))))))))))
 (.kp [0, 3, 5, 6, 7, 8, 42, 43, 44] (.ops [.q none (some 87) (.bin .add (.t 44) (.k (.d (.int .i64 1)))),
  .q none (some 44) (.mv (.t 87))])))))))))))
 (.kp [0, 3, 5, 7, 8] (.seq (.seq (.ops [.q none (some 88) (.mv (.t 7)),
  .q none (some 89) (.bin .neq (.t 88) (.k (.d (.int .i64 0)))),
  .q none (some 90) (.mv (.t 89)),
  .q (some (90, false)) (some 91) (.mv (.t 8)),
  .q (some (90, false)) (some 92) (.mv (.t 5)),
  .call (some (90, false)) (some 93) 24 [(.t 91), (.t 92)],
  .q (some (90, false)) (some 94) (.not (.t 93)),
  .q none (some 95) (.pick (.t 90) (.k (.d (.bool true))) (.t 94))])
 (.kp [0, 3, 5, 95] (.cond (.t 95) (.seq (.ops [.q none (some 4) (.mv (.k (.d (.bool false))))])
 .ret) .skip)))
 (.kp [0, 3, 5] (.seq (.ops [.q none (some 97) (.mv (.t 0)),
  .q none (some 98) (.load 3 true (.t 3)),
  .call none (some 99) 18 [(.t 97), (.t 98)],
  .q none (some 96) (.mv (.t 99)),
  .q none (some 100) (.extract (.t 96) 0),
  .q none (some 101) (.extract (.t 96) 1),
  .q none (some 16) (.mv (.t 100)),
  .q none (some 17) (.mv (.t 101))])
 (.kp [0, 3, 5, 16, 17] (.seq (.seq (.ops [.q none (some 102) (.mv (.t 17)),
  .q none (some 103) (.bin .neq (.t 102) (.k (.d (.int .i64 0))))])
 (.kp [0, 3, 5, 16, 103] (.cond (.t 103) (.seq (.ops [.call none (some 104) 13 [],
  .q none (some 4) (.mv (.t 104))])
 .ret) .skip)))
 (.kp [0, 3, 5, 16] (.seq (.ops [.q none (some 106) (.mv (.t 16)),
  .call none (some 107) 22 [(.t 106)],
  .q none (some 105) (.mv (.t 107)),
  .q none (some 108) (.extract (.t 105) 0),
  .q none (some 109) (.extract (.t 105) 1),
  .q none (some 110) (.extract (.t 105) 2),
  .e none (some 19) (.alloc 23 [(.d (.int .i64 0)), (.d (.int .i64 0))]),
  .q none (some 18) (.mv (.t 108)),
  .e none none (.store 2 (.t 19) (.t 109)),
  .q none (some 20) (.mv (.t 110))])
 (.kp [0, 3, 5, 18, 19, 20] (.seq (.ops [.q none (some 112) (.mv (.t 5)),
  .q none (some 113) (.mv (.t 0)),
  .q none (some 114) (.load 3 true (.t 3)),
  .call none (some 115) 25 [(.t 112), (.t 113), (.t 114)],
  .q none (some 111) (.mv (.t 115)),
  .q none (some 116) (.extract (.t 111) 0),
  .q none (some 117) (.extract (.t 111) 1),
  .q none (some 118) (.extract (.t 111) 2),
  .q none (some 119) (.extract (.t 111) 3),
  .e none (some 23) (.alloc 23 [(.d (.int .i64 0)), (.d (.int .i64 0))]),
  .q none (some 21) (.mv (.t 116)),
  .q none (some 22) (.mv (.t 117)),
  .e none none (.store 2 (.t 23) (.t 118)),
  .q none (some 24) (.mv (.t 119))])
 (.kp [18, 19, 20, 21, 22, 23, 24] (.seq (.ops [.call none (some 120) 13 [],
  .q none (some 121) (.mv (.t 120)),
  .q (some (121, true)) (some 122) (.mv (.t 20)),
  .q (some (121, true)) (some 123) (.mv (.t 24)),
  .q (some (121, true)) (some 124) (.bin .eql (.t 122) (.t 123)),
  .q none (some 125) (.pick (.t 121) (.t 124) (.k (.d (.bool false)))),
  .q none (some 126) (.mv (.t 125)),
  .q (some (126, true)) (some 127) (.load 2 true (.t 19)),
  .q (some (126, true)) (some 128) (.load 2 true (.t 23)),
  .q (some (126, true)) (some 129) (.eqs false [.int .i64, .int .i64] (.t 127) (.t 128)),
  .q none (some 130) (.pick (.t 126) (.t 129) (.k (.d (.bool false)))),
  .q none (some 131) (.mv (.t 130)),
  .q (some (131, true)) (some 132) (.mv (.t 18)),
  .q (some (131, true)) (some 133) (.mv (.t 21)),
  .call (some (131, true)) (some 134) 24 [(.t 132), (.t 133)],
  .q none (some 135) (.pick (.t 131) (.t 134) (.k (.d (.bool false)))),
  .q none (some 136) (.mv (.t 135)),
  .q (some (136, true)) (some 137) (.mv (.t 22)),
  .q (some (136, true)) (some 138) (.mv (.t 21)),
  .q (some (136, true)) (some 139) (.len (.t 138)),
  .q (some (136, true)) (some 140) (.bin .leq (.t 137) (.t 139)),
  .q none (some 141) (.pick (.t 136) (.t 140) (.k (.d (.bool false)))),
  .q none (some 4) (.mv (.t 141))])
 .ret)))))))))))))))))))))⟩
theorem c4 : chkF Γd.P Γd.E 4 2 i4 = true := by kernel_rfl
noncomputable def i5 : FI := -- cosigner/cosignerlaw01.LexStands
 ⟨103, [.t 2],
 (.seq (.ops [.q none (some 2) (.mv (.k (.d (.bool false))))])
 (.kp [0] (.seq (.seq (.ops [.q none (some 16) (.mv (.t 0)),
  .q none (some 17) (.slen (.t 16)),
  .q none (some 18) (.bin .gtr (.t 17) (.k (.d (.int .i64 400))))])
 (.kp [0, 18] (.cond (.t 18) (.seq (.ops [.call none (some 19) 13 [],
  .q none (some 2) (.mv (.t 19))])
 .ret) .skip)))
 (.kp [0] (.seq (.seq (.ops [.q none (some 3) (.mv (.k (.d (.int .i64 0))))])
 (.kp [0, 3] (.block 0 (.loop [0, 3] (.seq (.seq (.ops [.q none (some 20) (.mv (.t 3)),
  .q none (some 21) (.mv (.t 0)),
  .q none (some 22) (.slen (.t 21)),
  .q none (some 23) (.bin .leq (.t 20) (.t 22))])
 (.kp [0, 3, 23] (.cond (.t 23) .skip (.exit 0))))
 (.kp [0, 3] (.seq (.block 1 (.seq (.ops [.q none (some 27) (.mv (.t 0)),
  .q none (some 28) (.mv (.t 3)),
  .call none (some 29) 16 [(.t 27), (.t 28)],
  .q none (some 26) (.mv (.t 29)),
  .q none (some 30) (.extract (.t 26) 0),
  .q none (some 31) (.extract (.t 26) 1),
  .e none (some 4) (.alloc 23 [(.d (.int .i64 0)), (.d (.int .i64 0))]),
  .e none none (.store 2 (.t 4) (.t 30)),
  .q none (some 5) (.mv (.t 31))])
 (.kp [0, 3, 4, 5] (.seq (.ops [.q none (some 33) (.mv (.t 0)),
  .q none (some 34) (.load 2 true (.t 4)),
  .call none (some 35) 14 [(.t 33), (.t 34)],
  .q none (some 32) (.mv (.t 35)),
  .q none (some 36) (.extract (.t 32) 0),
  .q none (some 37) (.extract (.t 32) 1),
  .q none (some 6) (.mv (.t 36)),
  .q none (some 7) (.mv (.t 37))])
 (.kp [0, 3, 5, 6, 7] (.seq (.ops [.q none (some 38) (.mv (.t 5)),
  .q none (some 39) (.bin .neq (.t 38) (.k (.d (.int .i64 0)))),
  .q none (some 40) (.mv (.t 39)),
  .q (some (40, false)) (some 41) (.mv (.t 7)),
  .q (some (40, false)) (some 42) (.bin .neq (.t 41) (.k (.d (.int .i64 0)))),
  .q none (some 43) (.pick (.t 40) (.k (.d (.bool true))) (.t 42)),
  .q none (some 44) (.mv (.t 43)),
  .q (some (44, false)) (some 45) (.mv (.t 6)),
  .q (some (44, false)) (some 46) (.mv (.t 3)),
  .q (some (44, false)) (some 47) (.bin .neq (.t 45) (.t 46)),
  .q none (some 48) (.pick (.t 44) (.k (.d (.bool true))) (.t 47))])
 (.kp [0, 3, 48] (.cond (.t 48) (.seq (.ops [.q none (some 2) (.mv (.k (.d (.bool false))))])
 .ret) .skip))))))))
 (.kp [0, 3] (.ops [.q none (some 24) (.mv (.t 3)),
  .q none (some 25) (.bin .add (.t 24) (.k (.d (.int .i64 1)))),
  .q none (some 3) (.mv (.t 25))])))))))))
 (.kp [0] (.seq (.ops [.q none (some 50) (.mv (.t 0)),
  .call none (some 51) 22 [(.t 50)],
  .q none (some 49) (.mv (.t 51)),
  .q none (some 52) (.extract (.t 49) 0),
  .q none (some 53) (.extract (.t 49) 1),
  .q none (some 54) (.extract (.t 49) 2),
  .e none (some 9) (.alloc 23 [(.d (.int .i64 0)), (.d (.int .i64 0))]),
  .q none (some 8) (.mv (.t 52)),
  .e none none (.store 2 (.t 9) (.t 53)),
  .q none (some 10) (.mv (.t 54))])
 (.kp [0, 8, 10] (.seq (.seq (.ops [.q none (some 55) (.mv (.t 10)),
  .q none (some 56) (.bin .neq (.t 55) (.k (.d (.int .i64 0))))])
 (.kp [0, 8, 56] (.cond (.t 56) (.seq (.ops [.call none (some 57) 13 [],
  .q none (some 2) (.mv (.t 57))])
 .ret) .skip)))
 (.kp [0, 8] (.seq (.ops [.q none (some 11) (.mv (.k (.d (.int .i64 0))))])
 (.kp [0, 8, 11] (.seq (.seq (.ops [.q none (some 58) (.mv (.t 8)),
  .q none (some 59) (.len (.t 58)),
  .q none (some 60) (.mv (.k (.d (.int .i64 0))))])
 (.kp [0, 11, 58, 59, 60] (.block 2 (.loop [0, 11, 58, 59, 60] (.seq (.ops [.q none (some 61) (.bin .lss (.t 60) (.t 59))])
 (.kp [0, 11, 58, 59, 60, 61] (.seq (.cond (.t 61) .skip (.exit 2))
 (.kp [0, 11, 58, 59, 60] (.seq (.block 3 (.seq (.ops [.q none (some 62) (.iaddr 4 (.t 58) (.t 60)),
  .q none (some 63) (.load 4 true (.t 62)),
  .e none (some 13) (.alloc 57 [(.d (.int .i64 0)), (.d (.str [])), (.d (.int .i64 0)), (.d (.int .i64 0))]),
  .e none none (.store 4 (.t 13) (.t 63))])
 (.kp [0, 11, 13, 58, 59, 60] (.seq (.ops [.q none (some 65) (.mv (.t 0)),
  .q none (some 66) (.faddr 2 (.t 13)),
  .q none (some 67) (.load 2 true (.t 66)),
  .call none (some 68) 14 [(.t 65), (.t 67)],
  .q none (some 64) (.mv (.t 68)),
  .q none (some 69) (.extract (.t 64) 0),
  .q none (some 70) (.extract (.t 64) 1),
  .q none (some 14) (.mv (.t 69)),
  .q none (some 15) (.mv (.t 70))])
 (.kp [0, 11, 13, 14, 15, 58, 59, 60] (.seq (.seq (.draw (.q 0 (.q none (some 71) (.mv (.t 15))) (.q 1 (.q none (some 72) (.bin .neq (.t 71) (.k (.d (.int .i64 0))))) (.q 2 (.q none (some 73) (.mv (.t 72))) (.q 3 (.q (some (73, false)) (some 74) (.mv (.t 14))) (.q 4 (.q (some (73, false)) (some 75) (.mv (.t 11))) (.q 5 (.q (some (73, false)) (some 76) (.bin .lss (.t 74) (.t 75))) (.q 6 (.q none (some 77) (.pick (.t 73) (.k (.d (.bool true))) (.t 76))) (.q 7 (.q none (some 78) (.mv (.t 77))) (.q 8 (.q (some (78, false)) (some 79) (.mv (.t 0))) (.q 9 (.q (some (78, false)) (some 80) (.mv (.t 14))) (.q 10 (.q (some (78, false)) (some 81) (.mv (.t 0))) (.q 11 (.q (some (78, false)) (some 82) (.slen (.t 81))) (.q 12 (.q (some (78, false)) (some 83) (.mn (.t 80) [(.t 82)])) (.q 13 (.q (some (78, false)) (some 84) (.sslice (.t 79) (some (.t 83)) none)) (.q 14 (.q (some (78, false)) (some 85) (.faddr 1 (.t 13))) (.q 15 (.q (some (78, false)) (some 86) (.load 1 false (.t 85))) (.br (.cons 16 [7, 13, 15] (.call (some (78, false)) (some 87) 26 [(.t 84), (.t 86)]) (.q 17 (.q (some (78, false)) (some 88) (.not (.t 87))) (.q 18 (.q none (some 89) (.pick (.t 78) (.k (.d (.bool true))) (.t 88))) (.q 19 (.q none (some 90) (.mv (.t 89))) (.q 20 (.q (some (90, false)) (some 91) (.faddr 1 (.t 13))) (.q 21 (.q (some (90, false)) (some 92) (.load 1 false (.t 91))) (.q 22 (.q (some (90, false)) (some 93) (.slen (.t 92))) (.q 23 (.q (some (90, false)) (some 94) (.bin .eql (.t 93) (.k (.d (.int .i64 0))))) (.q 24 (.q none (some 95) (.pick (.t 90) (.k (.d (.bool true))) (.t 94))) .done)))))))) .nil)))))))))))))))))))
 (.kp [0, 13, 14, 58, 59, 60, 95] (.cond (.t 95) (.seq (.ops [.q none (some 2) (.mv (.k (.d (.bool false))))])
 .ret) .skip)))
 (.kp [0, 13, 14, 58, 59, 60] (.ops [.q none (some 96) (.mv (.t 14)),
  .q none (some 97) (.faddr 1 (.t 13)),
  .q none (some 98) (.load 1 false (.t 97)),
  .q none (some 99) (.slen (.t 98)),
  .q none (some 100) (.bin .add (.t 96) (.t 99)),
  .q none (some 11) (.mv (.t 100))]))))))))
 (.kp [0, 11, 58, 59, 60] (.ops [.q none (some 101) (.bin .add (.t 60) (.k (.d (.int .i64 1)))),
  .q none (some 60) (.mv (.t 101))])))))))))))
 (.kp [] (.seq (.ops [.call none (some 102) 13 [],
  .q none (some 2) (.mv (.t 102))])
 .ret)))))))))))))))⟩
theorem c5 : chkF Γd.P Γd.E 5 1 i5 = true := by kernel_rfl
noncomputable def i6 : FI := -- cosigner/cosignerlaw01.LexJoins
 ⟨124, [.t 2],
 (.seq (.ops [.q none (some 2) (.mv (.k (.d (.bool false))))])
 (.kp [0] (.seq (.seq (.ops [.q none (some 19) (.mv (.t 0)),
  .q none (some 20) (.len (.t 19)),
  .q none (some 21) (.bin .gtr (.t 20) (.k (.d (.int .i64 6))))])
 (.kp [0, 21] (.cond (.t 21) (.seq (.ops [.call none (some 22) 13 [],
  .q none (some 2) (.mv (.t 22))])
 .ret) .skip)))
 (.kp [0] (.seq (.seq (.ops [.q none (some 23) (.mv (.t 0)),
  .q none (some 24) (.len (.t 23)),
  .q none (some 25) (.mv (.k (.d (.int .i64 0))))])
 (.kp [0, 23, 24, 25] (.block 0 (.loop [0, 23, 24, 25] (.seq (.ops [.q none (some 26) (.bin .lss (.t 25) (.t 24))])
 (.kp [0, 23, 24, 25, 26] (.seq (.cond (.t 26) .skip (.exit 0))
 (.kp [0, 23, 24, 25] (.seq (.block 1 (.seq (.ops [.q none (some 27) (.iaddr 1 (.t 23) (.t 25)),
  .q none (some 28) (.load 1 false (.t 27)),
  .q none (some 4) (.mv (.t 28))])
 (.kp [0, 4, 23, 24, 25] (.seq (.ops [.q none (some 29) (.mv (.t 4)),
  .q none (some 30) (.slen (.t 29)),
  .q none (some 31) (.bin .gtr (.t 30) (.k (.d (.int .i64 100))))])
 (.kp [0, 23, 24, 25, 31] (.cond (.t 31) (.seq (.ops [.call none (some 32) 13 [],
  .q none (some 2) (.mv (.t 32))])
 .ret) .skip))))))
 (.kp [0, 23, 24, 25] (.ops [.q none (some 33) (.bin .add (.t 25) (.k (.d (.int .i64 1)))),
  .q none (some 25) (.mv (.t 33))])))))))))))
 (.kp [0] (.seq (.ops [.q none (some 35) (.mv (.t 0)),
  .call none (some 36) 20 [(.t 35)],
  .q none (some 34) (.mv (.t 36)),
  .q none (some 37) (.extract (.t 34) 0),
  .q none (some 38) (.extract (.t 34) 1),
  .q none (some 39) (.extract (.t 34) 2),
  .q none (some 5) (.mv (.t 37)),
  .q none (some 6) (.mv (.t 38)),
  .q none (some 7) (.mv (.t 39))])
 (.kp [0, 5, 6, 7] (.seq (.seq (.ops [.q none (some 40) (.mv (.t 7)),
  .q none (some 41) (.bin .neq (.t 40) (.k (.d (.int .i64 0)))),
  .q none (some 42) (.mv (.t 41)),
  .q (some (42, false)) (some 43) (.mv (.t 6)),
  .q (some (42, false)) (some 44) (.len (.t 43)),
  .q (some (42, false)) (some 45) (.mv (.t 0)),
  .q (some (42, false)) (some 46) (.len (.t 45)),
  .q (some (42, false)) (some 47) (.bin .neq (.t 44) (.t 46)),
  .q none (some 48) (.pick (.t 42) (.k (.d (.bool true))) (.t 47))])
 (.kp [0, 5, 6, 48] (.cond (.t 48) (.seq (.ops [.q none (some 2) (.mv (.k (.d (.bool false))))])
 .ret) .skip)))
 (.kp [0, 5, 6] (.seq (.ops [.q none (some 50) (.mv (.t 5)),
  .call none (some 51) 22 [(.t 50)],
  .q none (some 49) (.mv (.t 51)),
  .q none (some 52) (.extract (.t 49) 0),
  .q none (some 53) (.extract (.t 49) 1),
  .q none (some 54) (.extract (.t 49) 2),
  .e none (some 9) (.alloc 23 [(.d (.int .i64 0)), (.d (.int .i64 0))]),
  .q none (some 8) (.mv (.t 52)),
  .e none none (.store 2 (.t 9) (.t 53)),
  .q none (some 10) (.mv (.t 54))])
 (.kp [0, 6, 8, 9, 10] (.seq (.ops [.q none (some 11) (.mv (.k .snil)),
  .own 11 (57, 4)])
 (.kp [0, 6, 8, 9, 10, 11] (.seq (.seq (.ops [.q none (some 55) (.mv (.t 0)),
  .q none (some 56) (.len (.t 55)),
  .q none (some 57) (.mv (.k (.d (.int .i64 0))))])
 (.kp [6, 8, 9, 10, 11, 55, 56, 57] (.block 2 (.loop [6, 8, 9, 10, 11, 55, 56, 57] (.seq (.ops [.q none (some 58) (.bin .lss (.t 57) (.t 56))])
 (.kp [6, 8, 9, 10, 11, 55, 56, 57, 58] (.seq (.cond (.t 58) .skip (.exit 2))
 (.kp [6, 8, 9, 10, 11, 55, 56, 57] (.seq (.block 3 (.seq (.ops [.q none (some 59) (.mv (.t 57)),
  .q none (some 60) (.iaddr 1 (.t 55) (.t 57)),
  .q none (some 61) (.load 1 false (.t 60)),
  .q none (some 12) (.mv (.t 59)),
  .q none (some 13) (.mv (.t 61))])
 (.kp [6, 8, 9, 10, 11, 12, 13, 55, 56, 57] (.seq (.ops [.q none (some 63) (.mv (.t 13)),
  .call none (some 64) 22 [(.t 63)],
  .q none (some 62) (.mv (.t 64)),
  .q none (some 65) (.extract (.t 62) 0),
  .q none (some 66) (.extract (.t 62) 1),
  .q none (some 67) (.extract (.t 62) 2),
  .e none (some 15) (.alloc 23 [(.d (.int .i64 0)), (.d (.int .i64 0))]),
  .q none (some 14) (.mv (.t 65)),
  .e none none (.store 2 (.t 15) (.t 66)),
  .q none (some 16) (.mv (.t 67))])
 (.kp [6, 8, 9, 10, 11, 12, 14, 15, 16, 55, 56, 57] (.seq (.seq (.ops [.q none (some 68) (.mv (.t 16)),
  .q none (some 69) (.bin .neq (.t 68) (.k (.d (.int .i64 0))))])
 (.kp [6, 8, 9, 10, 11, 12, 14, 15, 16, 55, 56, 57, 69] (.cond (.t 69) (.seq (.draw (.br (.cons 0 [] (.call none (some 70) 13 []) (.q 1 (.q none (some 71) (.mv (.t 70))) (.q 2 (.q (some (71, true)) (some 72) (.mv (.t 10))) (.q 3 (.q (some (71, true)) (some 73) (.mv (.t 16))) (.q 4 (.q (some (71, true)) (some 74) (.bin .eql (.t 72) (.t 73))) (.q 5 (.q none (some 75) (.pick (.t 71) (.t 74) (.k (.d (.bool false))))) (.q 6 (.q none (some 76) (.mv (.t 75))) (.q 7 (.q (some (76, true)) (some 77) (.load 2 true (.t 9))) (.q 8 (.q (some (76, true)) (some 78) (.faddr 0 (.t 15))) (.q 9 (.q (some (76, true)) (some 79) (.load 1 false (.t 78))) (.q 10 (.q (some (76, true)) (some 80) (.mv (.t 6))) (.q 11 (.q (some (76, true)) (some 81) (.mv (.t 12))) (.q 12 (.q (some (76, true)) (some 82) (.iaddr 1 (.t 80) (.t 81))) (.q 13 (.q (some (76, true)) (some 83) (.load 1 false (.t 82))) (.q 14 (.q (some (76, true)) (some 84) (.bin .add (.t 79) (.t 83))) (.q 15 (.q (some (76, true)) (some 85) (.bin .sub (.t 84) (.k (.d (.int .i64 1))))) (.q 16 (.q (some (76, true)) (some 86) (.faddr 1 (.t 15))) (.q 17 (.q (some (76, true)) (some 87) (.load 1 false (.t 86))) (.q 18 (.q (some (76, true)) (some 88) (.build [(.int .i64 0), (.int .i64 0)] [(0, 1, (.t 85)), (1, 1, (.t 87))])) (.q 19 (.q (some (76, true)) (some 89) (.eqs false [.int .i64, .int .i64] (.t 77) (.t 88))) (.q 20 (.q none (some 90) (.pick (.t 76) (.t 89) (.k (.d (.bool false))))) (.q 21 (.q none (some 2) (.mv (.t 90))) .done))))))))))))))))))))) .nil)))
 .ret) .skip)))
 (.kp [6, 8, 9, 10, 11, 12, 14, 55, 56, 57] (.seq (.ops [.q none (some 91) (.mv (.t 14)),
  .q none (some 92) (.len (.t 91)),
  .q none (some 93) (.mv (.k (.d (.int .i64 0))))])
 (.kp [6, 8, 9, 10, 11, 12, 55, 56, 57, 91, 92, 93] (.block 4 (.loop [6, 8, 9, 10, 11, 12, 55, 56, 57, 91, 92, 93] (.seq (.ops [.q none (some 94) (.bin .lss (.t 93) (.t 92))])
 (.kp [6, 8, 9, 10, 11, 12, 55, 56, 57, 91, 92, 93, 94] (.seq (.cond (.t 94) .skip (.exit 4))
 (.kp [6, 8, 9, 10, 11, 12, 55, 56, 57, 91, 92, 93] (.seq (.block 5 (.seq (.ops [.q none (some 95) (.iaddr 4 (.t 91) (.t 93)),
  .q none (some 96) (.load 4 true (.t 95)),
  .e none (some 18) (.alloc 57 [(.d (.int .i64 0)), (.d (.str [])), (.d (.int .i64 0)), (.d (.int .i64 0))]),
  .e none none (.store 4 (.t 18) (.t 96))])
 (.kp [6, 8, 9, 10, 11, 12, 18, 55, 56, 57, 91, 92, 93] (.seq (.draw (.q 0 (.q none (some 97) (.faddr 2 (.t 18))) (.q 1 (.q none (some 98) (.faddr 0 (.t 97))) (.q 2 (.q none (some 99) (.load 1 false (.t 98))) (.q 3 (.q none (some 100) (.mv (.t 6))) (.q 4 (.q none (some 101) (.mv (.t 12))) (.q 5 (.q none (some 102) (.iaddr 1 (.t 100) (.t 101))) (.q 6 (.q none (some 103) (.load 1 false (.t 102))) (.q 7 (.q none (some 104) (.bin .sub (.t 103) (.k (.d (.int .i64 1))))) (.q 8 (.q none (some 105) (.bin .add (.t 99) (.t 104))) (.q 9 (.q none (some 106) (.faddr 2 (.t 18))) (.q 10 (.q none (some 107) (.faddr 0 (.t 106))) (.br (.cons 11 [0, 1, 2, 3, 4, 5, 6, 7, 8, 10] (.e none none (.store 1 (.t 107) (.t 105))) .done .nil))))))))))))))
 (.kp [6, 8, 9, 10, 11, 12, 18, 55, 56, 57, 91, 92, 93] (.ops [.q none (some 108) (.mv (.t 11)),
  .q none (some 109) (.load 4 true (.t 18)),
  .e none (some 110) (.bslice 4 [(.t 109)]),
  .e none (some 111) (.append 57 4 false (.t 108) (.t 110)),
  .q none (some 11) (.mv (.t 111))]))))))
 (.kp [6, 8, 9, 10, 11, 12, 55, 56, 57, 91, 92, 93] (.ops [.q none (some 112) (.bin .add (.t 93) (.k (.d (.int .i64 1)))),
  .q none (some 93) (.mv (.t 112))]))))))))))))))))))
 (.kp [6, 8, 9, 10, 11, 55, 56, 57] (.ops [.q none (some 113) (.bin .add (.t 57) (.k (.d (.int .i64 1)))),
  .q none (some 57) (.mv (.t 113))])))))))))))
 (.kp [8, 10, 11] (.seq (.ops [.call none (some 114) 13 [],
  .q none (some 115) (.mv (.t 114)),
  .q (some (115, true)) (some 116) (.mv (.t 10)),
  .q (some (115, true)) (some 117) (.bin .eql (.t 116) (.k (.d (.int .i64 0)))),
  .q none (some 118) (.pick (.t 115) (.t 117) (.k (.d (.bool false)))),
  .q none (some 119) (.mv (.t 118)),
  .q (some (119, true)) (some 120) (.mv (.t 8)),
  .q (some (119, true)) (some 121) (.mv (.t 11)),
  .call (some (119, true)) (some 122) 24 [(.t 120), (.t 121)],
  .q none (some 123) (.pick (.t 119) (.t 122) (.k (.d (.bool false)))),
  .q none (some 2) (.mv (.t 123))])
 .ret)))))))))))))))))⟩
theorem c6 : chkF Γd.P Γd.E 6 1 i6 = true := by kernel_rfl
noncomputable def i7 : FI := -- cosigner/cosignerlaw01.LexReadsBack
 ⟨141, [.t 2],
 (.seq (.ops [.q none (some 2) (.mv (.k (.d (.bool false))))])
 (.kp [0] (.seq (.seq (.ops [.q none (some 21) (.mv (.t 0)),
  .q none (some 22) (.len (.t 21)),
  .q none (some 23) (.bin .gtr (.t 22) (.k (.d (.int .i64 200))))])
 (.kp [0, 23] (.cond (.t 23) (.seq (.ops [.call none (some 24) 13 [],
  .q none (some 2) (.mv (.t 24))])
 .ret) .skip)))
 (.kp [0] (.seq (.seq (.ops [.q none (some 25) (.mv (.t 0)),
  .q none (some 26) (.len (.t 25)),
  .q none (some 27) (.mv (.k (.d (.int .i64 0))))])
 (.kp [0, 25, 26, 27] (.block 0 (.loop [0, 25, 26, 27] (.seq (.ops [.q none (some 28) (.bin .lss (.t 27) (.t 26))])
 (.kp [0, 25, 26, 27, 28] (.seq (.cond (.t 28) .skip (.exit 0))
 (.kp [0, 25, 26, 27] (.seq (.block 1 (.seq (.ops [.q none (some 29) (.iaddr 4 (.t 25) (.t 27)),
  .q none (some 30) (.load 4 true (.t 29)),
  .e none (some 4) (.alloc 57 [(.d (.int .i64 0)), (.d (.str [])), (.d (.int .i64 0)), (.d (.int .i64 0))]),
  .e none none (.store 4 (.t 4) (.t 30))])
 (.kp [0, 4, 25, 26, 27] (.seq (.ops [.q none (some 31) (.faddr 1 (.t 4)),
  .q none (some 32) (.load 1 false (.t 31)),
  .q none (some 33) (.slen (.t 32)),
  .q none (some 34) (.bin .gtr (.t 33) (.k (.d (.int .i64 60))))])
 (.kp [0, 25, 26, 27, 34] (.cond (.t 34) (.seq (.ops [.call none (some 35) 13 [],
  .q none (some 2) (.mv (.t 35))])
 .ret) .skip))))))
 (.kp [0, 25, 26, 27] (.ops [.q none (some 36) (.bin .add (.t 27) (.k (.d (.int .i64 1)))),
  .q none (some 27) (.mv (.t 36))])))))))))))
 (.kp [0] (.seq (.ops [.q none (some 38) (.mv (.t 0)),
  .call none (some 39) 27 [(.t 38)],
  .q none (some 37) (.mv (.t 39)),
  .q none (some 40) (.extract (.t 37) 0),
  .q none (some 41) (.extract (.t 37) 1),
  .q none (some 5) (.mv (.t 40)),
  .q none (some 6) (.mv (.t 41))])
 (.kp [0, 5, 6] (.seq (.ops [.q none (some 43) (.mv (.t 0)),
  .call none (some 44) 28 [(.t 43)],
  .q none (some 42) (.mv (.t 44)),
  .q none (some 45) (.extract (.t 42) 0),
  .q none (some 46) (.extract (.t 42) 1),
  .q none (some 7) (.mv (.t 45)),
  .q none (some 8) (.mv (.t 46))])
 (.kp [0, 5, 6, 7, 8] (.seq (.seq (.ops [.q none (some 47) (.mv (.t 6)),
  .q none (some 48) (.bin .neq (.t 47) (.k (.d (.int .i64 0)))),
  .q none (some 49) (.mv (.t 48)),
  .q (some (49, false)) (some 50) (.mv (.t 8)),
  .q (some (49, false)) (some 51) (.bin .neq (.t 50) (.k (.d (.int .i64 0)))),
  .q none (some 52) (.pick (.t 49) (.k (.d (.bool true))) (.t 51))])
 (.kp [0, 5, 6, 7, 8, 52] (.cond (.t 52) (.seq (.ops [.call none (some 53) 13 [],
  .q none (some 54) (.mv (.t 53)),
  .q (some (54, true)) (some 55) (.mv (.t 6)),
  .q (some (54, true)) (some 56) (.mv (.t 8)),
  .q (some (54, true)) (some 57) (.bin .eql (.t 55) (.t 56)),
  .q none (some 58) (.pick (.t 54) (.t 57) (.k (.d (.bool false)))),
  .q none (some 2) (.mv (.t 58))])
 .ret) .skip)))
 (.kp [0, 5, 7] (.seq (.ops [.q none (some 60) (.mv (.t 5)),
  .call none (some 61) 22 [(.t 60)],
  .q none (some 59) (.mv (.t 61)),
  .q none (some 62) (.extract (.t 59) 0),
  .q none (some 63) (.extract (.t 59) 1),
  .q none (some 64) (.extract (.t 59) 2),
  .e none (some 10) (.alloc 23 [(.d (.int .i64 0)), (.d (.int .i64 0))]),
  .q none (some 9) (.mv (.t 62)),
  .e none none (.store 2 (.t 10) (.t 63)),
  .q none (some 11) (.mv (.t 64))])
 (.kp [0, 5, 7, 9, 11] (.seq (.ops [.q none (some 66) (.mv (.t 7)),
  .call none (some 67) 22 [(.t 66)],
  .q none (some 65) (.mv (.t 67)),
  .q none (some 68) (.extract (.t 65) 0),
  .q none (some 69) (.extract (.t 65) 1),
  .q none (some 70) (.extract (.t 65) 2),
  .e none (some 13) (.alloc 23 [(.d (.int .i64 0)), (.d (.int .i64 0))]),
  .q none (some 12) (.mv (.t 68)),
  .e none none (.store 2 (.t 13) (.t 69)),
  .q none (some 14) (.mv (.t 70))])
 (.kp [0, 5, 7, 9, 11, 12, 14] (.seq (.ops [.q none (some 72) (.mv (.t 12)),
  .call none (some 73) 28 [(.t 72)],
  .q none (some 71) (.mv (.t 73)),
  .q none (some 74) (.extract (.t 71) 0),
  .q none (some 75) (.extract (.t 71) 1),
  .q none (some 15) (.mv (.t 74)),
  .q none (some 16) (.mv (.t 75))])
 (.kp [0, 5, 7, 9, 11, 12, 14, 15, 16] (.seq (.seq (.ops [.q none (some 76) (.mv (.t 11)),
  .q none (some 77) (.bin .neq (.t 76) (.k (.d (.int .i64 0)))),
  .q none (some 78) (.mv (.t 77)),
  .q (some (78, false)) (some 79) (.mv (.t 14)),
  .q (some (78, false)) (some 80) (.bin .neq (.t 79) (.k (.d (.int .i64 0)))),
  .q none (some 81) (.pick (.t 78) (.k (.d (.bool true))) (.t 80)),
  .q none (some 82) (.mv (.t 81)),
  .q (some (82, false)) (some 83) (.mv (.t 16)),
  .q (some (82, false)) (some 84) (.bin .neq (.t 83) (.k (.d (.int .i64 0)))),
  .q none (some 85) (.pick (.t 82) (.k (.d (.bool true))) (.t 84)),
  .q none (some 86) (.mv (.t 85)),
  .q (some (86, false)) (some 87) (.mv (.t 9)),
  .q (some (86, false)) (some 88) (.mv (.t 0)),
  .call (some (86, false)) (some 89) 29 [(.t 87), (.t 88)],
  .q (some (86, false)) (some 90) (.not (.t 89)),
  .q none (some 91) (.pick (.t 86) (.k (.d (.bool true))) (.t 90)),
  .q none (some 92) (.mv (.t 91)),
  .q (some (92, false)) (some 93) (.mv (.t 12)),
  .q (some (92, false)) (some 94) (.mv (.t 0)),
  .call (some (92, false)) (some 95) 29 [(.t 93), (.t 94)],
  .q (some (92, false)) (some 96) (.not (.t 95)),
  .q none (some 97) (.pick (.t 92) (.k (.d (.bool true))) (.t 96)),
  .q none (some 98) (.mv (.t 97)),
  .q (some (98, false)) (some 99) (.mv (.t 7)),
  .q (some (98, false)) (some 100) (.slen (.t 99)),
  .q (some (98, false)) (some 101) (.mv (.t 5)),
  .q (some (98, false)) (some 102) (.slen (.t 101)),
  .q (some (98, false)) (some 103) (.bin .gtr (.t 100) (.t 102)),
  .q none (some 104) (.pick (.t 98) (.k (.d (.bool true))) (.t 103)),
  .q none (some 105) (.mv (.t 104)),
  .q (some (105, false)) (some 106) (.mv (.t 15)),
  .q (some (105, false)) (some 107) (.mv (.t 7)),
  .q (some (105, false)) (some 108) (.bin .neq (.t 106) (.t 107)),
  .q none (some 109) (.pick (.t 105) (.k (.d (.bool true))) (.t 108))])
 (.kp [0, 7, 109] (.cond (.t 109) (.seq (.ops [.q none (some 2) (.mv (.k (.d (.bool false))))])
 .ret) .skip)))
 (.kp [0, 7] (.seq (.seq (.ops [.q none (some 17) (.mv (.k (.d (.int .i64 0))))])
 (.kp [0, 7, 17] (.block 2 (.loop [0, 7, 17] (.seq (.seq (.ops [.q none (some 110) (.mv (.t 17)),
  .q none (some 111) (.mv (.t 7)),
  .q none (some 112) (.slen (.t 111)),
  .q none (some 113) (.bin .lss (.t 110) (.t 112))])
 (.kp [0, 7, 17, 113] (.cond (.t 113) .skip (.exit 2))))
 (.kp [0, 7, 17] (.seq (.block 3 (.seq (.seq (.ops [.q none (some 116) (.mv (.t 7)),
  .q none (some 117) (.mv (.t 17)),
  .q none (some 118) (.sindex (.t 116) (.t 117)),
  .q none (some 119) (.bin .neq (.t 118) (.k (.d (.int .u8 32))))])
 (.kp [0, 7, 17, 119] (.cond (.t 119) (.exit 3) .skip)))
 (.kp [0, 7, 17] (.seq (.draw (.q 0 (.q none (some 121) (.mv (.t 7))) (.q 1 (.q none (some 122) (.mv (.t 17))) (.q 2 (.q none (some 123) (.sslice (.t 121) none (some (.t 122)))) (.q 3 (.q none (some 124) (.mv (.t 7))) (.q 4 (.q none (some 125) (.mv (.t 17))) (.q 5 (.q none (some 126) (.bin .add (.t 125) (.k (.d (.int .i64 1))))) (.q 6 (.q none (some 127) (.sslice (.t 124) (some (.t 126)) none)) (.q 7 (.q none (some 128) (.bin .add (.t 123) (.t 127))) (.br (.cons 8 [7] (.call none (some 129) 22 [(.t 128)]) (.q 9 (.q none (some 120) (.mv (.t 129))) (.q 10 (.q none (some 130) (.extract (.t 120) 0)) (.q 11 (.q none (some 131) (.extract (.t 120) 1)) (.q 12 (.q none (some 132) (.extract (.t 120) 2)) (.br (.cons 13 [] (.e none (some 19) (.alloc 23 [(.d (.int .i64 0)), (.d (.int .i64 0))])) (.q 14 (.q none (some 18) (.mv (.t 130))) (.br (.cons 15 [0, 1, 2, 3, 4, 5, 6, 7, 8, 9, 10, 11, 13, 14] (.e none none (.store 2 (.t 19) (.t 131))) (.q 16 (.q none (some 20) (.mv (.t 132))) .done) .nil))) .nil)))))) (.cons 13 [] (.e none (some 19) (.alloc 23 [(.d (.int .i64 0)), (.d (.int .i64 0))])) (.br (.cons 8 [7] (.call none (some 129) 22 [(.t 128)]) (.q 9 (.q none (some 120) (.mv (.t 129))) (.q 10 (.q none (some 130) (.extract (.t 120) 0)) (.q 11 (.q none (some 131) (.extract (.t 120) 1)) (.q 12 (.q none (some 132) (.extract (.t 120) 2)) (.q 14 (.q none (some 18) (.mv (.t 130))) (.br (.cons 15 [0, 1, 2, 3, 4, 5, 6, 7, 8, 9, 10, 11, 13, 14] (.e none none (.store 2 (.t 19) (.t 131))) (.q 16 (.q none (some 20) (.mv (.t 132))) .done) .nil))))))) .nil)) .nil))))))))))))
 (.kp [0, 7, 17, 18, 20] (.seq (.ops [.q none (some 133) (.mv (.t 20)),
  .q none (some 134) (.bin .eql (.t 133) (.k (.d (.int .i64 0)))),
  .q none (some 135) (.mv (.t 134)),
  .q (some (135, true)) (some 136) (.mv (.t 18)),
  .q (some (135, true)) (some 137) (.mv (.t 0)),
  .call (some (135, true)) (some 138) 29 [(.t 136), (.t 137)],
  .q none (some 139) (.pick (.t 135) (.t 138) (.k (.d (.bool false))))])
 (.kp [0, 7, 17, 139] (.cond (.t 139) (.seq (.ops [.q none (some 2) (.mv (.k (.d (.bool false))))])
 .ret) .skip))))))))
 (.kp [0, 7, 17] (.ops [.q none (some 114) (.mv (.t 17)),
  .q none (some 115) (.bin .add (.t 114) (.k (.d (.int .i64 1)))),
  .q none (some 17) (.mv (.t 115))])))))))))
 (.kp [] (.seq (.ops [.call none (some 140) 13 [],
  .q none (some 2) (.mv (.t 140))])
 .ret)))))))))))))))))))))))⟩
theorem c7 : chkF Γd.P Γd.E 7 1 i7 = true := by kernel_rfl
noncomputable def i8 : FI := -- cosigner/cosignerlaw01.LexTokens
 ⟨61, [.t 2],
 (.seq (.ops [.q none (some 2) (.mv (.k (.d (.bool false))))])
 (.kp [0] (.seq (.seq (.ops [.q none (some 11) (.mv (.t 0)),
  .call none (some 12) 12 [(.t 11)],
  .q none (some 13) (.not (.t 12))])
 (.kp [0, 13] (.cond (.t 13) (.seq (.ops [.call none (some 14) 13 [],
  .q none (some 2) (.mv (.t 14))])
 .ret) .skip)))
 (.kp [0] (.seq (.ops [.q none (some 16) (.mv (.t 0)),
  .call none (some 17) 22 [(.t 16)],
  .q none (some 15) (.mv (.t 17)),
  .q none (some 18) (.extract (.t 15) 0),
  .q none (some 19) (.extract (.t 15) 1),
  .q none (some 20) (.extract (.t 15) 2),
  .e none (some 4) (.alloc 23 [(.d (.int .i64 0)), (.d (.int .i64 0))]),
  .q none (some 3) (.mv (.t 18)),
  .e none none (.store 2 (.t 4) (.t 19)),
  .q none (some 5) (.mv (.t 20))])
 (.kp [0, 3, 4, 5] (.seq (.ops [.q none (some 21) (.mv (.t 0)),
  .call none (some 22) 30 [(.t 21)],
  .e none (some 6) (.alloc 67 [.snil, .snil, (.d (.int .i64 0)), (.d (.int .i64 0)), (.d (.int .i64 0))]),
  .e none none (.store 5 (.t 6) (.t 22))])
 (.kp [0, 3, 4, 5, 6] (.seq (.ops [.q none (some 24) (.mv (.t 0)),
  .call none (some 25) 31 [(.t 24)],
  .q none (some 23) (.mv (.t 25)),
  .q none (some 26) (.extract (.t 23) 0),
  .q none (some 27) (.extract (.t 23) 1),
  .q none (some 7) (.mv (.t 26)),
  .q none (some 8) (.mv (.t 27))])
 (.kp [3, 4, 5, 6, 7, 8] (.seq (.ops [.q none (some 28) (.mv (.t 3)),
  .q none (some 29) (.faddr 0 (.t 6)),
  .q none (some 30) (.load 1 false (.t 29)),
  .call none (some 31) 24 [(.t 28), (.t 30)],
  .q none (some 9) (.mv (.t 31))])
 (.kp [4, 5, 6, 7, 8, 9] (.seq (.ops [.q none (some 32) (.mv (.t 7)),
  .q none (some 33) (.faddr 1 (.t 6)),
  .q none (some 34) (.load 1 false (.t 33)),
  .call none (some 35) 24 [(.t 32), (.t 34)],
  .q none (some 10) (.mv (.t 35))])
 (.kp [4, 5, 6, 8, 9, 10] (.seq (.ops [.call none (some 36) 13 [],
  .q none (some 37) (.mv (.t 36)),
  .q (some (37, true)) (some 38) (.mv (.t 9)),
  .q none (some 39) (.pick (.t 37) (.t 38) (.k (.d (.bool false)))),
  .q none (some 40) (.mv (.t 39)),
  .q (some (40, true)) (some 41) (.mv (.t 10)),
  .q none (some 42) (.pick (.t 40) (.t 41) (.k (.d (.bool false)))),
  .q none (some 43) (.mv (.t 42)),
  .q (some (43, true)) (some 44) (.load 2 true (.t 4)),
  .q (some (43, true)) (some 45) (.faddr 2 (.t 6)),
  .q (some (43, true)) (some 46) (.load 2 true (.t 45)),
  .q (some (43, true)) (some 47) (.eqs false [.int .i64, .int .i64] (.t 44) (.t 46)),
  .q none (some 48) (.pick (.t 43) (.t 47) (.k (.d (.bool false)))),
  .q none (some 49) (.mv (.t 48)),
  .q (some (49, true)) (some 50) (.mv (.t 5)),
  .q (some (49, true)) (some 51) (.faddr 4 (.t 6)),
  .q (some (49, true)) (some 52) (.load 1 false (.t 51)),
  .q (some (49, true)) (some 53) (.bin .eql (.t 50) (.t 52)),
  .q none (some 54) (.pick (.t 49) (.t 53) (.k (.d (.bool false)))),
  .q none (some 55) (.mv (.t 54)),
  .q (some (55, true)) (some 56) (.mv (.t 8)),
  .q (some (55, true)) (some 57) (.faddr 4 (.t 6)),
  .q (some (55, true)) (some 58) (.load 1 false (.t 57)),
  .q (some (55, true)) (some 59) (.bin .eql (.t 56) (.t 58)),
  .q none (some 60) (.pick (.t 55) (.t 59) (.k (.d (.bool false)))),
  .q none (some 2) (.mv (.t 60))])
 .ret)))))))))))))))⟩
theorem c8 : chkF Γd.P Γd.E 8 1 i8 = true := by kernel_rfl
noncomputable def i9 : FI := -- cosigner/cosignerlaw01.LexShapes
 ⟨77, [.t 2],
 (.seq (.ops [.q none (some 2) (.mv (.k (.d (.bool false))))])
 (.kp [0] (.seq (.seq (.ops [.q none (some 12) (.mv (.t 0)),
  .q none (some 13) (.slen (.t 12)),
  .q none (some 14) (.bin .gtr (.t 13) (.k (.d (.int .i64 60))))])
 (.kp [0, 14] (.cond (.t 14) (.seq (.ops [.call none (some 15) 13 [],
  .q none (some 2) (.mv (.t 15))])
 .ret) .skip)))
 (.kp [0] (.seq (.ops [.q none (some 17) (.mv (.t 0)),
  .call none (some 18) 32 [(.t 17)],
  .q none (some 16) (.mv (.t 18)),
  .q none (some 19) (.extract (.t 16) 0),
  .q none (some 20) (.extract (.t 16) 1),
  .q none (some 3) (.mv (.t 19)),
  .q none (some 4) (.mv (.t 20))])
 (.kp [0, 3, 4] (.seq (.ops [.q none (some 21) (.mv (.t 0)),
  .call none (some 22) 33 [(.t 21)],
  .e none (some 5) (.alloc 73 [(.d (.int .i64 0)), (.d (.int .i64 0))]),
  .e none none (.store 2 (.t 5) (.t 22))])
 (.kp [0, 3, 4, 5] (.seq (.ops [.q none (some 24) (.mv (.t 0)),
  .call none (some 25) 34 [(.t 24)],
  .q none (some 23) (.mv (.t 25)),
  .q none (some 26) (.extract (.t 23) 0),
  .q none (some 27) (.extract (.t 23) 1),
  .q none (some 6) (.mv (.t 26)),
  .q none (some 7) (.mv (.t 27))])
 (.kp [0, 3, 4, 5, 6, 7] (.seq (.ops [.q none (some 28) (.mv (.t 0)),
  .call none (some 29) 35 [(.t 28)],
  .e none (some 8) (.alloc 33 [(.d (.int .i64 0)), (.d (.int .i64 0))]),
  .e none none (.store 2 (.t 8) (.t 29))])
 (.kp [3, 4, 5, 6, 7, 8] (.seq (.ops [.call none (some 30) 36 [],
  .q none (some 9) (.mv (.t 30))])
 (.kp [3, 4, 5, 6, 7, 8, 9] (.seq (.ops [.call none (some 31) 37 [],
  .q none (some 10) (.mv (.t 31))])
 (.kp [3, 4, 5, 6, 7, 8, 9, 10] (.seq (.seq (.ops [.q none (some 32) (.mv (.t 9)),
  .q none (some 33) (.len (.t 32)),
  .q none (some 34) (.mv (.t 10)),
  .q none (some 35) (.len (.t 34)),
  .q none (some 36) (.bin .neq (.t 33) (.t 35))])
 (.kp [3, 4, 5, 6, 7, 8, 9, 10, 36] (.cond (.t 36) (.seq (.ops [.q none (some 2) (.mv (.k (.d (.bool false))))])
 .ret) .skip)))
 (.kp [3, 4, 5, 6, 7, 8, 9, 10] (.seq (.seq (.ops [.q none (some 11) (.mv (.k (.d (.int .i64 0))))])
 (.kp [3, 4, 5, 6, 7, 8, 9, 10, 11] (.block 0 (.loop [3, 4, 5, 6, 7, 8, 9, 10, 11] (.seq (.seq (.ops [.q none (some 37) (.mv (.t 11)),
  .q none (some 38) (.mv (.t 9)),
  .q none (some 39) (.len (.t 38)),
  .q none (some 40) (.bin .lss (.t 37) (.t 39))])
 (.kp [3, 4, 5, 6, 7, 8, 9, 10, 11, 40] (.cond (.t 40) .skip (.exit 0))))
 (.kp [3, 4, 5, 6, 7, 8, 9, 10, 11] (.seq (.block 1 (.seq (.draw (.q 0 (.q none (some 43) (.mv (.t 9))) (.q 1 (.q none (some 44) (.mv (.t 11))) (.q 2 (.q none (some 45) (.iaddr 1 (.t 43) (.t 44))) (.q 3 (.q none (some 46) (.load 1 false (.t 45))) (.q 4 (.q none (some 47) (.mv (.t 10))) (.q 5 (.q none (some 48) (.mv (.t 11))) (.q 6 (.q none (some 49) (.iaddr 1 (.t 47) (.t 48))) (.q 7 (.q none (some 50) (.load 1 false (.t 49))) (.q 8 (.q none (some 51) (.bin .neq (.t 46) (.t 50))) .done))))))))))
 (.kp [3, 4, 5, 6, 7, 8, 9, 10, 11, 51] (.cond (.t 51) (.seq (.ops [.q none (some 2) (.mv (.k (.d (.bool false))))])
 .ret) .skip))))
 (.kp [3, 4, 5, 6, 7, 8, 9, 10, 11] (.ops [.q none (some 41) (.mv (.t 11)),
  .q none (some 42) (.bin .add (.t 41) (.k (.d (.int .i64 1)))),
  .q none (some 11) (.mv (.t 42))])))))))))
 (.kp [3, 4, 5, 6, 7, 8] (.seq (.ops [.call none (some 52) 13 [],
  .q none (some 53) (.mv (.t 52)),
  .q (some (53, true)) (some 54) (.mv (.t 3)),
  .q (some (53, true)) (some 55) (.faddr 0 (.t 5)),
  .q (some (53, true)) (some 56) (.load 1 false (.t 55)),
  .q (some (53, true)) (some 57) (.bin .eql (.t 54) (.t 56)),
  .q none (some 58) (.pick (.t 53) (.t 57) (.k (.d (.bool false)))),
  .q none (some 59) (.mv (.t 58)),
  .q (some (59, true)) (some 60) (.mv (.t 4)),
  .q (some (59, true)) (some 61) (.faddr 1 (.t 5)),
  .q (some (59, true)) (some 62) (.load 1 false (.t 61)),
  .q (some (59, true)) (some 63) (.bin .eql (.t 60) (.t 62)),
  .q none (some 64) (.pick (.t 59) (.t 63) (.k (.d (.bool false)))),
  .q none (some 65) (.mv (.t 64)),
  .q (some (65, true)) (some 66) (.mv (.t 6)),
  .q (some (65, true)) (some 67) (.faddr 0 (.t 8)),
  .q (some (65, true)) (some 68) (.load 1 false (.t 67)),
  .q (some (65, true)) (some 69) (.bin .eql (.t 66) (.t 68)),
  .q none (some 70) (.pick (.t 65) (.t 69) (.k (.d (.bool false)))),
  .q none (some 71) (.mv (.t 70)),
  .q (some (71, true)) (some 72) (.mv (.t 7)),
  .q (some (71, true)) (some 73) (.faddr 1 (.t 8)),
  .q (some (71, true)) (some 74) (.load 1 false (.t 73)),
  .q (some (71, true)) (some 75) (.bin .eql (.t 72) (.t 74)),
  .q none (some 76) (.pick (.t 71) (.t 75) (.k (.d (.bool false)))),
  .q none (some 2) (.mv (.t 76))])
 .ret)))))))))))))))))))))⟩
theorem c9 : chkF Γd.P Γd.E 9 1 i9 = true := by kernel_rfl
noncomputable def i10 : FI := -- cosigner/cosignerlaw01.LexTightest
 ⟨56, [.t 2],
 (.seq (.ops [.q none (some 2) (.mv (.k (.d (.bool false))))])
 (.kp [0] (.seq (.seq (.ops [.q none (some 10) (.mv (.t 0)),
  .q none (some 11) (.slen (.t 10)),
  .q none (some 12) (.bin .gtr (.t 11) (.k (.d (.int .i64 400))))])
 (.kp [0, 12] (.cond (.t 12) (.seq (.ops [.call none (some 13) 13 [],
  .q none (some 2) (.mv (.t 13))])
 .ret) .skip)))
 (.kp [0] (.seq (.ops [.q none (some 15) (.mv (.t 0)),
  .call none (some 16) 22 [(.t 15)],
  .q none (some 14) (.mv (.t 16)),
  .q none (some 17) (.extract (.t 14) 0),
  .q none (some 18) (.extract (.t 14) 1),
  .q none (some 19) (.extract (.t 14) 2),
  .e none (some 4) (.alloc 23 [(.d (.int .i64 0)), (.d (.int .i64 0))]),
  .q none (some 3) (.mv (.t 17)),
  .e none none (.store 2 (.t 4) (.t 18)),
  .q none (some 5) (.mv (.t 19))])
 (.kp [0, 3, 5] (.seq (.seq (.ops [.q none (some 20) (.mv (.t 5)),
  .q none (some 21) (.bin .neq (.t 20) (.k (.d (.int .i64 0))))])
 (.kp [0, 3, 21] (.cond (.t 21) (.seq (.ops [.call none (some 22) 13 [],
  .q none (some 23) (.mv (.t 22)),
  .q (some (23, true)) (some 24) (.mv (.t 3)),
  .q (some (23, true)) (some 25) (.len (.t 24)),
  .q (some (23, true)) (some 26) (.bin .eql (.t 25) (.k (.d (.int .i64 0)))),
  .q none (some 27) (.pick (.t 23) (.t 26) (.k (.d (.bool false)))),
  .q none (some 2) (.mv (.t 27))])
 .ret) .skip)))
 (.kp [0, 3] (.seq (.ops [.q none (some 29) (.mv (.t 3)),
  .call none (some 30) 28 [(.t 29)],
  .q none (some 28) (.mv (.t 30)),
  .q none (some 31) (.extract (.t 28) 0),
  .q none (some 32) (.extract (.t 28) 1),
  .q none (some 6) (.mv (.t 31)),
  .q none (some 7) (.mv (.t 32))])
 (.kp [0, 6, 7] (.seq (.seq (.ops [.q none (some 33) (.mv (.t 7)),
  .q none (some 34) (.bin .neq (.t 33) (.k (.d (.int .i64 0)))),
  .q none (some 35) (.mv (.t 34)),
  .q (some (35, false)) (some 36) (.mv (.t 6)),
  .q (some (35, false)) (some 37) (.slen (.t 36)),
  .q (some (35, false)) (some 38) (.mv (.t 0)),
  .q (some (35, false)) (some 39) (.slen (.t 38)),
  .q (some (35, false)) (some 40) (.bin .gtr (.t 37) (.t 39)),
  .q none (some 41) (.pick (.t 35) (.k (.d (.bool true))) (.t 40))])
 (.kp [0, 6, 41] (.cond (.t 41) (.seq (.ops [.q none (some 2) (.mv (.k (.d (.bool false))))])
 .ret) .skip)))
 (.kp [0, 6] (.seq (.ops [.q none (some 43) (.mv (.t 0)),
  .q none (some 44) (.mv (.t 6)),
  .call none (some 45) 38 [(.t 43), (.t 44)],
  .q none (some 42) (.mv (.t 45)),
  .q none (some 46) (.extract (.t 42) 0),
  .q none (some 47) (.extract (.t 42) 1),
  .q none (some 8) (.mv (.t 46)),
  .q none (some 9) (.mv (.t 47))])
 (.kp [8, 9] (.seq (.ops [.call none (some 48) 13 [],
  .q none (some 49) (.mv (.t 48)),
  .q (some (49, true)) (some 50) (.mv (.t 9)),
  .q (some (49, true)) (some 51) (.bin .eql (.t 50) (.k (.d (.int .i64 0)))),
  .q none (some 52) (.pick (.t 49) (.t 51) (.k (.d (.bool false)))),
  .q none (some 53) (.mv (.t 52)),
  .q (some (53, true)) (some 54) (.mv (.t 8)),
  .q none (some 55) (.pick (.t 53) (.t 54) (.k (.d (.bool false)))),
  .q none (some 2) (.mv (.t 55))])
 .ret)))))))))))))))⟩
theorem c10 : chkF Γd.P Γd.E 10 1 i10 = true := by kernel_rfl
noncomputable def i11 : FI := -- cosigner/cosignerlaw01.LexComments
 ⟨174, [.t 6],
 (.seq (.ops [.q none (some 6) (.mv (.k (.d (.bool false))))])
 (.kp [0, 1, 2] (.seq (.seq (.ops [.q none (some 26) (.mv (.t 0)),
  .q none (some 27) (.slen (.t 26)),
  .q none (some 28) (.bin .gtr (.t 27) (.k (.d (.int .i64 400)))),
  .q none (some 29) (.mv (.t 28)),
  .q (some (29, false)) (some 30) (.mv (.t 1)),
  .q (some (29, false)) (some 31) (.slen (.t 30)),
  .q (some (29, false)) (some 32) (.bin .gtr (.t 31) (.k (.d (.int .i64 40)))),
  .q none (some 33) (.pick (.t 29) (.k (.d (.bool true))) (.t 32))])
 (.kp [0, 1, 2, 33] (.cond (.t 33) (.seq (.ops [.call none (some 34) 13 [],
  .q none (some 6) (.mv (.t 34))])
 .ret) .skip)))
 (.kp [0, 1, 2] (.seq (.ops [.q none (some 36) (.mv (.t 0)),
  .call none (some 37) 22 [(.t 36)],
  .q none (some 35) (.mv (.t 37)),
  .q none (some 38) (.extract (.t 35) 0),
  .q none (some 39) (.extract (.t 35) 1),
  .q none (some 40) (.extract (.t 35) 2),
  .e none (some 8) (.alloc 23 [(.d (.int .i64 0)), (.d (.int .i64 0))]),
  .q none (some 7) (.mv (.t 38)),
  .e none none (.store 2 (.t 8) (.t 39)),
  .q none (some 9) (.mv (.t 40))])
 (.kp [0, 1, 2, 7, 9] (.seq (.ops [.q none (some 42) (.mv (.t 0)),
  .call none (some 43) 39 [(.t 42)],
  .q none (some 41) (.mv (.t 43)),
  .q none (some 44) (.extract (.t 41) 0),
  .q none (some 45) (.extract (.t 41) 1),
  .q none (some 10) (.mv (.t 44)),
  .q none (some 11) (.mv (.t 45))])
 (.kp [0, 1, 2, 7, 9, 10, 11] (.seq (.seq (.ops [.q none (some 46) (.mv (.t 9)),
  .q none (some 47) (.bin .neq (.t 46) (.k (.d (.int .i64 0))))])
 (.kp [0, 1, 2, 7, 9, 10, 11, 47] (.cond (.t 47) (.seq (.ops [.call none (some 48) 13 [],
  .q none (some 49) (.mv (.t 48)),
  .q (some (49, true)) (some 50) (.mv (.t 11)),
  .q (some (49, true)) (some 51) (.mv (.t 9)),
  .q (some (49, true)) (some 52) (.bin .eql (.t 50) (.t 51)),
  .q none (some 53) (.pick (.t 49) (.t 52) (.k (.d (.bool false)))),
  .q none (some 6) (.mv (.t 53))])
 .ret) .skip)))
 (.kp [0, 1, 2, 7, 10, 11] (.seq (.ops [.q none (some 55) (.mv (.t 10)),
  .call none (some 56) 22 [(.t 55)],
  .q none (some 54) (.mv (.t 56)),
  .q none (some 57) (.extract (.t 54) 0),
  .q none (some 58) (.extract (.t 54) 1),
  .q none (some 59) (.extract (.t 54) 2),
  .e none (some 13) (.alloc 23 [(.d (.int .i64 0)), (.d (.int .i64 0))]),
  .q none (some 12) (.mv (.t 57)),
  .e none none (.store 2 (.t 13) (.t 58)),
  .q none (some 14) (.mv (.t 59))])
 (.kp [0, 1, 2, 7, 10, 11, 12, 14] (.seq (.ops [.q none (some 61) (.mv (.t 10)),
  .call none (some 62) 31 [(.t 61)],
  .q none (some 60) (.mv (.t 62)),
  .q none (some 63) (.extract (.t 60) 0),
  .q none (some 64) (.extract (.t 60) 1),
  .q none (some 15) (.mv (.t 63)),
  .q none (some 16) (.mv (.t 64))])
 (.kp [0, 1, 2, 7, 10, 11, 12, 14, 15, 16] (.seq (.ops [.q none (some 66) (.mv (.t 10)),
  .call none (some 67) 39 [(.t 66)],
  .q none (some 65) (.mv (.t 67)),
  .q none (some 68) (.extract (.t 65) 0),
  .q none (some 69) (.extract (.t 65) 1),
  .q none (some 17) (.mv (.t 68)),
  .q none (some 18) (.mv (.t 69))])
 (.kp [0, 1, 2, 7, 10, 11, 12, 14, 15, 16, 17, 18] (.seq (.seq (.ops [.q none (some 70) (.mv (.t 11)),
  .q none (some 71) (.bin .neq (.t 70) (.k (.d (.int .i64 0)))),
  .q none (some 72) (.mv (.t 71)),
  .q (some (72, false)) (some 73) (.mv (.t 14)),
  .q (some (72, false)) (some 74) (.bin .neq (.t 73) (.k (.d (.int .i64 0)))),
  .q none (some 75) (.pick (.t 72) (.k (.d (.bool true))) (.t 74)),
  .q none (some 76) (.mv (.t 75)),
  .q (some (76, false)) (some 77) (.mv (.t 16)),
  .q (some (76, false)) (some 78) (.bin .neq (.t 77) (.k (.d (.int .i64 0)))),
  .q none (some 79) (.pick (.t 76) (.k (.d (.bool true))) (.t 78)),
  .q none (some 80) (.mv (.t 79)),
  .q (some (80, false)) (some 81) (.mv (.t 18)),
  .q (some (80, false)) (some 82) (.bin .neq (.t 81) (.k (.d (.int .i64 0)))),
  .q none (some 83) (.pick (.t 80) (.k (.d (.bool true))) (.t 82)),
  .q none (some 84) (.mv (.t 83)),
  .q (some (84, false)) (some 85) (.mv (.t 7)),
  .q (some (84, false)) (some 86) (.mv (.t 12)),
  .call (some (84, false)) (some 87) 24 [(.t 85), (.t 86)],
  .q (some (84, false)) (some 88) (.not (.t 87)),
  .q none (some 89) (.pick (.t 84) (.k (.d (.bool true))) (.t 88)),
  .q none (some 90) (.mv (.t 89)),
  .q (some (90, false)) (some 91) (.mv (.t 15)),
  .q (some (90, false)) (some 92) (.len (.t 91)),
  .q (some (90, false)) (some 93) (.bin .gtr (.t 92) (.k (.d (.int .i64 0)))),
  .q none (some 94) (.pick (.t 90) (.k (.d (.bool true))) (.t 93)),
  .q none (some 95) (.mv (.t 94)),
  .q (some (95, false)) (some 96) (.mv (.t 17)),
  .q (some (95, false)) (some 97) (.mv (.t 10)),
  .q (some (95, false)) (some 98) (.bin .neq (.t 96) (.t 97)),
  .q none (some 99) (.pick (.t 95) (.k (.d (.bool true))) (.t 98))])
 (.kp [0, 1, 2, 7, 99] (.cond (.t 99) (.seq (.ops [.q none (some 6) (.mv (.k (.d (.bool false))))])
 .ret) .skip)))
 (.kp [0, 1, 2, 7] (.seq (.seq (.ops [.q none (some 100) (.mv (.t 7)),
  .q none (some 101) (.len (.t 100)),
  .q none (some 102) (.bin .eql (.t 101) (.k (.d (.int .i64 0))))])
 (.kp [0, 1, 2, 7, 102] (.cond (.t 102) (.seq (.ops [.call none (some 103) 13 [],
  .q none (some 6) (.mv (.t 103))])
 .ret) .skip)))
 (.kp [0, 1, 2, 7] (.seq (.ops [.q none (some 105) (.mv (.t 0)),
  .q none (some 106) (.mv (.t 7)),
  .q none (some 107) (.mv (.t 2)),
  .q none (some 108) (.conv .i64 (.t 107)),
  .q none (some 109) (.mv (.t 7)),
  .q none (some 110) (.len (.t 109)),
  .q none (some 111) (.bin .rem (.t 108) (.t 110)),
  .q none (some 112) (.iaddr 4 (.t 106) (.t 111)),
  .q none (some 113) (.faddr 2 (.t 112)),
  .q none (some 114) (.load 2 true (.t 113)),
  .call none (some 115) 14 [(.t 105), (.t 114)],
  .q none (some 104) (.mv (.t 115)),
  .q none (some 116) (.extract (.t 104) 0),
  .q none (some 117) (.extract (.t 104) 1),
  .q none (some 19) (.mv (.t 116)),
  .q none (some 20) (.mv (.t 117))])
 (.kp [0, 1, 7, 19, 20] (.seq (.seq (.ops [.q none (some 118) (.mv (.t 20)),
  .q none (some 119) (.bin .neq (.t 118) (.k (.d (.int .i64 0))))])
 (.kp [0, 1, 7, 19, 119] (.cond (.t 119) (.seq (.ops [.q none (some 6) (.mv (.k (.d (.bool false))))])
 .ret) .skip)))
 (.kp [0, 1, 7, 19] (.seq (.draw (.q 0 (.q none (some 120) (.mv (.t 0))) (.q 1 (.q none (some 121) (.mv (.t 19))) (.q 2 (.q none (some 122) (.sslice (.t 120) none (some (.t 121)))) (.q 3 (.q none (some 123) (.bin .add (.t 122) (.k (.d (.str [32, 45, 45]))))) (.q 4 (.q none (some 124) (.mv (.t 1))) (.q 5 (.q none (some 125) (.bin .add (.t 123) (.t 124))) (.q 6 (.q none (some 126) (.bin .add (.t 125) (.k (.d (.str [10, 32, 32]))))) (.q 7 (.q none (some 127) (.mv (.t 0))) (.q 8 (.q none (some 128) (.mv (.t 19))) (.q 9 (.q none (some 129) (.sslice (.t 127) (some (.t 128)) none)) (.q 10 (.q none (some 130) (.bin .add (.t 126) (.t 129))) (.q 11 (.q none (some 21) (.mv (.t 130))) .done)))))))))))))
 (.kp [1, 7, 21] (.seq (.ops [.q none (some 132) (.mv (.t 21)),
  .call none (some 133) 22 [(.t 132)],
  .q none (some 131) (.mv (.t 133)),
  .q none (some 134) (.extract (.t 131) 0),
  .q none (some 135) (.extract (.t 131) 1),
  .q none (some 136) (.extract (.t 131) 2),
  .e none (some 23) (.alloc 23 [(.d (.int .i64 0)), (.d (.int .i64 0))]),
  .q none (some 22) (.mv (.t 134)),
  .e none none (.store 2 (.t 23) (.t 135)),
  .q none (some 24) (.mv (.t 136))])
 (.kp [1, 7, 22, 24] (.seq (.seq (.ops [.q none (some 137) (.mv (.t 1)),
  .q none (some 138) (.slen (.t 137)),
  .q none (some 139) (.mv (.k (.d (.int .i64 0))))])
 (.kp [1, 7, 22, 24, 138, 139] (.block 0 (.loop [1, 7, 22, 24, 138, 139] (.seq (.ops [.q none (some 140) (.bin .lss (.t 139) (.t 138))])
 (.kp [1, 7, 22, 24, 138, 139, 140] (.seq (.cond (.t 140) .skip (.exit 0))
 (.kp [1, 7, 22, 24, 138, 139] (.seq (.block 1 (.seq (.ops [.q none (some 141) (.mv (.t 139)),
  .q none (some 25) (.mv (.t 141))])
 (.kp [1, 7, 22, 24, 25, 138, 139] (.seq (.ops [.q none (some 142) (.mv (.t 1)),
  .q none (some 143) (.mv (.t 25)),
  .q none (some 144) (.sindex (.t 142) (.t 143)),
  .q none (some 145) (.bin .lss (.t 144) (.k (.d (.int .u8 32)))),
  .q none (some 146) (.mv (.t 145)),
  .q (some (146, false)) (some 147) (.mv (.t 1)),
  .q (some (146, false)) (some 148) (.mv (.t 25)),
  .q (some (146, false)) (some 149) (.sindex (.t 147) (.t 148)),
  .q (some (146, false)) (some 150) (.bin .gtr (.t 149) (.k (.d (.int .u8 126)))),
  .q none (some 151) (.pick (.t 146) (.k (.d (.bool true))) (.t 150))])
 (.kp [1, 7, 22, 24, 25, 138, 139, 151] (.cond (.t 151) (.seq (.ops [.call none (some 152) 13 [],
  .q none (some 153) (.mv (.t 152)),
  .q (some (153, true)) (some 154) (.mv (.t 24)),
  .q (some (153, true)) (some 155) (.bin .neq (.t 154) (.k (.d (.int .i64 0)))),
  .q (some (153, true)) (some 156) (.mv (.t 155)),
  .q (some (156, false)) (some 157) (.mv (.t 1)),
  .q (some (156, false)) (some 158) (.mv (.t 25)),
  .q (some (156, false)) (some 159) (.sindex (.t 157) (.t 158)),
  .q (some (156, false)) (some 160) (.bin .eql (.t 159) (.k (.d (.int .u8 10)))),
  .q (some (153, true)) (some 161) (.pick (.t 156) (.k (.d (.bool true))) (.t 160)),
  .q none (some 162) (.pick (.t 153) (.t 161) (.k (.d (.bool false)))),
  .q none (some 6) (.mv (.t 162))])
 .ret) .skip))))))
 (.kp [1, 7, 22, 24, 138, 139] (.ops [.q none (some 163) (.bin .add (.t 139) (.k (.d (.int .i64 1)))),
  .q none (some 139) (.mv (.t 163))])))))))))))
 (.kp [7, 22, 24] (.seq (.ops [.call none (some 164) 13 [],
  .q none (some 165) (.mv (.t 164)),
  .q (some (165, true)) (some 166) (.mv (.t 24)),
  .q (some (165, true)) (some 167) (.bin .eql (.t 166) (.k (.d (.int .i64 0)))),
  .q none (some 168) (.pick (.t 165) (.t 167) (.k (.d (.bool false)))),
  .q none (some 169) (.mv (.t 168)),
  .q (some (169, true)) (some 170) (.mv (.t 22)),
  .q (some (169, true)) (some 171) (.mv (.t 7)),
  .call (some (169, true)) (some 172) 29 [(.t 170), (.t 171)],
  .q none (some 173) (.pick (.t 169) (.t 172) (.k (.d (.bool false)))),
  .q none (some 6) (.mv (.t 173))])
 .ret)))))))))))))))))))))))))))))))⟩
theorem c11 : chkF Γd.P Γd.E 11 3 i11 = true := by kernel_rfl
noncomputable def i12 : FI := -- cosigner/cosignerlaw01.short
 ⟨16, [.t 2],
 (.seq (.ops [.q none (some 2) (.mv (.k (.d (.bool false))))])
 (.kp [0] (.seq (.ops [.q none (some 3) (.mv (.t 0)),
  .q none (some 4) (.slen (.t 3)),
  .q none (some 5) (.bin .leq (.t 4) (.k (.d (.int .i64 400)))),
  .q none (some 6) (.mv (.t 5)),
  .q (some (6, false)) (some 7) (.mv (.t 0)),
  .q (some (6, false)) (some 8) (.slen (.t 7)),
  .q (some (6, false)) (some 9) (.bin .gtr (.t 8) (.k (.d (.int .i64 20000)))),
  .q (some (6, false)) (some 10) (.mv (.t 9)),
  .q (some (10, true)) (some 11) (.mv (.t 0)),
  .q (some (10, true)) (some 12) (.slen (.t 11)),
  .q (some (10, true)) (some 13) (.bin .leq (.t 12) (.k (.d (.int .i64 20100)))),
  .q (some (6, false)) (some 14) (.pick (.t 10) (.t 13) (.k (.d (.bool false)))),
  .q none (some 15) (.pick (.t 6) (.k (.d (.bool true))) (.t 14)),
  .q none (some 2) (.mv (.t 15))])
 .ret)))⟩
theorem c12 : chkF Γd.P Γd.E 12 1 i12 = true := by kernel_rfl
noncomputable def i13 : FI := -- cosigner/cosignerlaw01.sanity
 ⟨213, [.t 0],
 (.seq (.ops [.q none (some 0) (.mv (.k (.d (.bool false))))])
 (.kp [] (.seq (.ops [.call none (some 32) 22 [(.k (.d (.str [120, 32, 58, 61, 32, 97, 47, 47, 50, 32, 45, 45, 32, 104, 97, 108, 102])))],
  .q none (some 31) (.mv (.t 32)),
  .q none (some 33) (.extract (.t 31) 0),
  .q none (some 34) (.extract (.t 31) 1),
  .q none (some 35) (.extract (.t 31) 2),
  .e none (some 2) (.alloc 23 [(.d (.int .i64 0)), (.d (.int .i64 0))]),
  .q none (some 1) (.mv (.t 33)),
  .e none none (.store 2 (.t 2) (.t 34)),
  .q none (some 3) (.mv (.t 35))])
 (.kp [1, 3] (.seq (.ops [.call none (some 37) 22 [(.k (.d (.str [65, 46, 98, 10, 32, 48, 49])))],
  .q none (some 36) (.mv (.t 37)),
  .q none (some 38) (.extract (.t 36) 0),
  .q none (some 39) (.extract (.t 36) 1),
  .q none (some 40) (.extract (.t 36) 2),
  .e none (some 5) (.alloc 23 [(.d (.int .i64 0)), (.d (.int .i64 0))]),
  .q none (some 4) (.mv (.t 38)),
  .e none none (.store 2 (.t 5) (.t 39)),
  .q none (some 6) (.mv (.t 40))])
 (.kp [1, 3, 5, 6] (.seq (.ops [.call none (some 42) 22 [(.k (.d (.str [114, 101, 115, 117, 108, 116])))],
  .q none (some 41) (.mv (.t 42)),
  .q none (some 43) (.extract (.t 41) 0),
  .q none (some 44) (.extract (.t 41) 1),
  .q none (some 45) (.extract (.t 41) 2),
  .e none (some 8) (.alloc 23 [(.d (.int .i64 0)), (.d (.int .i64 0))]),
  .q none (some 7) (.mv (.t 43)),
  .e none none (.store 2 (.t 8) (.t 44)),
  .q none (some 9) (.mv (.t 45))])
 (.kp [1, 3, 5, 6, 9] (.seq (.ops [.call none (some 47) 22 [(.k (.d (.str [82, 101, 115, 117, 108, 116, 115])))],
  .q none (some 46) (.mv (.t 47)),
  .q none (some 48) (.extract (.t 46) 0),
  .q none (some 49) (.extract (.t 46) 1),
  .q none (some 50) (.extract (.t 46) 2),
  .e none (some 11) (.alloc 23 [(.d (.int .i64 0)), (.d (.int .i64 0))]),
  .q none (some 10) (.mv (.t 48)),
  .e none none (.store 2 (.t 11) (.t 49)),
  .q none (some 12) (.mv (.t 50))])
 (.kp [1, 3, 5, 6, 9, 12] (.seq (.ops [.q none (some 52) (.build [(.int .i64 0), (.str []), (.int .i64 0), (.int .i64 0)] [(0, 1, (.k (.d (.int .i64 3)))), (1, 1, (.k (.d (.str [105, 102]))))]),
  .q none (some 53) (.build [(.int .i64 0), (.str []), (.int .i64 0), (.int .i64 0)] [(0, 1, (.k (.d (.int .i64 1)))), (1, 1, (.k (.d (.str [97]))))]),
  .q none (some 54) (.build [(.int .i64 0), (.str []), (.int .i64 0), (.int .i64 0)] [(0, 1, (.k (.d (.int .i64 5)))), (1, 1, (.k (.d (.str [60]))))]),
  .q none (some 55) (.build [(.int .i64 0), (.str []), (.int .i64 0), (.int .i64 0)] [(0, 1, (.k (.d (.int .i64 5)))), (1, 1, (.k (.d (.str [61]))))]),
  .q none (some 56) (.build [(.int .i64 0), (.str []), (.int .i64 0), (.int .i64 0)] [(0, 1, (.k (.d (.int .i64 3)))), (1, 1, (.k (.d (.str [116, 104, 101, 110]))))]),
  .e none (some 57) (.bslice 4 [(.t 52), (.t 53), (.t 54), (.t 55), (.t 56)]),
  .call none (some 58) 28 [(.t 57)],
  .q none (some 51) (.mv (.t 58)),
  .q none (some 59) (.extract (.t 51) 0),
  .q none (some 60) (.extract (.t 51) 1),
  .q none (some 13) (.mv (.t 59)),
  .q none (some 14) (.mv (.t 60))])
 (.kp [1, 3, 5, 6, 9, 12, 13, 14] (.seq (.ops [.call none (some 62) 40 [(.k (.d (.int .i64 2))), (.k (.d (.int .i64 3)))],
  .call none (some 63) 14 [(.k (.d (.str [97, 98, 10, 99, 100]))), (.t 62)],
  .q none (some 61) (.mv (.t 63)),
  .q none (some 64) (.extract (.t 61) 0),
  .q none (some 65) (.extract (.t 61) 1),
  .q none (some 15) (.mv (.t 64)),
  .q none (some 16) (.mv (.t 65))])
 (.kp [1, 3, 5, 6, 9, 12, 13, 14, 15, 16] (.seq (.ops [.call none (some 67) 40 [(.k (.d (.int .i64 2))), (.k (.d (.int .i64 4)))],
  .call none (some 68) 14 [(.k (.d (.str [97, 98, 10, 99, 100]))), (.t 67)],
  .q none (some 66) (.mv (.t 68)),
  .q none (some 69) (.extract (.t 66) 0),
  .q none (some 70) (.extract (.t 66) 1),
  .q none (some 17) (.mv (.t 69)),
  .q none (some 18) (.mv (.t 70))])
 (.kp [1, 3, 5, 6, 9, 12, 13, 14, 15, 16, 18] (.seq (.ops [.call none (some 72) 22 [(.k (.d (.str [97, 10, 98, 32, 99, 10, 100])))],
  .q none (some 71) (.mv (.t 72)),
  .q none (some 73) (.extract (.t 71) 0),
  .q none (some 74) (.extract (.t 71) 1),
  .q none (some 75) (.extract (.t 71) 2),
  .e none (some 20) (.alloc 23 [(.d (.int .i64 0)), (.d (.int .i64 0))]),
  .q none (some 19) (.mv (.t 73)),
  .e none none (.store 2 (.t 20) (.t 74)),
  .q none (some 21) (.mv (.t 75))])
 (.kp [1, 3, 5, 6, 9, 12, 13, 14, 15, 16, 18, 19, 21] (.seq (.ops [.q none (some 77) (.mv (.t 19)),
  .q none (some 78) (.build [(.int .i64 0), (.int .i64 0), (.str [])] [(0, 1, (.k (.d (.int .i64 2)))), (1, 1, (.k (.d (.int .i64 3)))), (2, 1, (.k (.d (.str [120, 10, 121]))))]),
  .call none (some 79) 25 [(.t 77), (.k (.d (.str [97, 10, 98, 32, 99, 10, 100]))), (.t 78)],
  .q none (some 76) (.mv (.t 79)),
  .q none (some 80) (.extract (.t 76) 0),
  .q none (some 81) (.extract (.t 76) 1),
  .q none (some 82) (.extract (.t 76) 2),
  .q none (some 83) (.extract (.t 76) 3),
  .e none (some 24) (.alloc 23 [(.d (.int .i64 0)), (.d (.int .i64 0))]),
  .q none (some 22) (.mv (.t 80)),
  .q none (some 23) (.mv (.t 81)),
  .e none none (.store 2 (.t 24) (.t 82)),
  .q none (some 25) (.mv (.t 83))])
 (.kp [1, 3, 5, 6, 9, 12, 13, 14, 15, 16, 18, 21, 22, 23, 25] (.seq (.ops [.e none (some 85) (.bslice 1 [(.k (.d (.str [97]))), (.k (.d (.str [98, 10])))]),
  .call none (some 86) 20 [(.t 85)],
  .q none (some 84) (.mv (.t 86)),
  .q none (some 87) (.extract (.t 84) 0),
  .q none (some 88) (.extract (.t 84) 1),
  .q none (some 89) (.extract (.t 84) 2),
  .q none (some 26) (.mv (.t 87)),
  .q none (some 27) (.mv (.t 88)),
  .q none (some 28) (.mv (.t 89))])
 (.kp [1, 3, 5, 6, 9, 12, 13, 14, 15, 16, 18, 21, 22, 23, 25, 26, 27, 28] (.seq (.seq (.ops [.q none (some 90) (.mv (.t 3)),
  .q none (some 91) (.bin .neq (.t 90) (.k (.d (.int .i64 0)))),
  .q none (some 92) (.mv (.t 91)),
  .q (some (92, false)) (some 93) (.mv (.t 6)),
  .q (some (92, false)) (some 94) (.bin .neq (.t 93) (.k (.d (.int .i64 2)))),
  .q none (some 95) (.pick (.t 92) (.k (.d (.bool true))) (.t 94)),
  .q none (some 96) (.mv (.t 95)),
  .q (some (96, false)) (some 97) (.mv (.t 9)),
  .q (some (96, false)) (some 98) (.bin .neq (.t 97) (.k (.d (.int .i64 4)))),
  .q none (some 99) (.pick (.t 96) (.k (.d (.bool true))) (.t 98)),
  .q none (some 100) (.mv (.t 99)),
  .q (some (100, false)) (some 101) (.mv (.t 12)),
  .q (some (100, false)) (some 102) (.bin .neq (.t 101) (.k (.d (.int .i64 2)))),
  .q none (some 103) (.pick (.t 100) (.k (.d (.bool true))) (.t 102)),
  .q none (some 104) (.mv (.t 103)),
  .q (some (104, false)) (some 105) (.mv (.t 14)),
  .q (some (104, false)) (some 106) (.bin .neq (.t 105) (.k (.d (.int .i64 0)))),
  .q none (some 107) (.pick (.t 104) (.k (.d (.bool true))) (.t 106)),
  .q none (some 108) (.mv (.t 107)),
  .q (some (108, false)) (some 109) (.mv (.t 16)),
  .q (some (108, false)) (some 110) (.bin .neq (.t 109) (.k (.d (.int .i64 0)))),
  .q none (some 111) (.pick (.t 108) (.k (.d (.bool true))) (.t 110)),
  .q none (some 112) (.mv (.t 111)),
  .q (some (112, false)) (some 113) (.mv (.t 18)),
  .q (some (112, false)) (some 114) (.bin .neq (.t 113) (.k (.d (.int .i64 1)))),
  .q none (some 115) (.pick (.t 112) (.k (.d (.bool true))) (.t 114)),
  .q none (some 116) (.mv (.t 115)),
  .q (some (116, false)) (some 117) (.mv (.t 21)),
  .q (some (116, false)) (some 118) (.bin .neq (.t 117) (.k (.d (.int .i64 0)))),
  .q none (some 119) (.pick (.t 116) (.k (.d (.bool true))) (.t 118)),
  .q none (some 120) (.mv (.t 119)),
  .q (some (120, false)) (some 121) (.mv (.t 25)),
  .q (some (120, false)) (some 122) (.bin .neq (.t 121) (.k (.d (.int .i64 0)))),
  .q none (some 123) (.pick (.t 120) (.k (.d (.bool true))) (.t 122)),
  .q none (some 124) (.mv (.t 123)),
  .q (some (124, false)) (some 125) (.mv (.t 28)),
  .q (some (124, false)) (some 126) (.bin .neq (.t 125) (.k (.d (.int .i64 0)))),
  .q none (some 127) (.pick (.t 124) (.k (.d (.bool true))) (.t 126)),
  .q none (some 128) (.mv (.t 127)),
  .q (some (128, false)) (some 129) (.mv (.t 1)),
  .q (some (128, false)) (some 130) (.len (.t 129)),
  .q (some (128, false)) (some 131) (.bin .neq (.t 130) (.k (.d (.int .i64 5)))),
  .q none (some 132) (.pick (.t 128) (.k (.d (.bool true))) (.t 131)),
  .q none (some 133) (.mv (.t 132)),
  .q (some (133, false)) (some 134) (.mv (.t 22)),
  .q (some (133, false)) (some 135) (.len (.t 134)),
  .q (some (133, false)) (some 136) (.bin .neq (.t 135) (.k (.d (.int .i64 5)))),
  .q none (some 137) (.pick (.t 133) (.k (.d (.bool true))) (.t 136)),
  .q none (some 138) (.mv (.t 137)),
  .q (some (138, false)) (some 139) (.mv (.t 27)),
  .q (some (138, false)) (some 140) (.len (.t 139)),
  .q (some (138, false)) (some 141) (.bin .neq (.t 140) (.k (.d (.int .i64 2)))),
  .q none (some 142) (.pick (.t 138) (.k (.d (.bool true))) (.t 141))])
 (.kp [1, 5, 13, 15, 22, 23, 26, 27, 142] (.cond (.t 142) (.seq (.ops [.q none (some 0) (.mv (.k (.d (.bool false))))])
 .ret) .skip)))
 (.kp [1, 5, 13, 15, 22, 23, 26, 27] (.seq (.draw (.q 0 (.q none (some 143) (.mv (.t 1))) (.q 1 (.q none (some 144) (.iaddr 4 (.t 143) (.k (.d (.int .i64 1))))) (.q 2 (.q none (some 145) (.load 4 true (.t 144))) (.br (.cons 3 [] (.call none (some 146) 40 [(.k (.d (.int .i64 1))), (.k (.d (.int .i64 3)))]) (.q 4 (.q none (some 147) (.build [(.int .i64 0), (.str []), (.int .i64 0), (.int .i64 0)] [(0, 1, (.k (.d (.int .i64 5)))), (1, 1, (.k (.d (.str [58, 61])))), (2, 2, (.t 146))])) (.q 5 (.q none (some 148) (.eqs false [.int .i64, .str, .int .i64, .int .i64] (.t 145) (.t 147))) (.q 6 (.q none (some 149) (.mv (.t 148))) (.q 7 (.q (some (149, true)) (some 150) (.mv (.t 1))) (.q 8 (.q (some (149, true)) (some 151) (.iaddr 4 (.t 150) (.k (.d (.int .i64 4))))) (.q 9 (.q (some (149, true)) (some 152) (.load 4 true (.t 151))) (.br (.cons 10 [6] (.call (some (149, true)) (some 153) 40 [(.k (.d (.int .i64 1))), (.k (.d (.int .i64 9)))]) (.q 11 (.q (some (149, true)) (some 154) (.build [(.int .i64 0), (.str []), (.int .i64 0), (.int .i64 0)] [(0, 1, (.k (.d (.int .i64 4)))), (1, 1, (.k (.d (.str [50])))), (2, 2, (.t 153))])) (.q 12 (.q (some (149, true)) (some 155) (.eqs false [.int .i64, .str, .int .i64, .int .i64] (.t 152) (.t 154))) (.q 13 (.q none (some 156) (.pick (.t 149) (.t 155) (.k (.d (.bool false))))) (.q 14 (.q none (some 157) (.mv (.t 156))) (.q 15 (.q (some (157, true)) (some 158) (.load 2 true (.t 5))) (.br (.cons 16 [14] (.call (some (157, true)) (some 159) 40 [(.k (.d (.int .i64 2))), (.k (.d (.int .i64 2)))]) (.q 17 (.q (some (157, true)) (some 160) (.eqs false [.int .i64, .int .i64] (.t 158) (.t 159))) (.q 18 (.q none (some 161) (.pick (.t 157) (.t 160) (.k (.d (.bool false))))) (.q 19 (.q none (some 162) (.mv (.t 161))) (.q 20 (.q (some (162, true)) (some 163) (.mv (.t 13))) (.q 21 (.q (some (162, true)) (some 164) (.bin .eql (.t 163) (.k (.d (.str [105, 102, 32, 97, 60, 32, 61, 116, 104, 101, 110]))))) (.q 22 (.q none (some 165) (.pick (.t 162) (.t 164) (.k (.d (.bool false))))) (.q 23 (.q none (some 166) (.mv (.t 165))) (.q 24 (.q (some (166, true)) (some 167) (.mv (.t 15))) (.q 25 (.q (some (166, true)) (some 168) (.bin .eql (.t 167) (.k (.d (.int .i64 5))))) (.q 26 (.q none (some 169) (.pick (.t 166) (.t 168) (.k (.d (.bool false))))) (.q 27 (.q none (some 29) (.mv (.t 169))) .done))))))))))) .nil))))))) .nil)))))))) .nil))))))
 (.kp [22, 23, 26, 27, 29] (.seq (.draw (.q 0 (.q none (some 170) (.mv (.t 22))) (.q 1 (.q none (some 171) (.iaddr 4 (.t 170) (.k (.d (.int .i64 2))))) (.q 2 (.q none (some 172) (.load 4 true (.t 171))) (.br (.cons 3 [] (.call none (some 173) 40 [(.k (.d (.int .i64 3))), (.k (.d (.int .i64 1)))]) (.q 4 (.q none (some 174) (.build [(.int .i64 0), (.str []), (.int .i64 0), (.int .i64 0)] [(0, 1, (.k (.d (.int .i64 1)))), (1, 1, (.k (.d (.str [121])))), (2, 2, (.t 173))])) (.q 5 (.q none (some 175) (.eqs false [.int .i64, .str, .int .i64, .int .i64] (.t 172) (.t 174))) (.q 6 (.q none (some 176) (.mv (.t 175))) (.q 7 (.q (some (176, true)) (some 177) (.mv (.t 22))) (.q 8 (.q (some (176, true)) (some 178) (.iaddr 4 (.t 177) (.k (.d (.int .i64 4))))) (.q 9 (.q (some (176, true)) (some 179) (.faddr 2 (.t 178))) (.q 10 (.q (some (176, true)) (some 180) (.load 2 true (.t 179))) (.br (.cons 11 [6] (.call (some (176, true)) (some 181) 40 [(.k (.d (.int .i64 4))), (.k (.d (.int .i64 1)))]) (.q 12 (.q (some (176, true)) (some 182) (.eqs false [.int .i64, .int .i64] (.t 180) (.t 181))) (.q 13 (.q none (some 183) (.pick (.t 176) (.t 182) (.k (.d (.bool false))))) (.q 14 (.q none (some 184) (.mv (.t 183))) (.q 15 (.q (some (184, true)) (some 185) (.mv (.t 23))) (.q 16 (.q (some (184, true)) (some 186) (.bin .eql (.t 185) (.k (.d (.int .i64 3))))) (.q 17 (.q none (some 187) (.pick (.t 184) (.t 186) (.k (.d (.bool false))))) (.q 18 (.q none (some 188) (.mv (.t 187))) (.q 19 (.q (some (188, true)) (some 189) (.mv (.t 26))) (.q 20 (.q (some (188, true)) (some 190) (.bin .eql (.t 189) (.k (.d (.str [97, 10, 98, 10, 10]))))) (.q 21 (.q none (some 191) (.pick (.t 188) (.t 190) (.k (.d (.bool false))))) (.q 22 (.q none (some 192) (.mv (.t 191))) (.q 23 (.q (some (192, true)) (some 193) (.mv (.t 27))) (.q 24 (.q (some (192, true)) (some 194) (.iaddr 1 (.t 193) (.k (.d (.int .i64 0))))) (.q 25 (.q (some (192, true)) (some 195) (.load 1 false (.t 194))) (.q 26 (.q (some (192, true)) (some 196) (.bin .eql (.t 195) (.k (.d (.int .i64 1))))) (.q 27 (.q none (some 197) (.pick (.t 192) (.t 196) (.k (.d (.bool false))))) (.q 28 (.q none (some 198) (.mv (.t 197))) (.q 29 (.q (some (198, true)) (some 199) (.mv (.t 27))) (.q 30 (.q (some (198, true)) (some 200) (.iaddr 1 (.t 199) (.k (.d (.int .i64 1))))) (.q 31 (.q (some (198, true)) (some 201) (.load 1 false (.t 200))) (.q 32 (.q (some (198, true)) (some 202) (.bin .eql (.t 201) (.k (.d (.int .i64 2))))) (.q 33 (.q none (some 203) (.pick (.t 198) (.t 202) (.k (.d (.bool false))))) (.q 34 (.q none (some 30) (.mv (.t 203))) .done))))))))))))))))))))))) .nil))))))))) .nil))))))
 (.kp [29, 30] (.seq (.ops [.q none (some 204) (.mv (.t 29)),
  .q none (some 205) (.mv (.t 204)),
  .q (some (205, true)) (some 206) (.mv (.t 30)),
  .q none (some 207) (.pick (.t 205) (.t 206) (.k (.d (.bool false)))),
  .q none (some 208) (.mv (.t 207)),
  .call (some (208, true)) (some 209) 36 [],
  .q (some (208, true)) (some 210) (.len (.t 209)),
  .q (some (208, true)) (some 211) (.bin .eql (.t 210) (.k (.d (.int .i64 37)))),
  .q none (some 212) (.pick (.t 208) (.t 211) (.k (.d (.bool false)))),
  .q none (some 0) (.mv (.t 212))])
 .ret)))))))))))))))))))))))))))))⟩
theorem c13 : chkF Γd.P Γd.E 13 0 i13 = true := by kernel_rfl
noncomputable def i14 : FI := -- cosigner/lex.Offset
 ⟨60, [.t 4, .t 5],
 (.seq (.ops [.e none (some 3) (.box 23 (.t 1)),
  .q none (some 4) (.mv (.k (.d (.int .i64 0)))),
  .q none (some 5) (.mv (.k (.d (.int .i64 0))))])
 (.kp [0, 3] (.seq (.ops [.q none (some 10) (.mv (.t 0)),
  .call none (some 11) 23 [(.t 10), (.k (.d (.str [10])))],
  .q none (some 6) (.mv (.t 11))])
 (.kp [3, 6] (.seq (.seq (.draw (.q 0 (.q none (some 12) (.faddr 0 (.t 3))) (.q 1 (.q none (some 13) (.load 1 false (.t 12))) (.q 2 (.q none (some 14) (.bin .lss (.t 13) (.k (.d (.int .i64 1))))) (.q 3 (.q none (some 15) (.mv (.t 14))) (.q 4 (.q (some (15, false)) (some 16) (.faddr 0 (.t 3))) (.q 5 (.q (some (15, false)) (some 17) (.load 1 false (.t 16))) (.q 6 (.q (some (15, false)) (some 18) (.mv (.t 6))) (.q 7 (.q (some (15, false)) (some 19) (.len (.t 18))) (.q 8 (.q (some (15, false)) (some 20) (.bin .gtr (.t 17) (.t 19))) (.q 9 (.q none (some 21) (.pick (.t 15) (.k (.d (.bool true))) (.t 20))) (.q 10 (.q none (some 22) (.mv (.t 21))) (.q 11 (.q (some (22, false)) (some 23) (.faddr 1 (.t 3))) (.q 12 (.q (some (22, false)) (some 24) (.load 1 false (.t 23))) (.q 13 (.q (some (22, false)) (some 25) (.bin .lss (.t 24) (.k (.d (.int .i64 1))))) (.q 14 (.q none (some 26) (.pick (.t 22) (.k (.d (.bool true))) (.t 25))) (.q 15 (.q none (some 27) (.mv (.t 26))) (.q 16 (.q (some (27, false)) (some 28) (.faddr 1 (.t 3))) (.q 17 (.q (some (27, false)) (some 29) (.load 1 false (.t 28))) (.q 18 (.q (some (27, false)) (some 30) (.mv (.t 6))) (.q 19 (.q (some (27, false)) (some 31) (.faddr 0 (.t 3))) (.q 20 (.q (some (27, false)) (some 32) (.load 1 false (.t 31))) (.q 21 (.q (some (27, false)) (some 33) (.bin .sub (.t 32) (.k (.d (.int .i64 1))))) (.q 22 (.q (some (27, false)) (some 34) (.iaddr 1 (.t 30) (.t 33))) (.q 23 (.q (some (27, false)) (some 35) (.load 1 false (.t 34))) (.q 24 (.q (some (27, false)) (some 36) (.slen (.t 35))) (.q 25 (.q (some (27, false)) (some 37) (.bin .add (.t 36) (.k (.d (.int .i64 1))))) (.q 26 (.q (some (27, false)) (some 38) (.bin .gtr (.t 29) (.t 37))) (.q 27 (.q none (some 39) (.pick (.t 27) (.k (.d (.bool true))) (.t 38))) .done)))))))))))))))))))))))))))))
 (.kp [3, 6, 39] (.cond (.t 39) (.seq (.ops [.q none (some 4) (.mv (.k (.d (.int .i64 0)))),
  .q none (some 5) (.mv (.k (.d (.int .i64 1))))])
 .ret) .skip)))
 (.kp [3, 6] (.seq (.ops [.q none (some 40) (.faddr 1 (.t 3)),
  .q none (some 41) (.load 1 false (.t 40)),
  .q none (some 42) (.bin .sub (.t 41) (.k (.d (.int .i64 1)))),
  .q none (some 7) (.mv (.t 42))])
 (.kp [3, 6, 7] (.seq (.seq (.ops [.q none (some 43) (.mv (.t 6)),
  .q none (some 44) (.faddr 0 (.t 3)),
  .q none (some 45) (.load 1 false (.t 44)),
  .q none (some 46) (.bin .sub (.t 45) (.k (.d (.int .i64 1)))),
  .q none (some 47) (.lslice 1 (.t 43) none (some (.t 46))),
  .q none (some 48) (.len (.t 47)),
  .q none (some 49) (.mv (.k (.d (.int .i64 0))))])
 (.kp [7, 47, 48, 49] (.block 0 (.loop [7, 47, 48, 49] (.seq (.ops [.q none (some 50) (.bin .lss (.t 49) (.t 48))])
 (.kp [7, 47, 48, 49, 50] (.seq (.cond (.t 50) .skip (.exit 0))
 (.kp [7, 47, 48, 49] (.seq (.block 1 (.seq (.ops [.q none (some 51) (.iaddr 1 (.t 47) (.t 49)),
  .q none (some 52) (.load 1 false (.t 51)),
  .q none (some 9) (.mv (.t 52))])
 (.kp [7, 9, 47, 48, 49] (.ops [.q none (some 53) (.mv (.t 7)),
  .q none (some 54) (.mv (.t 9)),
  .q none (some 55) (.slen (.t 54)),
  .q none (some 56) (.bin .add (.t 55) (.k (.d (.int .i64 1)))),
  .q none (some 57) (.bin .add (.t 53) (.t 56)),
  .q none (some 7) (.mv (.t 57))]))))
 (.kp [7, 47, 48, 49] (.ops [.q none (some 58) (.bin .add (.t 49) (.k (.d (.int .i64 1)))),
  .q none (some 49) (.mv (.t 58))])))))))))))
 (.kp [7] (.seq (.ops [.q none (some 59) (.mv (.t 7)),
  .q none (some 4) (.mv (.t 59)),
  .q none (some 5) (.mv (.k (.d (.int .i64 0))))])
 .ret)))))))))))⟩
theorem c14 : chkF Γd.P Γd.E 14 2 i14 = true := by kernel_rfl
noncomputable def i15 : FI := -- cosigner/cosignerref01.Offset
 ⟨60, [.c 4 2 true],
 (.seq (.ops [.e none (some 3) (.box 23 (.t 1)),
  .e none (some 4) (.alloc 33 [(.d (.int .i64 0)), (.d (.int .i64 0))])])
 (.kp [0, 3, 4] (.seq (.ops [.q none (some 8) (.mv (.t 0)),
  .call none (some 9) 41 [(.t 8)],
  .q none (some 5) (.mv (.t 9))])
 (.kp [3, 4, 5] (.seq (.seq (.draw (.q 0 (.q none (some 10) (.faddr 0 (.t 3))) (.q 1 (.q none (some 11) (.load 1 false (.t 10))) (.q 2 (.q none (some 12) (.bin .lss (.t 11) (.k (.d (.int .i64 1))))) (.q 3 (.q none (some 13) (.mv (.t 12))) (.q 4 (.q (some (13, false)) (some 14) (.faddr 0 (.t 3))) (.q 5 (.q (some (13, false)) (some 15) (.load 1 false (.t 14))) (.q 6 (.q (some (13, false)) (some 16) (.mv (.t 5))) (.q 7 (.q (some (13, false)) (some 17) (.len (.t 16))) (.q 8 (.q (some (13, false)) (some 18) (.bin .gtr (.t 15) (.t 17))) (.q 9 (.q none (some 19) (.pick (.t 13) (.k (.d (.bool true))) (.t 18))) (.q 10 (.q none (some 20) (.mv (.t 19))) (.q 11 (.q (some (20, false)) (some 21) (.faddr 1 (.t 3))) (.q 12 (.q (some (20, false)) (some 22) (.load 1 false (.t 21))) (.q 13 (.q (some (20, false)) (some 23) (.bin .lss (.t 22) (.k (.d (.int .i64 1))))) (.q 14 (.q none (some 24) (.pick (.t 20) (.k (.d (.bool true))) (.t 23))) (.q 15 (.q none (some 25) (.mv (.t 24))) (.q 16 (.q (some (25, false)) (some 26) (.faddr 1 (.t 3))) (.q 17 (.q (some (25, false)) (some 27) (.load 1 false (.t 26))) (.q 18 (.q (some (25, false)) (some 28) (.mv (.t 5))) (.q 19 (.q (some (25, false)) (some 29) (.faddr 0 (.t 3))) (.q 20 (.q (some (25, false)) (some 30) (.load 1 false (.t 29))) (.q 21 (.q (some (25, false)) (some 31) (.bin .sub (.t 30) (.k (.d (.int .i64 1))))) (.q 22 (.q (some (25, false)) (some 32) (.mx (.k (.d (.int .i64 0))) [(.t 31)])) (.q 23 (.q (some (25, false)) (some 33) (.iaddr 1 (.t 28) (.t 32))) (.q 24 (.q (some (25, false)) (some 34) (.load 1 false (.t 33))) (.q 25 (.q (some (25, false)) (some 35) (.slen (.t 34))) (.q 26 (.q (some (25, false)) (some 36) (.bin .add (.t 35) (.k (.d (.int .i64 1))))) (.q 27 (.q (some (25, false)) (some 37) (.bin .gtr (.t 27) (.t 36))) (.q 28 (.q none (some 38) (.pick (.t 25) (.k (.d (.bool true))) (.t 37))) .done))))))))))))))))))))))))))))))
 (.kp [3, 4, 5, 38] (.cond (.t 38) (.seq (.ops [.q none (some 39) (.build [(.int .i64 0), (.int .i64 0)] [(1, 1, (.k (.d (.int .i64 1))))]),
  .e none none (.store 2 (.t 4) (.t 39))])
 .ret) .skip)))
 (.kp [3, 4, 5] (.seq (.ops [.q none (some 40) (.faddr 1 (.t 3)),
  .q none (some 41) (.load 1 false (.t 40)),
  .q none (some 42) (.bin .sub (.t 41) (.k (.d (.int .i64 1)))),
  .q none (some 6) (.mv (.t 42))])
 (.kp [3, 4, 5, 6] (.seq (.seq (.ops [.q none (some 7) (.mv (.k (.d (.int .i64 0))))])
 (.kp [3, 4, 5, 6, 7] (.block 0 (.loop [3, 4, 5, 6, 7] (.seq (.seq (.ops [.q none (some 43) (.mv (.t 7)),
  .q none (some 44) (.faddr 0 (.t 3)),
  .q none (some 45) (.load 1 false (.t 44)),
  .q none (some 46) (.bin .sub (.t 45) (.k (.d (.int .i64 1)))),
  .q none (some 47) (.bin .lss (.t 43) (.t 46))])
 (.kp [3, 4, 5, 6, 7, 47] (.cond (.t 47) .skip (.exit 0))))
 (.kp [3, 4, 5, 6, 7] (.seq (.block 1 (.ops [.q none (some 50) (.mv (.t 6)),
  .q none (some 51) (.mv (.t 5)),
  .q none (some 52) (.mv (.t 7)),
  .q none (some 53) (.iaddr 1 (.t 51) (.t 52)),
  .q none (some 54) (.load 1 false (.t 53)),
  .q none (some 55) (.slen (.t 54)),
  .q none (some 56) (.bin .add (.t 50) (.t 55)),
  .q none (some 57) (.bin .add (.t 56) (.k (.d (.int .i64 1)))),
  .q none (some 6) (.mv (.t 57))]))
 (.kp [3, 4, 5, 6, 7] (.ops [.q none (some 48) (.mv (.t 7)),
  .q none (some 49) (.bin .add (.t 48) (.k (.d (.int .i64 1)))),
  .q none (some 7) (.mv (.t 49))])))))))))
 (.kp [4, 6] (.seq (.ops [.q none (some 58) (.mv (.t 6)),
  .q none (some 59) (.build [(.int .i64 0), (.int .i64 0)] [(0, 1, (.t 58))]),
  .e none none (.store 2 (.t 4) (.t 59))])
 .ret)))))))))))⟩
theorem c15 : chkF Γd.P Γd.E 15 2 i15 = true := by kernel_rfl
noncomputable def i16 : FI := -- cosigner/lex.PlaceOf
 ⟨27, [.c 4 2 true, .t 5],
 (.seq (.ops [.e none (some 4) (.alloc 23 [(.d (.int .i64 0)), (.d (.int .i64 0))]),
  .q none (some 5) (.mv (.k (.d (.int .i64 0))))])
 (.kp [0, 1, 4] (.seq (.seq (.ops [.q none (some 7) (.mv (.t 1)),
  .q none (some 8) (.bin .lss (.t 7) (.k (.d (.int .i64 0)))),
  .q none (some 9) (.mv (.t 8)),
  .q (some (9, false)) (some 10) (.mv (.t 1)),
  .q (some (9, false)) (some 11) (.mv (.t 0)),
  .q (some (9, false)) (some 12) (.slen (.t 11)),
  .q (some (9, false)) (some 13) (.bin .gtr (.t 10) (.t 12)),
  .q none (some 14) (.pick (.t 9) (.k (.d (.bool true))) (.t 13))])
 (.kp [0, 1, 4, 14] (.cond (.t 14) (.seq (.ops [.q none (some 15) (.build [(.int .i64 0), (.int .i64 0)] []),
  .e none none (.store 2 (.t 4) (.t 15)),
  .q none (some 5) (.mv (.k (.d (.int .i64 1))))])
 .ret) .skip)))
 (.kp [0, 1, 4] (.seq (.ops [.q none (some 16) (.mv (.t 0)),
  .q none (some 17) (.mv (.t 1)),
  .q none (some 18) (.sslice (.t 16) none (some (.t 17))),
  .q none (some 6) (.mv (.t 18))])
 (.kp [1, 4, 6] (.seq (.ops [.q none (some 19) (.mv (.t 6)),
  .call none (some 20) 42 [(.t 19), (.k (.d (.str [10])))],
  .q none (some 21) (.bin .add (.k (.d (.int .i64 1))) (.t 20)),
  .q none (some 22) (.mv (.t 1)),
  .q none (some 23) (.mv (.t 6)),
  .call none (some 24) 43 [(.t 23), (.k (.d (.int .u8 10)))],
  .q none (some 25) (.bin .sub (.t 22) (.t 24)),
  .q none (some 26) (.build [(.int .i64 0), (.int .i64 0)] [(0, 1, (.t 21)), (1, 1, (.t 25))]),
  .e none none (.store 2 (.t 4) (.t 26)),
  .q none (some 5) (.mv (.k (.d (.int .i64 0))))])
 .ret)))))))⟩
theorem c16 : chkF Γd.P Γd.E 16 2 i16 = true := by kernel_rfl
noncomputable def i17 : FI := -- cosigner/cosignerref01.PlaceOf
 ⟨18, [.c 4 3 true],
 (.seq (.ops [.e none (some 4) (.alloc 38 [(.d (.int .i64 0)), (.d (.int .i64 0)), (.d (.int .i64 0))])])
 (.kp [0, 1, 4] (.seq (.seq (.ops [.q none (some 5) (.mv (.t 1)),
  .q none (some 6) (.bin .lss (.t 5) (.k (.d (.int .i64 0)))),
  .q none (some 7) (.mv (.t 6)),
  .q (some (7, false)) (some 8) (.mv (.t 1)),
  .q (some (7, false)) (some 9) (.mv (.t 0)),
  .q (some (7, false)) (some 10) (.slen (.t 9)),
  .q (some (7, false)) (some 11) (.bin .gtr (.t 8) (.t 10)),
  .q none (some 12) (.pick (.t 7) (.k (.d (.bool true))) (.t 11))])
 (.kp [0, 1, 4, 12] (.cond (.t 12) (.seq (.ops [.q none (some 13) (.build [(.int .i64 0), (.int .i64 0), (.int .i64 0)] [(2, 1, (.k (.d (.int .i64 1))))]),
  .e none none (.store 3 (.t 4) (.t 13))])
 .ret) .skip)))
 (.kp [0, 1, 4] (.seq (.ops [.q none (some 14) (.mv (.t 0)),
  .q none (some 15) (.mv (.t 1)),
  .call none (some 16) 44 [(.t 14), (.t 15)],
  .q none (some 17) (.build [(.int .i64 0), (.int .i64 0), (.int .i64 0)] [(0, 2, (.t 16))]),
  .e none none (.store 3 (.t 4) (.t 17))])
 .ret)))))⟩
theorem c17 : chkF Γd.P Γd.E 17 2 i17 = true := by kernel_rfl
noncomputable def i18 : FI := -- cosigner/lex.Edit
 ⟨48, [.t 4, .t 5],
 (.seq (.ops [.e none (some 3) (.box 25 (.t 1)),
  .q none (some 4) (.mv (.k (.d (.str [])))),
  .q none (some 5) (.mv (.k (.d (.int .i64 0))))])
 (.kp [0, 3] (.seq (.seq (.ops [.q none (some 6) (.faddr 0 (.t 3)),
  .q none (some 7) (.load 1 false (.t 6)),
  .q none (some 8) (.bin .lss (.t 7) (.k (.d (.int .i64 0)))),
  .q none (some 9) (.mv (.t 8)),
  .q (some (9, false)) (some 10) (.faddr 0 (.t 3)),
  .q (some (9, false)) (some 11) (.load 1 false (.t 10)),
  .q (some (9, false)) (some 12) (.faddr 1 (.t 3)),
  .q (some (9, false)) (some 13) (.load 1 false (.t 12)),
  .q (some (9, false)) (some 14) (.bin .gtr (.t 11) (.t 13)),
  .q none (some 15) (.pick (.t 9) (.k (.d (.bool true))) (.t 14)),
  .q none (some 16) (.mv (.t 15)),
  .q (some (16, false)) (some 17) (.faddr 1 (.t 3)),
  .q (some (16, false)) (some 18) (.load 1 false (.t 17)),
  .q (some (16, false)) (some 19) (.mv (.t 0)),
  .q (some (16, false)) (some 20) (.slen (.t 19)),
  .q (some (16, false)) (some 21) (.bin .gtr (.t 18) (.t 20)),
  .q none (some 22) (.pick (.t 16) (.k (.d (.bool true))) (.t 21))])
 (.kp [0, 3, 22] (.cond (.t 22) (.seq (.ops [.q none (some 4) (.mv (.k (.d (.str [])))),
  .q none (some 5) (.mv (.k (.d (.int .i64 1))))])
 .ret) .skip)))
 (.kp [0, 3] (.seq (.seq (.ops [.q none (some 23) (.mv (.t 0)),
  .q none (some 24) (.slen (.t 23)),
  .q none (some 25) (.faddr 1 (.t 3)),
  .q none (some 26) (.load 1 false (.t 25)),
  .q none (some 27) (.faddr 0 (.t 3)),
  .q none (some 28) (.load 1 false (.t 27)),
  .q none (some 29) (.bin .sub (.t 26) (.t 28)),
  .q none (some 30) (.bin .sub (.t 24) (.t 29)),
  .q none (some 31) (.faddr 2 (.t 3)),
  .q none (some 32) (.load 1 false (.t 31)),
  .q none (some 33) (.slen (.t 32)),
  .q none (some 34) (.bin .add (.t 30) (.t 33)),
  .q none (some 35) (.bin .gtr (.t 34) (.k (.d (.int .i64 20000))))])
 (.kp [0, 3, 35] (.cond (.t 35) (.seq (.ops [.q none (some 4) (.mv (.k (.d (.str [])))),
  .q none (some 5) (.mv (.k (.d (.int .i64 3))))])
 .ret) .skip)))
 (.kp [0, 3] (.seq (.draw (.q 0 (.q none (some 36) (.mv (.t 0))) (.q 1 (.q none (some 37) (.faddr 0 (.t 3))) (.q 2 (.q none (some 38) (.load 1 false (.t 37))) (.q 3 (.q none (some 39) (.sslice (.t 36) none (some (.t 38)))) (.q 4 (.q none (some 40) (.faddr 2 (.t 3))) (.q 5 (.q none (some 41) (.load 1 false (.t 40))) (.q 6 (.q none (some 42) (.bin .add (.t 39) (.t 41))) (.q 7 (.q none (some 43) (.mv (.t 0))) (.q 8 (.q none (some 44) (.faddr 1 (.t 3))) (.q 9 (.q none (some 45) (.load 1 false (.t 44))) (.q 10 (.q none (some 46) (.sslice (.t 43) (some (.t 45)) none)) (.q 11 (.q none (some 47) (.bin .add (.t 42) (.t 46))) (.q 12 (.q none (some 4) (.mv (.t 47))) (.q 13 (.q none (some 5) (.mv (.k (.d (.int .i64 0))))) .done)))))))))))))))
 .ret)))))))⟩
theorem c18 : chkF Γd.P Γd.E 18 2 i18 = true := by kernel_rfl
noncomputable def i19 : FI := -- cosigner/cosignerref01.Edit
 ⟨50, [.c 4 2 true],
 (.seq (.ops [.e none (some 3) (.box 25 (.t 1)),
  .e none (some 4) (.alloc 43 [(.d (.str [])), (.d (.int .i64 0))])])
 (.kp [0, 3, 4] (.seq (.seq (.ops [.q none (some 5) (.faddr 0 (.t 3)),
  .q none (some 6) (.load 1 false (.t 5)),
  .q none (some 7) (.bin .lss (.t 6) (.k (.d (.int .i64 0)))),
  .q none (some 8) (.mv (.t 7)),
  .q (some (8, false)) (some 9) (.faddr 0 (.t 3)),
  .q (some (8, false)) (some 10) (.load 1 false (.t 9)),
  .q (some (8, false)) (some 11) (.faddr 1 (.t 3)),
  .q (some (8, false)) (some 12) (.load 1 false (.t 11)),
  .q (some (8, false)) (some 13) (.bin .gtr (.t 10) (.t 12)),
  .q none (some 14) (.pick (.t 8) (.k (.d (.bool true))) (.t 13)),
  .q none (some 15) (.mv (.t 14)),
  .q (some (15, false)) (some 16) (.faddr 1 (.t 3)),
  .q (some (15, false)) (some 17) (.load 1 false (.t 16)),
  .q (some (15, false)) (some 18) (.mv (.t 0)),
  .q (some (15, false)) (some 19) (.slen (.t 18)),
  .q (some (15, false)) (some 20) (.bin .gtr (.t 17) (.t 19)),
  .q none (some 21) (.pick (.t 15) (.k (.d (.bool true))) (.t 20))])
 (.kp [0, 3, 4, 21] (.cond (.t 21) (.seq (.ops [.q none (some 22) (.build [(.str []), (.int .i64 0)] [(1, 1, (.k (.d (.int .i64 1))))]),
  .e none none (.store 2 (.t 4) (.t 22))])
 .ret) .skip)))
 (.kp [0, 3, 4] (.seq (.seq (.ops [.q none (some 23) (.mv (.t 0)),
  .q none (some 24) (.slen (.t 23)),
  .q none (some 25) (.faddr 1 (.t 3)),
  .q none (some 26) (.load 1 false (.t 25)),
  .q none (some 27) (.faddr 0 (.t 3)),
  .q none (some 28) (.load 1 false (.t 27)),
  .q none (some 29) (.bin .sub (.t 26) (.t 28)),
  .q none (some 30) (.bin .sub (.t 24) (.t 29)),
  .q none (some 31) (.faddr 2 (.t 3)),
  .q none (some 32) (.load 1 false (.t 31)),
  .q none (some 33) (.slen (.t 32)),
  .q none (some 34) (.bin .add (.t 30) (.t 33)),
  .q none (some 35) (.bin .gtr (.t 34) (.k (.d (.int .i64 20000))))])
 (.kp [0, 3, 4, 35] (.cond (.t 35) (.seq (.ops [.q none (some 36) (.build [(.str []), (.int .i64 0)] [(1, 1, (.k (.d (.int .i64 3))))]),
  .e none none (.store 2 (.t 4) (.t 36))])
 .ret) .skip)))
 (.kp [0, 3, 4] (.seq (.draw (.q 0 (.q none (some 37) (.mv (.t 0))) (.q 1 (.q none (some 38) (.faddr 0 (.t 3))) (.q 2 (.q none (some 39) (.load 1 false (.t 38))) (.q 3 (.q none (some 40) (.sslice (.t 37) none (some (.t 39)))) (.q 4 (.q none (some 41) (.faddr 2 (.t 3))) (.q 5 (.q none (some 42) (.load 1 false (.t 41))) (.q 6 (.q none (some 43) (.bin .add (.t 40) (.t 42))) (.q 7 (.q none (some 44) (.mv (.t 0))) (.q 8 (.q none (some 45) (.faddr 1 (.t 3))) (.q 9 (.q none (some 46) (.load 1 false (.t 45))) (.q 10 (.q none (some 47) (.sslice (.t 44) (some (.t 46)) none)) (.q 11 (.q none (some 48) (.bin .add (.t 43) (.t 47))) (.q 12 (.q none (some 49) (.build [(.str []), (.int .i64 0)] [(0, 1, (.t 48))])) (.br (.cons 13 [0, 1, 2, 3, 4, 5, 6, 7, 8, 9, 10, 11, 12] (.e none none (.store 2 (.t 4) (.t 49))) .done .nil))))))))))))))))
 .ret)))))))⟩
theorem c19 : chkF Γd.P Γd.E 19 2 i19 = true := by kernel_rfl
noncomputable def i20 : FI := -- cosigner/lex.Join
 ⟨39, [.t 2, .t 3, .t 4],
 (.seq (.ops [.q none (some 2) (.mv (.k (.d (.str [])))),
  .q none (some 3) (.mv (.k .snil)),
  .q none (some 4) (.mv (.k (.d (.int .i64 0))))])
 (.kp [0] (.seq (.seq (.ops [.q none (some 10) (.mv (.t 0)),
  .q none (some 11) (.len (.t 10)),
  .q none (some 12) (.bin .gtr (.t 11) (.k (.d (.int .i64 24))))])
 (.kp [0, 12] (.cond (.t 12) (.seq (.ops [.q none (some 2) (.mv (.k (.d (.str [])))),
  .q none (some 3) (.mv (.k .snil)),
  .q none (some 4) (.mv (.k (.d (.int .i64 3))))])
 .ret) .skip)))
 (.kp [0] (.seq (.ops [.e none (some 5) (.alloc 89 [.nilp, .snil]),
  .ownb 5 1 (5, 1)])
 (.kp [0, 5] (.seq (.ops [.q none (some 6) (.mv (.k .snil)),
  .own 6 (3, 1)])
 (.kp [0, 5, 6] (.seq (.ops [.q none (some 7) (.mv (.k (.d (.int .i64 1))))])
 (.kp [0, 5, 6, 7] (.seq (.seq (.ops [.q none (some 13) (.mv (.t 0)),
  .q none (some 14) (.len (.t 13)),
  .q none (some 15) (.mv (.k (.d (.int .i64 0))))])
 (.kp [5, 6, 7, 13, 14, 15] (.block 0 (.loop [5, 6, 7, 13, 14, 15] (.seq (.ops [.q none (some 16) (.bin .lss (.t 15) (.t 14))])
 (.kp [5, 6, 7, 13, 14, 15, 16] (.seq (.cond (.t 16) .skip (.exit 0))
 (.kp [5, 6, 7, 13, 14, 15] (.seq (.block 1 (.seq (.ops [.q none (some 17) (.iaddr 1 (.t 13) (.t 15)),
  .q none (some 18) (.load 1 false (.t 17)),
  .q none (some 9) (.mv (.t 18))])
 (.kp [5, 6, 7, 9, 13, 14, 15] (.seq (.seq (.ops [.q none (some 19) (.mv (.t 9)),
  .q none (some 20) (.slen (.t 19)),
  .q none (some 21) (.bin .gtr (.t 20) (.k (.d (.int .i64 20000))))])
 (.kp [5, 6, 7, 9, 13, 14, 15, 21] (.cond (.t 21) (.seq (.ops [.q none (some 2) (.mv (.k (.d (.str [])))),
  .q none (some 3) (.mv (.k .snil)),
  .q none (some 4) (.mv (.k (.d (.int .i64 3))))])
 .ret) .skip)))
 (.kp [5, 6, 7, 9, 13, 14, 15] (.seq (.ops [.q none (some 22) (.mv (.t 6)),
  .q none (some 23) (.mv (.t 7)),
  .e none (some 24) (.bslice 1 [(.t 23)]),
  .e none (some 25) (.append 3 1 false (.t 22) (.t 24)),
  .q none (some 6) (.mv (.t 25))])
 (.kp [5, 6, 7, 9, 13, 14, 15] (.seq (.ops [.q none (some 26) (.mv (.t 7)),
  .q none (some 27) (.mv (.t 9)),
  .call none (some 28) 42 [(.t 27), (.k (.d (.str [10])))],
  .q none (some 29) (.bin .add (.k (.d (.int .i64 1))) (.t 28)),
  .q none (some 30) (.bin .add (.t 26) (.t 29)),
  .q none (some 7) (.mv (.t 30))])
 (.kp [5, 6, 7, 9, 13, 14, 15] (.ops [.q none (some 31) (.mv (.t 9)),
  .q none (some 32) (.bin .add (.t 31) (.k (.d (.str [10])))),
  .call none (some 33) 45 [(.t 5), (.t 32)]]))))))))))
 (.kp [5, 6, 7, 13, 14, 15] (.ops [.q none (some 34) (.bin .add (.t 15) (.k (.d (.int .i64 1)))),
  .q none (some 15) (.mv (.t 34))])))))))))))
 (.kp [5, 6] (.seq (.seq (.ops [.call none (some 35) 46 [(.t 5)],
  .q none (some 36) (.bin .gtr (.t 35) (.k (.d (.int .i64 20000))))])
 (.kp [5, 6, 36] (.cond (.t 36) (.seq (.ops [.q none (some 2) (.mv (.k (.d (.str [])))),
  .q none (some 3) (.mv (.k .snil)),
  .q none (some 4) (.mv (.k (.d (.int .i64 3))))])
 .ret) .skip)))
 (.kp [5, 6] (.seq (.ops [.call none (some 37) 47 [(.t 5)],
  .q none (some 38) (.mv (.t 6)),
  .q none (some 2) (.mv (.t 37)),
  .q none (some 3) (.mv (.t 38)),
  .q none (some 4) (.mv (.k (.d (.int .i64 0))))])
 .ret)))))))))))))))⟩
theorem c20 : chkF Γd.P Γd.E 20 1 i20 = true := by kernel_rfl
noncomputable def i21 : FI := -- cosigner/cosignerref01.Join
 ⟨53, [.c 2 3 true],
 (.seq (.ops [.e none (some 2) (.alloc 49 [(.d (.str [])), .snil, (.d (.int .i64 0))])])
 (.kp [0, 2] (.seq (.seq (.ops [.q none (some 6) (.mv (.t 0)),
  .q none (some 7) (.len (.t 6)),
  .q none (some 8) (.bin .gtr (.t 7) (.k (.d (.int .i64 24))))])
 (.kp [0, 2, 8] (.cond (.t 8) (.seq (.ops [.q none (some 9) (.build [(.str []), (.slice []), (.int .i64 0)] [(2, 1, (.k (.d (.int .i64 3))))]),
  .e none none (.store 3 (.t 2) (.t 9))])
 .ret) .skip)))
 (.kp [0, 2] (.seq (.ops [.q none (some 10) (.bz [(.str []), (.slice []), (.int .i64 0)]),
  .e none (some 3) (.alloc 49 [(.d (.str [])), .snil, (.d (.int .i64 0))]),
  .e none none (.store 3 (.t 3) (.t 10)),
  .ownb 3 1 (3, 1)])
 (.kp [0, 2, 3] (.seq (.ops [.q none (some 4) (.mv (.k (.d (.int .i64 1))))])
 (.kp [0, 2, 3, 4] (.seq (.seq (.ops [.q none (some 5) (.mv (.k (.d (.int .i64 0))))])
 (.kp [0, 2, 3, 4, 5] (.block 0 (.loop [0, 2, 3, 4, 5] (.seq (.seq (.ops [.q none (some 11) (.mv (.t 5)),
  .q none (some 12) (.mv (.t 0)),
  .q none (some 13) (.len (.t 12)),
  .q none (some 14) (.bin .lss (.t 11) (.t 13))])
 (.kp [0, 2, 3, 4, 5, 14] (.cond (.t 14) .skip (.exit 0))))
 (.kp [0, 2, 3, 4, 5] (.seq (.block 1 (.seq (.seq (.draw (.q 0 (.q none (some 17) (.faddr 0 (.t 3))) (.q 1 (.q none (some 18) (.load 1 false (.t 17))) (.q 2 (.q none (some 19) (.slen (.t 18))) (.q 3 (.q none (some 20) (.mv (.t 0))) (.q 4 (.q none (some 21) (.mv (.t 5))) (.q 5 (.q none (some 22) (.iaddr 1 (.t 20) (.t 21))) (.q 6 (.q none (some 23) (.load 1 false (.t 22))) (.q 7 (.q none (some 24) (.slen (.t 23))) (.q 8 (.q none (some 25) (.bin .add (.t 19) (.t 24))) (.q 9 (.q none (some 26) (.bin .add (.t 25) (.k (.d (.int .i64 1))))) (.q 10 (.q none (some 27) (.bin .gtr (.t 26) (.k (.d (.int .i64 20000))))) .done))))))))))))
 (.kp [0, 2, 3, 4, 5, 27] (.cond (.t 27) (.seq (.ops [.q none (some 28) (.build [(.str []), (.slice []), (.int .i64 0)] [(2, 1, (.k (.d (.int .i64 3))))]),
  .e none none (.store 3 (.t 2) (.t 28))])
 .ret) .skip)))
 (.kp [0, 2, 3, 4, 5] (.seq (.draw (.q 0 (.q none (some 29) (.faddr 0 (.t 3))) (.q 1 (.q none (some 30) (.load 1 false (.t 29))) (.q 2 (.q none (some 31) (.mv (.t 0))) (.q 3 (.q none (some 32) (.mv (.t 5))) (.q 4 (.q none (some 33) (.iaddr 1 (.t 31) (.t 32))) (.q 5 (.q none (some 34) (.load 1 false (.t 33))) (.q 6 (.q none (some 35) (.bin .add (.t 30) (.t 34))) (.q 7 (.q none (some 36) (.bin .add (.t 35) (.k (.d (.str [10]))))) (.q 8 (.q none (some 37) (.faddr 0 (.t 3))) (.br (.cons 9 [0, 1, 2, 3, 4, 5, 6, 7, 8] (.e none none (.store 1 (.t 37) (.t 36))) .done .nil))))))))))))
 (.kp [0, 2, 3, 4, 5] (.seq (.ops [.q none (some 38) (.faddr 1 (.t 3)),
  .q none (some 39) (.load 1 false (.t 38)),
  .q none (some 40) (.mv (.t 4)),
  .e none (some 41) (.bslice 1 [(.t 40)]),
  .e none (some 42) (.append 3 1 false (.t 39) (.t 41)),
  .q none (some 43) (.faddr 1 (.t 3)),
  .e none none (.store 1 (.t 43) (.t 42))])
 (.kp [0, 2, 3, 4, 5] (.ops [.q none (some 44) (.mv (.t 4)),
  .q none (some 45) (.mv (.t 0)),
  .q none (some 46) (.mv (.t 5)),
  .q none (some 47) (.iaddr 1 (.t 45) (.t 46)),
  .q none (some 48) (.load 1 false (.t 47)),
  .call none (some 49) 41 [(.t 48)],
  .q none (some 50) (.len (.t 49)),
  .q none (some 51) (.bin .add (.t 44) (.t 50)),
  .q none (some 4) (.mv (.t 51))]))))))))
 (.kp [0, 2, 3, 4, 5] (.ops [.q none (some 15) (.mv (.t 5)),
  .q none (some 16) (.bin .add (.t 15) (.k (.d (.int .i64 1)))),
  .q none (some 5) (.mv (.t 16))])))))))))
 (.kp [2, 3] (.seq (.ops [.q none (some 52) (.load 3 true (.t 3)),
  .e none none (.store 3 (.t 2) (.t 52))])
 .ret)))))))))))⟩
theorem c21 : chkF Γd.P Γd.E 21 1 i21 = true := by kernel_rfl
noncomputable def i22 : FI := -- cosigner/lex.Tokens
 ⟨30, [.t 2, .c 3 2 true, .t 4],
 (.seq (.ops [.q none (some 2) (.mv (.k .snil)),
  .e none (some 3) (.alloc 23 [(.d (.int .i64 0)), (.d (.int .i64 0))]),
  .q none (some 4) (.mv (.k (.d (.int .i64 0))))])
 (.kp [0, 3] (.seq (.seq (.ops [.q none (some 8) (.mv (.t 0)),
  .q none (some 9) (.slen (.t 8)),
  .q none (some 10) (.bin .gtr (.t 9) (.k (.d (.int .i64 20000))))])
 (.kp [0, 3, 10] (.cond (.t 10) (.seq (.ops [.q none (some 11) (.build [(.int .i64 0), (.int .i64 0)] []),
  .q none (some 2) (.mv (.k .snil)),
  .e none none (.store 2 (.t 3) (.t 11)),
  .q none (some 4) (.mv (.k (.d (.int .i64 3))))])
 .ret) .skip)))
 (.kp [0, 3] (.seq (.ops [.q none (some 13) (.mv (.t 0)),
  .call none (some 14) 23 [(.t 13), (.k (.d (.str [10])))],
  .call none (some 15) 48 [(.t 14), (.k (.d (.int .i64 1))), (.f 49)],
  .q none (some 12) (.mv (.t 15)),
  .q none (some 16) (.extract (.t 12) 0),
  .q none (some 17) (.extract (.t 12) 1),
  .q none (some 18) (.extract (.t 12) 2),
  .e none (some 6) (.alloc 23 [(.d (.int .i64 0)), (.d (.int .i64 0))]),
  .q none (some 5) (.mv (.t 16)),
  .e none none (.store 2 (.t 6) (.t 17)),
  .q none (some 7) (.mv (.t 18))])
 (.kp [3, 5, 6, 7] (.seq (.seq (.ops [.q none (some 19) (.mv (.t 7)),
  .q none (some 20) (.bin .eql (.t 19) (.k (.d (.int .i64 0)))),
  .q none (some 21) (.mv (.t 20)),
  .q (some (21, true)) (some 22) (.mv (.t 5)),
  .q (some (21, true)) (some 23) (.len (.t 22)),
  .q (some (21, true)) (some 24) (.bin .gtr (.t 23) (.k (.d (.int .i64 6000)))),
  .q none (some 25) (.pick (.t 21) (.t 24) (.k (.d (.bool false))))])
 (.kp [3, 5, 6, 7, 25] (.cond (.t 25) (.seq (.ops [.q none (some 26) (.build [(.int .i64 0), (.int .i64 0)] []),
  .q none (some 2) (.mv (.k .snil)),
  .e none none (.store 2 (.t 3) (.t 26)),
  .q none (some 4) (.mv (.k (.d (.int .i64 3))))])
 .ret) .skip)))
 (.kp [3, 5, 6, 7] (.seq (.draw (.q 0 (.q none (some 27) (.mv (.t 5))) (.q 1 (.q none (some 28) (.load 2 true (.t 6))) (.q 2 (.q none (some 29) (.mv (.t 7))) (.q 3 (.q none (some 2) (.mv (.t 27))) (.br (.cons 4 [0, 1, 3] (.e none none (.store 2 (.t 3) (.t 28))) (.q 5 (.q none (some 4) (.mv (.t 29))) .done) .nil)))))))
 .ret)))))))))⟩
theorem c22 : chkF Γd.P Γd.E 22 1 i22 = true := by kernel_rfl
noncomputable def i24 : FI := -- cosigner/cosignerref01.SameTokens
 ⟨26, [.t 4],
 (.seq (.ops [.q none (some 4) (.mv (.k (.d (.bool false))))])
 (.kp [0, 1] (.seq (.seq (.ops [.q none (some 6) (.mv (.t 0)),
  .q none (some 7) (.len (.t 6)),
  .q none (some 8) (.mv (.t 1)),
  .q none (some 9) (.len (.t 8)),
  .q none (some 10) (.bin .neq (.t 7) (.t 9))])
 (.kp [0, 1, 10] (.cond (.t 10) (.seq (.ops [.q none (some 4) (.mv (.k (.d (.bool false))))])
 .ret) .skip)))
 (.kp [0, 1] (.seq (.seq (.ops [.q none (some 5) (.mv (.k (.d (.int .i64 0))))])
 (.kp [0, 1, 5] (.block 0 (.loop [0, 1, 5] (.seq (.seq (.ops [.q none (some 11) (.mv (.t 5)),
  .q none (some 12) (.mv (.t 0)),
  .q none (some 13) (.len (.t 12)),
  .q none (some 14) (.bin .lss (.t 11) (.t 13))])
 (.kp [0, 1, 5, 14] (.cond (.t 14) .skip (.exit 0))))
 (.kp [0, 1, 5] (.seq (.block 1 (.seq (.draw (.q 0 (.q none (some 17) (.mv (.t 0))) (.q 1 (.q none (some 18) (.mv (.t 5))) (.q 2 (.q none (some 19) (.iaddr 4 (.t 17) (.t 18))) (.q 3 (.q none (some 20) (.load 4 true (.t 19))) (.q 4 (.q none (some 21) (.mv (.t 1))) (.q 5 (.q none (some 22) (.mv (.t 5))) (.q 6 (.q none (some 23) (.iaddr 4 (.t 21) (.t 22))) (.q 7 (.q none (some 24) (.load 4 true (.t 23))) (.q 8 (.q none (some 25) (.eqs true [.int .i64, .str, .int .i64, .int .i64] (.t 20) (.t 24))) .done))))))))))
 (.kp [0, 1, 5, 25] (.cond (.t 25) (.seq (.ops [.q none (some 4) (.mv (.k (.d (.bool false))))])
 .ret) .skip))))
 (.kp [0, 1, 5] (.ops [.q none (some 15) (.mv (.t 5)),
  .q none (some 16) (.bin .add (.t 15) (.k (.d (.int .i64 1)))),
  .q none (some 5) (.mv (.t 16))])))))))))
 (.kp [] (.seq (.ops [.q none (some 4) (.mv (.k (.d (.bool true))))])
 .ret)))))))⟩
theorem c24 : chkF Γd.P Γd.E 24 2 i24 = true := by kernel_rfl
noncomputable def i25 : FI := -- cosigner/lex.Patch
 ⟨181, [.t 6, .t 7, .c 8 2 true, .t 9],
 (.seq (.ops [.e none (some 5) (.box 25 (.t 2)),
  .q none (some 6) (.mv (.k .snil)),
  .q none (some 7) (.mv (.k (.d (.int .i64 0)))),
  .e none (some 8) (.alloc 23 [(.d (.int .i64 0)), (.d (.int .i64 0))]),
  .q none (some 9) (.mv (.k (.d (.int .i64 0))))])
 (.kp [0, 1, 5, 8] (.seq (.ops [.q none (some 30) (.mv (.t 1)),
  .q none (some 31) (.load 3 true (.t 5)),
  .call none (some 32) 18 [(.t 30), (.t 31)],
  .q none (some 29) (.mv (.t 32)),
  .q none (some 33) (.extract (.t 29) 0),
  .q none (some 34) (.extract (.t 29) 1),
  .q none (some 10) (.mv (.t 33)),
  .q none (some 11) (.mv (.t 34))])
 (.kp [0, 1, 5, 8, 10, 11] (.seq (.seq (.ops [.q none (some 35) (.mv (.t 11)),
  .q none (some 36) (.bin .neq (.t 35) (.k (.d (.int .i64 0))))])
 (.kp [0, 1, 5, 8, 10, 11, 36] (.cond (.t 36) (.seq (.ops [.q none (some 37) (.build [(.int .i64 0), (.int .i64 0)] []),
  .q none (some 38) (.mv (.t 11)),
  .q none (some 6) (.mv (.k .snil)),
  .q none (some 7) (.mv (.k (.d (.int .i64 0)))),
  .e none none (.store 2 (.t 8) (.t 37)),
  .q none (some 9) (.mv (.t 38))])
 .ret) .skip)))
 (.kp [0, 1, 5, 8, 10] (.seq (.seq (.ops [.q none (some 39) (.mv (.t 0)),
  .q none (some 40) (.len (.t 39)),
  .q none (some 41) (.mv (.k (.d (.int .i64 0))))])
 (.kp [0, 1, 5, 8, 10, 39, 40, 41] (.block 0 (.loop [0, 1, 5, 8, 10, 39, 40, 41] (.seq (.ops [.q none (some 42) (.bin .lss (.t 41) (.t 40))])
 (.kp [0, 1, 5, 8, 10, 39, 40, 41, 42] (.seq (.cond (.t 42) .skip (.exit 0))
 (.kp [0, 1, 5, 8, 10, 39, 40, 41] (.seq (.block 1 (.seq (.ops [.q none (some 43) (.mv (.t 41)),
  .q none (some 44) (.iaddr 4 (.t 39) (.t 41)),
  .q none (some 45) (.load 4 true (.t 44)),
  .e none (some 13) (.alloc 57 [(.d (.int .i64 0)), (.d (.str [])), (.d (.int .i64 0)), (.d (.int .i64 0))]),
  .q none (some 12) (.mv (.t 43)),
  .e none none (.store 4 (.t 13) (.t 45))])
 (.kp [0, 1, 5, 8, 10, 12, 13, 39, 40, 41] (.seq (.ops [.q none (some 47) (.mv (.t 1)),
  .q none (some 48) (.faddr 2 (.t 13)),
  .q none (some 49) (.load 2 true (.t 48)),
  .call none (some 50) 14 [(.t 47), (.t 49)],
  .q none (some 46) (.mv (.t 50)),
  .q none (some 51) (.extract (.t 46) 0),
  .q none (some 52) (.extract (.t 46) 1),
  .q none (some 14) (.mv (.t 51)),
  .q none (some 15) (.mv (.t 52))])
 (.kp [0, 1, 5, 8, 10, 12, 13, 15, 39, 40, 41] (.seq (.draw (.q 0 (.q none (some 53) (.mv (.t 15))) (.q 1 (.q none (some 54) (.bin .neq (.t 53) (.k (.d (.int .i64 0))))) (.q 2 (.q none (some 55) (.mv (.t 54))) (.q 3 (.q (some (55, false)) (some 56) (.mv (.t 12))) (.q 4 (.q (some (55, false)) (some 57) (.bin .gtr (.t 56) (.k (.d (.int .i64 0))))) (.q 5 (.q (some (55, false)) (some 58) (.mv (.t 57))) (.q 6 (.q (some (58, true)) (some 59) (.mv (.t 0))) (.q 7 (.q (some (58, true)) (some 60) (.mv (.t 12))) (.q 8 (.q (some (58, true)) (some 61) (.bin .sub (.t 60) (.k (.d (.int .i64 1))))) (.q 9 (.q (some (58, true)) (some 62) (.iaddr 4 (.t 59) (.t 61))) (.q 10 (.q (some (58, true)) (some 63) (.faddr 2 (.t 62))) (.q 11 (.q (some (58, true)) (some 64) (.load 2 true (.t 63))) (.q 12 (.q (some (58, true)) (some 65) (.faddr 2 (.t 13))) (.q 13 (.q (some (58, true)) (some 66) (.load 2 true (.t 65))) (.q 14 (.q (some (58, true)) (some 67) (.eqs false [.int .i64, .int .i64] (.t 64) (.t 66))) (.q 15 (.q (some (58, true)) (some 68) (.mv (.t 67))) (.q 16 (.q (some (68, false)) (some 69) (.mv (.t 0))) (.q 17 (.q (some (68, false)) (some 70) (.mv (.t 12))) (.q 18 (.q (some (68, false)) (some 71) (.bin .sub (.t 70) (.k (.d (.int .i64 1))))) (.q 19 (.q (some (68, false)) (some 72) (.iaddr 4 (.t 69) (.t 71))) (.q 20 (.q (some (68, false)) (some 73) (.faddr 2 (.t 72))) (.q 21 (.q (some (68, false)) (some 74) (.load 2 true (.t 73))) (.q 22 (.q (some (68, false)) (some 75) (.faddr 2 (.t 13))) (.q 23 (.q (some (68, false)) (some 76) (.load 2 true (.t 75))) (.br (.cons 24 [15, 21, 23] (.call (some (68, false)) (some 77) 51 [(.t 74), (.t 76)]) (.q 25 (.q (some (68, false)) (some 78) (.bin .gtr (.t 77) (.k (.d (.int .i64 0))))) (.q 26 (.q (some (58, true)) (some 79) (.pick (.t 68) (.k (.d (.bool true))) (.t 78))) (.q 27 (.q (some (55, false)) (some 80) (.pick (.t 58) (.t 79) (.k (.d (.bool false))))) (.q 28 (.q none (some 81) (.pick (.t 55) (.k (.d (.bool true))) (.t 80))) .done)))) .nil)))))))))))))))))))))))))))
 (.kp [0, 1, 5, 8, 10, 39, 40, 41, 81] (.cond (.t 81) (.seq (.ops [.q none (some 82) (.build [(.int .i64 0), (.int .i64 0)] []),
  .q none (some 6) (.mv (.k .snil)),
  .q none (some 7) (.mv (.k (.d (.int .i64 0)))),
  .e none none (.store 2 (.t 8) (.t 82)),
  .q none (some 9) (.mv (.k (.d (.int .i64 1))))])
 .ret) .skip))))))))
 (.kp [0, 1, 5, 8, 10, 39, 40, 41] (.ops [.q none (some 83) (.bin .add (.t 41) (.k (.d (.int .i64 1)))),
  .q none (some 41) (.mv (.t 83))])))))))))))
 (.kp [0, 1, 5, 8, 10] (.seq (.ops [.q none (some 85) (.mv (.t 1)),
  .q none (some 86) (.faddr 0 (.t 5)),
  .q none (some 87) (.load 1 false (.t 86)),
  .call none (some 88) 16 [(.t 85), (.t 87)],
  .q none (some 84) (.mv (.t 88)),
  .q none (some 89) (.extract (.t 84) 0),
  .q none (some 90) (.extract (.t 84) 1),
  .e none (some 16) (.alloc 23 [(.d (.int .i64 0)), (.d (.int .i64 0))]),
  .e none none (.store 2 (.t 16) (.t 89)),
  .q none (some 17) (.mv (.t 90))])
 (.kp [0, 1, 5, 8, 10, 16] (.seq (.ops [.q none (some 92) (.mv (.t 1)),
  .q none (some 93) (.faddr 1 (.t 5)),
  .q none (some 94) (.load 1 false (.t 93)),
  .call none (some 95) 16 [(.t 92), (.t 94)],
  .q none (some 91) (.mv (.t 95)),
  .q none (some 96) (.extract (.t 91) 0),
  .q none (some 97) (.extract (.t 91) 1),
  .e none (some 18) (.alloc 23 [(.d (.int .i64 0)), (.d (.int .i64 0))]),
  .e none none (.store 2 (.t 18) (.t 96)),
  .q none (some 19) (.mv (.t 97))])
 (.kp [0, 5, 8, 10, 16, 18] (.seq (.ops [.q none (some 99) (.mv (.t 10)),
  .q none (some 100) (.faddr 0 (.t 5)),
  .q none (some 101) (.load 1 false (.t 100)),
  .q none (some 102) (.faddr 2 (.t 5)),
  .q none (some 103) (.load 1 false (.t 102)),
  .q none (some 104) (.slen (.t 103)),
  .q none (some 105) (.bin .add (.t 101) (.t 104)),
  .call none (some 106) 16 [(.t 99), (.t 105)],
  .q none (some 98) (.mv (.t 106)),
  .q none (some 107) (.extract (.t 98) 0),
  .q none (some 108) (.extract (.t 98) 1),
  .e none (some 20) (.alloc 23 [(.d (.int .i64 0)), (.d (.int .i64 0))]),
  .e none none (.store 2 (.t 20) (.t 107)),
  .q none (some 21) (.mv (.t 108))])
 (.kp [0, 8, 10, 16, 18, 20] (.seq (.draw (.q 0 (.q none (some 110) (.mv (.t 10))) (.q 2 (.q none (some 112) (.faddr 0 (.t 16))) (.q 3 (.q none (some 113) (.load 1 false (.t 112))) (.q 4 (.q none (some 114) (.bin .sub (.t 113) (.k (.d (.int .i64 1))))) (.q 5 (.q none (some 115) (.faddr 0 (.t 20))) (.q 6 (.q none (some 116) (.load 1 false (.t 115))) (.q 8 (.q none (some 118) (.faddr 0 (.t 16))) (.q 9 (.q none (some 119) (.load 1 false (.t 118))) (.br (.cons 1 [0] (.call none (some 111) 23 [(.t 110), (.k (.d (.str [10])))]) (.q 7 (.q none (some 117) (.lslice 1 (.t 111) (some (.t 114)) (some (.t 116)))) (.br (.cons 10 [1, 7, 9] (.call none (some 120) 48 [(.t 117), (.t 119), (.f 49)]) (.q 11 (.q none (some 109) (.mv (.t 120))) (.q 12 (.q none (some 121) (.extract (.t 109) 0)) (.q 13 (.q none (some 122) (.extract (.t 109) 1)) (.q 14 (.q none (some 123) (.extract (.t 109) 2)) (.br (.cons 15 [] (.e none (some 23) (.alloc 23 [(.d (.int .i64 0)), (.d (.int .i64 0))])) (.q 16 (.q none (some 22) (.mv (.t 121))) (.br (.cons 17 [0, 1, 2, 3, 4, 5, 6, 7, 8, 9, 10, 11, 12, 13, 15, 16] (.e none none (.store 2 (.t 23) (.t 122))) (.q 18 (.q none (some 11) (.mv (.t 123))) .done) .nil))) .nil)))))) (.cons 15 [] (.e none (some 23) (.alloc 23 [(.d (.int .i64 0)), (.d (.int .i64 0))])) (.br (.cons 10 [1, 7, 9] (.call none (some 120) 48 [(.t 117), (.t 119), (.f 49)]) (.q 11 (.q none (some 109) (.mv (.t 120))) (.q 12 (.q none (some 121) (.extract (.t 109) 0)) (.q 13 (.q none (some 122) (.extract (.t 109) 1)) (.q 14 (.q none (some 123) (.extract (.t 109) 2)) (.q 16 (.q none (some 22) (.mv (.t 121))) (.br (.cons 17 [0, 1, 2, 3, 4, 5, 6, 7, 8, 9, 10, 11, 12, 13, 15, 16] (.e none none (.store 2 (.t 23) (.t 122))) (.q 18 (.q none (some 11) (.mv (.t 123))) .done) .nil))))))) .nil)) .nil)))) (.cons 15 [] (.e none (some 23) (.alloc 23 [(.d (.int .i64 0)), (.d (.int .i64 0))])) (.br (.cons 1 [0] (.call none (some 111) 23 [(.t 110), (.k (.d (.str [10])))]) (.q 7 (.q none (some 117) (.lslice 1 (.t 111) (some (.t 114)) (some (.t 116)))) (.br (.cons 10 [1, 7, 9] (.call none (some 120) 48 [(.t 117), (.t 119), (.f 49)]) (.q 11 (.q none (some 109) (.mv (.t 120))) (.q 12 (.q none (some 121) (.extract (.t 109) 0)) (.q 13 (.q none (some 122) (.extract (.t 109) 1)) (.q 14 (.q none (some 123) (.extract (.t 109) 2)) (.q 16 (.q none (some 22) (.mv (.t 121))) (.br (.cons 17 [0, 1, 2, 3, 4, 5, 6, 7, 8, 9, 10, 11, 12, 13, 15, 16] (.e none none (.store 2 (.t 23) (.t 122))) (.q 18 (.q none (some 11) (.mv (.t 123))) .done) .nil))))))) .nil))) .nil)) .nil))))))))))))
 (.kp [0, 8, 11, 16, 18, 20, 22, 23] (.seq (.seq (.ops [.q none (some 124) (.mv (.t 11)),
  .q none (some 125) (.bin .neq (.t 124) (.k (.d (.int .i64 0))))])
 (.kp [0, 8, 11, 16, 18, 20, 22, 23, 125] (.cond (.t 125) (.seq (.draw (.q 0 (.q none (some 126) (.load 2 true (.t 23))) (.q 1 (.q none (some 127) (.mv (.t 11))) (.q 2 (.q none (some 6) (.mv (.k .snil))) (.q 3 (.q none (some 7) (.mv (.k (.d (.int .i64 0))))) (.br (.cons 4 [0, 2, 3] (.e none none (.store 2 (.t 8) (.t 126))) (.q 5 (.q none (some 9) (.mv (.t 127))) .done) .nil)))))))
 .ret) .skip)))
 (.kp [0, 8, 16, 18, 20, 22] (.seq (.ops [.q none (some 24) (.mv (.k .snil)),
  .own 24 (57, 4),
  .q none (some 25) (.mv (.k .snil)),
  .own 25 (57, 4)])
 (.kp [0, 8, 16, 18, 20, 22, 24, 25] (.seq (.seq (.ops [.q none (some 128) (.mv (.t 0)),
  .q none (some 129) (.len (.t 128)),
  .q none (some 130) (.mv (.k (.d (.int .i64 0))))])
 (.kp [8, 16, 18, 20, 22, 24, 25, 128, 129, 130] (.block 2 (.loop [8, 16, 18, 20, 22, 24, 25, 128, 129, 130] (.seq (.ops [.q none (some 131) (.bin .lss (.t 130) (.t 129))])
 (.kp [8, 16, 18, 20, 22, 24, 25, 128, 129, 130, 131] (.seq (.cond (.t 131) .skip (.exit 2))
 (.kp [8, 16, 18, 20, 22, 24, 25, 128, 129, 130] (.seq (.block 3 (.seq (.ops [.q none (some 132) (.iaddr 4 (.t 128) (.t 130)),
  .q none (some 133) (.load 4 true (.t 132)),
  .e none (some 27) (.alloc 57 [(.d (.int .i64 0)), (.d (.str [])), (.d (.int .i64 0)), (.d (.int .i64 0))]),
  .e none none (.store 4 (.t 27) (.t 133))])
 (.kp [8, 16, 18, 20, 22, 24, 25, 27, 128, 129, 130] (.block 4 (.seq (.ops [.q none (some 135) (.faddr 2 (.t 27)),
  .q none (some 136) (.faddr 0 (.t 135)),
  .q none (some 137) (.load 1 false (.t 136)),
  .q none (some 138) (.faddr 0 (.t 16)),
  .q none (some 139) (.load 1 false (.t 138)),
  .q none (some 140) (.bin .lss (.t 137) (.t 139)),
  .q none (some 134) (.mv (.t 140))])
 (.kp [8, 16, 18, 20, 22, 24, 25, 27, 128, 129, 130, 134] (.cond (.t 134) (.ops [.q none (some 141) (.mv (.t 24)),
  .q none (some 142) (.load 4 true (.t 27)),
  .e none (some 143) (.bslice 4 [(.t 142)]),
  .e none (some 144) (.append 57 4 false (.t 141) (.t 143)),
  .q none (some 24) (.mv (.t 144))]) (.seq (.ops [.q none (some 146) (.faddr 2 (.t 27)),
  .q none (some 147) (.faddr 0 (.t 146)),
  .q none (some 148) (.load 1 false (.t 147)),
  .q none (some 149) (.faddr 0 (.t 18)),
  .q none (some 150) (.load 1 false (.t 149)),
  .q none (some 151) (.bin .gtr (.t 148) (.t 150)),
  .q none (some 145) (.mv (.t 151))])
 (.kp [8, 16, 18, 20, 22, 24, 25, 27, 128, 129, 130, 145] (.cond (.t 145) (.seq (.ops [.q none (some 152) (.faddr 2 (.t 27)),
  .q none (some 153) (.faddr 0 (.t 152)),
  .q none (some 154) (.load 1 false (.t 153)),
  .q none (some 155) (.faddr 0 (.t 20)),
  .q none (some 156) (.load 1 false (.t 155)),
  .q none (some 157) (.faddr 0 (.t 18)),
  .q none (some 158) (.load 1 false (.t 157)),
  .q none (some 159) (.bin .sub (.t 156) (.t 158)),
  .q none (some 160) (.bin .add (.t 154) (.t 159)),
  .q none (some 161) (.faddr 2 (.t 27)),
  .q none (some 162) (.faddr 0 (.t 161)),
  .e none none (.store 1 (.t 162) (.t 160))])
 (.kp [8, 16, 18, 20, 22, 24, 25, 27, 128, 129, 130] (.ops [.q none (some 163) (.mv (.t 25)),
  .q none (some 164) (.load 4 true (.t 27)),
  .e none (some 165) (.bslice 4 [(.t 164)]),
  .e none (some 166) (.append 57 4 false (.t 163) (.t 165)),
  .q none (some 25) (.mv (.t 166))]))) .skip))))))))))
 (.kp [8, 16, 18, 20, 22, 24, 25, 128, 129, 130] (.ops [.q none (some 167) (.bin .add (.t 130) (.k (.d (.int .i64 1)))),
  .q none (some 130) (.mv (.t 167))])))))))))))
 (.kp [8, 22, 24, 25] (.seq (.ops [.q none (some 168) (.mv (.t 24)),
  .q none (some 169) (.mv (.t 22)),
  .q none (some 170) (.mv (.t 25)),
  .e none (some 171) (.bslice 1 [(.t 168), (.t 169), (.t 170)]),
  .call none (some 172) 52 [(.t 171)],
  .q none (some 28) (.mv (.t 172))])
 (.kp [8, 22, 28] (.seq (.seq (.ops [.q none (some 173) (.mv (.t 28)),
  .q none (some 174) (.len (.t 173)),
  .q none (some 175) (.bin .gtr (.t 174) (.k (.d (.int .i64 6000))))])
 (.kp [8, 22, 28, 175] (.cond (.t 175) (.seq (.ops [.q none (some 176) (.build [(.int .i64 0), (.int .i64 0)] []),
  .q none (some 6) (.mv (.k .snil)),
  .q none (some 7) (.mv (.k (.d (.int .i64 0)))),
  .e none none (.store 2 (.t 8) (.t 176)),
  .q none (some 9) (.mv (.k (.d (.int .i64 3))))])
 .ret) .skip)))
 (.kp [8, 22, 28] (.seq (.ops [.q none (some 177) (.mv (.t 28)),
  .q none (some 178) (.mv (.t 22)),
  .q none (some 179) (.len (.t 178)),
  .q none (some 180) (.build [(.int .i64 0), (.int .i64 0)] []),
  .q none (some 6) (.mv (.t 177)),
  .q none (some 7) (.mv (.t 179)),
  .e none none (.store 2 (.t 8) (.t 180)),
  .q none (some 9) (.mv (.k (.d (.int .i64 0))))])
 .ret)))))))))))))))))))))))))))⟩
theorem c25 : chkF Γd.P Γd.E 25 3 i25 = true := by kernel_rfl
noncomputable def i27 : FI := -- cosigner/lex.Write
 ⟨8, [.t 2, .t 3],
 (.seq (.ops [.q none (some 2) (.mv (.k (.d (.str [])))),
  .q none (some 3) (.mv (.k (.d (.int .i64 0))))])
 (.kp [0] (.seq (.ops [.q none (some 4) (.mv (.t 0)),
  .call none (some 5) 54 [(.t 4), (.f 55)],
  .q none (some 6) (.extract (.t 5) 0),
  .q none (some 7) (.extract (.t 5) 1),
  .q none (some 2) (.mv (.t 6)),
  .q none (some 3) (.mv (.t 7))])
 .ret)))⟩
theorem c27 : chkF Γd.P Γd.E 27 1 i27 = true := by kernel_rfl
noncomputable def i28 : FI := -- cosigner/lex.Tight
 ⟨8, [.t 2, .t 3],
 (.seq (.ops [.q none (some 2) (.mv (.k (.d (.str [])))),
  .q none (some 3) (.mv (.k (.d (.int .i64 0))))])
 (.kp [0] (.seq (.ops [.q none (some 4) (.mv (.t 0)),
  .call none (some 5) 54 [(.t 4), (.f 56)],
  .q none (some 6) (.extract (.t 5) 0),
  .q none (some 7) (.extract (.t 5) 1),
  .q none (some 2) (.mv (.t 6)),
  .q none (some 3) (.mv (.t 7))])
 .ret)))⟩
theorem c28 : chkF Γd.P Γd.E 28 1 i28 = true := by kernel_rfl
noncomputable def i29 : FI := -- cosigner/cosignerref01.SameKinds
 ⟨41, [.t 4],
 (.seq (.ops [.q none (some 4) (.mv (.k (.d (.bool false))))])
 (.kp [0, 1] (.seq (.seq (.ops [.q none (some 6) (.mv (.t 0)),
  .q none (some 7) (.len (.t 6)),
  .q none (some 8) (.mv (.t 1)),
  .q none (some 9) (.len (.t 8)),
  .q none (some 10) (.bin .neq (.t 7) (.t 9))])
 (.kp [0, 1, 10] (.cond (.t 10) (.seq (.ops [.q none (some 4) (.mv (.k (.d (.bool false))))])
 .ret) .skip)))
 (.kp [0, 1] (.seq (.seq (.ops [.q none (some 5) (.mv (.k (.d (.int .i64 0))))])
 (.kp [0, 1, 5] (.block 0 (.loop [0, 1, 5] (.seq (.seq (.ops [.q none (some 11) (.mv (.t 5)),
  .q none (some 12) (.mv (.t 0)),
  .q none (some 13) (.len (.t 12)),
  .q none (some 14) (.bin .lss (.t 11) (.t 13))])
 (.kp [0, 1, 5, 14] (.cond (.t 14) .skip (.exit 0))))
 (.kp [0, 1, 5] (.seq (.block 1 (.seq (.draw (.q 0 (.q none (some 17) (.mv (.t 0))) (.q 1 (.q none (some 18) (.mv (.t 5))) (.q 2 (.q none (some 19) (.iaddr 4 (.t 17) (.t 18))) (.q 3 (.q none (some 20) (.faddr 0 (.t 19))) (.q 4 (.q none (some 21) (.load 1 false (.t 20))) (.q 5 (.q none (some 22) (.mv (.t 1))) (.q 6 (.q none (some 23) (.mv (.t 5))) (.q 7 (.q none (some 24) (.iaddr 4 (.t 22) (.t 23))) (.q 8 (.q none (some 25) (.faddr 0 (.t 24))) (.q 9 (.q none (some 26) (.load 1 false (.t 25))) (.q 10 (.q none (some 27) (.bin .neq (.t 21) (.t 26))) (.q 11 (.q none (some 28) (.mv (.t 27))) (.q 12 (.q (some (28, false)) (some 29) (.mv (.t 0))) (.q 13 (.q (some (28, false)) (some 30) (.mv (.t 5))) (.q 14 (.q (some (28, false)) (some 31) (.iaddr 4 (.t 29) (.t 30))) (.q 15 (.q (some (28, false)) (some 32) (.faddr 1 (.t 31))) (.q 16 (.q (some (28, false)) (some 33) (.load 1 false (.t 32))) (.q 17 (.q (some (28, false)) (some 34) (.mv (.t 1))) (.q 18 (.q (some (28, false)) (some 35) (.mv (.t 5))) (.q 19 (.q (some (28, false)) (some 36) (.iaddr 4 (.t 34) (.t 35))) (.q 20 (.q (some (28, false)) (some 37) (.faddr 1 (.t 36))) (.q 21 (.q (some (28, false)) (some 38) (.load 1 false (.t 37))) (.q 22 (.q (some (28, false)) (some 39) (.bin .neq (.t 33) (.t 38))) (.q 23 (.q none (some 40) (.pick (.t 28) (.k (.d (.bool true))) (.t 39))) .done)))))))))))))))))))))))))
 (.kp [0, 1, 5, 40] (.cond (.t 40) (.seq (.ops [.q none (some 4) (.mv (.k (.d (.bool false))))])
 .ret) .skip))))
 (.kp [0, 1, 5] (.ops [.q none (some 15) (.mv (.t 5)),
  .q none (some 16) (.bin .add (.t 15) (.k (.d (.int .i64 1)))),
  .q none (some 5) (.mv (.t 16))])))))))))
 (.kp [] (.seq (.ops [.q none (some 4) (.mv (.k (.d (.bool true))))])
 .ret)))))))⟩
theorem c29 : chkF Γd.P Γd.E 29 2 i29 = true := by kernel_rfl
noncomputable def i30 : FI := -- cosigner/cosignerref01.Tokens
 ⟨21, [.c 2 5 true],
 (.seq (.ops [.e none (some 2) (.alloc 67 [.snil, .snil, (.d (.int .i64 0)), (.d (.int .i64 0)), (.d (.int .i64 0))])])
 (.kp [0, 2] (.seq (.seq (.ops [.q none (some 4) (.mv (.t 0)),
  .q none (some 5) (.slen (.t 4)),
  .q none (some 6) (.bin .gtr (.t 5) (.k (.d (.int .i64 20000))))])
 (.kp [0, 2, 6] (.cond (.t 6) (.seq (.ops [.q none (some 7) (.build [(.slice []), (.slice []), (.int .i64 0), (.int .i64 0), (.int .i64 0)] [(4, 1, (.k (.d (.int .i64 3))))]),
  .e none none (.store 5 (.t 2) (.t 7))])
 .ret) .skip)))
 (.kp [0, 2] (.seq (.ops [.q none (some 8) (.mv (.t 0)),
  .call none (some 9) 57 [(.t 8)],
  .e none (some 3) (.alloc 67 [.snil, .snil, (.d (.int .i64 0)), (.d (.int .i64 0)), (.d (.int .i64 0))]),
  .e none none (.store 5 (.t 3) (.t 9))])
 (.kp [2, 3] (.seq (.seq (.ops [.q none (some 10) (.faddr 4 (.t 3)),
  .q none (some 11) (.load 1 false (.t 10)),
  .q none (some 12) (.bin .eql (.t 11) (.k (.d (.int .i64 0)))),
  .q none (some 13) (.mv (.t 12)),
  .q (some (13, true)) (some 14) (.faddr 0 (.t 3)),
  .q (some (13, true)) (some 15) (.load 1 false (.t 14)),
  .q (some (13, true)) (some 16) (.len (.t 15)),
  .q (some (13, true)) (some 17) (.bin .gtr (.t 16) (.k (.d (.int .i64 6000)))),
  .q none (some 18) (.pick (.t 13) (.t 17) (.k (.d (.bool false))))])
 (.kp [2, 3, 18] (.cond (.t 18) (.seq (.ops [.q none (some 19) (.build [(.slice []), (.slice []), (.int .i64 0), (.int .i64 0), (.int .i64 0)] [(4, 1, (.k (.d (.int .i64 3))))]),
  .e none none (.store 5 (.t 2) (.t 19))])
 .ret) .skip)))
 (.kp [2, 3] (.seq (.ops [.q none (some 20) (.load 5 true (.t 3)),
  .e none none (.store 5 (.t 2) (.t 20))])
 .ret)))))))))⟩
theorem c30 : chkF Γd.P Γd.E 30 1 i30 = true := by kernel_rfl
noncomputable def i31 : FI := -- cosigner/lex.Comments
 ⟨27, [.t 2, .t 3],
 (.seq (.ops [.q none (some 2) (.mv (.k .snil)),
  .q none (some 3) (.mv (.k (.d (.int .i64 0))))])
 (.kp [0] (.seq (.seq (.ops [.q none (some 11) (.mv (.t 0)),
  .call none (some 12) 22 [(.t 11)],
  .q none (some 10) (.mv (.t 12)),
  .q none (some 13) (.extract (.t 10) 0),
  .q none (some 14) (.extract (.t 10) 1),
  .q none (some 15) (.extract (.t 10) 2),
  .e none (some 5) (.alloc 23 [(.d (.int .i64 0)), (.d (.int .i64 0))]),
  .q none (some 4) (.mv (.t 13)),
  .e none none (.store 2 (.t 5) (.t 14)),
  .q none (some 6) (.mv (.t 15))])
 (.kp [0, 6] (.seq (.ops [.q none (some 16) (.mv (.t 6)),
  .q none (some 17) (.bin .neq (.t 16) (.k (.d (.int .i64 0))))])
 (.kp [0, 6, 17] (.cond (.t 17) (.seq (.ops [.q none (some 18) (.mv (.t 6)),
  .q none (some 2) (.mv (.k .snil)),
  .q none (some 3) (.mv (.t 18))])
 .ret) .skip)))))
 (.kp [0] (.seq (.ops [.q none (some 20) (.mv (.t 0)),
  .call none (some 21) 23 [(.t 20), (.k (.d (.str [10])))],
  .call none (some 22) 48 [(.t 21), (.k (.d (.int .i64 1))), (.f 58)],
  .q none (some 19) (.mv (.t 22)),
  .q none (some 23) (.extract (.t 19) 0),
  .q none (some 24) (.extract (.t 19) 1),
  .q none (some 25) (.extract (.t 19) 2),
  .e none (some 8) (.alloc 23 [(.d (.int .i64 0)), (.d (.int .i64 0))]),
  .q none (some 7) (.mv (.t 23)),
  .e none none (.store 2 (.t 8) (.t 24)),
  .q none (some 9) (.mv (.t 25))])
 (.kp [7] (.seq (.ops [.q none (some 26) (.mv (.t 7)),
  .q none (some 2) (.mv (.t 26)),
  .q none (some 3) (.mv (.k (.d (.int .i64 0))))])
 .ret)))))))⟩
theorem c31 : chkF Γd.P Γd.E 31 1 i31 = true := by kernel_rfl
noncomputable def i32 : FI := -- cosigner/lex.Shape
 ⟨48, [.t 2, .t 3],
 (.seq (.ops [.q none (some 2) (.mv (.k (.d (.int .i64 0)))),
  .q none (some 3) (.mv (.k (.d (.int .i64 0))))])
 (.kp [0] (.seq (.block 0 (.seq (.ops [.q none (some 7) (.mv (.t 0)),
  .q none (some 8) (.bin .eql (.t 7) (.k (.d (.str [])))),
  .q none (some 6) (.mv (.t 8))])
 (.kp [0, 6] (.cond (.t 6) (.seq (.ops [.q none (some 2) (.mv (.k (.d (.int .i64 0)))),
  .q none (some 3) (.mv (.k (.d (.int .i64 2))))])
 .ret) (.seq (.ops [.q none (some 10) (.mv (.t 0)),
  .call none (some 11) 59 [(.t 10)],
  .q none (some 12) (.mv (.t 0)),
  .q none (some 13) (.slen (.t 12)),
  .q none (some 14) (.bin .eql (.t 11) (.t 13)),
  .q none (some 15) (.mv (.t 14)),
  .q (some (15, true)) (some 16) (.mv (.t 0)),
  .q (some (15, true)) (some 17) (.sindex (.t 16) (.k (.d (.int .i64 0)))),
  .call (some (15, true)) (some 18) 60 [(.t 17)],
  .q none (some 19) (.pick (.t 15) (.t 18) (.k (.d (.bool false)))),
  .q none (some 9) (.mv (.t 19))])
 (.kp [0, 9] (.cond (.t 9) (.seq (.ops [.q none (some 21) (.mv (.t 0)),
  .call none (some 22) 61 [(.t 21)],
  .q none (some 20) (.mv (.t 22)),
  .q none (some 23) (.extract (.t 20) 0),
  .q none (some 24) (.extract (.t 20) 1),
  .q none (some 4) (.mv (.t 23)),
  .q none (some 5) (.mv (.t 24))])
 (.kp [5] (.seq (.seq (.ops [.q none (some 25) (.mv (.t 5)),
  .q none (some 26) (.bin .neq (.t 25) (.k (.d (.int .i64 0))))])
 (.kp [5, 26] (.cond (.t 26) (.seq (.ops [.q none (some 27) (.mv (.t 5)),
  .q none (some 2) (.mv (.k (.d (.int .i64 0)))),
  .q none (some 3) (.mv (.t 27))])
 .ret) .skip)))
 (.kp [] (.seq (.ops [.q none (some 2) (.mv (.k (.d (.int .i64 4)))),
  .q none (some 3) (.mv (.k (.d (.int .i64 0))))])
 .ret))))) (.seq (.ops [.q none (some 29) (.mv (.t 0)),
  .call none (some 30) 59 [(.t 29)],
  .q none (some 31) (.mv (.t 0)),
  .q none (some 32) (.slen (.t 31)),
  .q none (some 33) (.bin .eql (.t 30) (.t 32)),
  .q none (some 34) (.mv (.t 33)),
  .q (some (34, true)) (some 35) (.mv (.t 0)),
  .q (some (34, true)) (some 36) (.sindex (.t 35) (.k (.d (.int .i64 0)))),
  .q (some (34, true)) (some 37) (.bin .neq (.t 36) (.k (.d (.int .u8 95)))),
  .q none (some 38) (.pick (.t 34) (.t 37) (.k (.d (.bool false)))),
  .q none (some 28) (.mv (.t 38))])
 (.kp [0, 28] (.cond (.t 28) (.seq (.ops [.q none (some 39) (.mv (.t 0)),
  .call none (some 40) 62 [(.t 39)],
  .q none (some 41) (.extract (.t 40) 0),
  .q none (some 42) (.extract (.t 40) 1),
  .q none (some 2) (.mv (.t 41)),
  .q none (some 3) (.mv (.t 42))])
 .ret) (.seq (.ops [.q none (some 44) (.mv (.t 0)),
  .call none (some 45) 63 [(.t 44)],
  .q none (some 46) (.mv (.t 0)),
  .q none (some 47) (.bin .eql (.t 45) (.t 46)),
  .q none (some 43) (.mv (.t 47))])
 (.kp [43] (.cond (.t 43) (.seq (.ops [.q none (some 2) (.mv (.k (.d (.int .i64 5)))),
  .q none (some 3) (.mv (.k (.d (.int .i64 0))))])
 .ret) .skip)))))))))))))
 (.kp [] (.seq (.ops [.q none (some 2) (.mv (.k (.d (.int .i64 0)))),
  .q none (some 3) (.mv (.k (.d (.int .i64 2))))])
 .ret)))))⟩
theorem c32 : chkF Γd.P Γd.E 32 1 i32 = true := by kernel_rfl
noncomputable def i33 : FI := -- cosigner/cosignerref01.Shape
 ⟨38, [.c 2 2 true],
 (.seq (.ops [.e none (some 2) (.alloc 73 [(.d (.int .i64 0)), (.d (.int .i64 0))])])
 (.kp [0, 2] (.seq (.seq (.ops [.call none (some 4) 65 [],
  .q none (some 5) (.mv (.t 0)),
  .call none (some 6) 64 [(.t 4), (.t 5)]])
 (.kp [0, 2, 6] (.cond (.t 6) (.seq (.ops [.q none (some 7) (.build [(.int .i64 0), (.int .i64 0)] [(0, 1, (.k (.d (.int .i64 5))))]),
  .e none none (.store 2 (.t 2) (.t 7))])
 .ret) .skip)))
 (.kp [0, 2] (.seq (.seq (.ops [.q none (some 8) (.mv (.t 0)),
  .q none (some 9) (.slen (.t 8)),
  .q none (some 10) (.bin .eql (.t 9) (.k (.d (.int .i64 0)))),
  .q none (some 11) (.mv (.t 10)),
  .q (some (11, false)) (some 12) (.mv (.t 0)),
  .call (some (11, false)) (some 13) 66 [(.t 12), (.k (.d (.int .i64 0)))],
  .q (some (11, false)) (some 14) (.mv (.t 0)),
  .q (some (11, false)) (some 15) (.slen (.t 14)),
  .q (some (11, false)) (some 16) (.bin .lss (.t 13) (.t 15)),
  .q none (some 17) (.pick (.t 11) (.k (.d (.bool true))) (.t 16)),
  .q none (some 18) (.mv (.t 17)),
  .q (some (18, false)) (some 19) (.mv (.t 0)),
  .q (some (18, false)) (some 20) (.sindex (.t 19) (.k (.d (.int .i64 0)))),
  .q (some (18, false)) (some 21) (.bin .eql (.t 20) (.k (.d (.int .u8 95)))),
  .q none (some 22) (.pick (.t 18) (.k (.d (.bool true))) (.t 21))])
 (.kp [0, 2, 22] (.cond (.t 22) (.seq (.ops [.q none (some 23) (.build [(.int .i64 0), (.int .i64 0)] [(1, 1, (.k (.d (.int .i64 2))))]),
  .e none none (.store 2 (.t 2) (.t 23))])
 .ret) .skip)))
 (.kp [0, 2] (.seq (.seq (.ops [.q none (some 24) (.mv (.t 0)),
  .q none (some 25) (.sindex (.t 24) (.k (.d (.int .i64 0)))),
  .call none (some 26) 67 [(.t 25)]])
 (.kp [0, 2, 26] (.cond (.t 26) (.seq (.ops [.q none (some 27) (.mv (.t 0)),
  .call none (some 28) 68 [(.t 27)],
  .e none (some 3) (.alloc 33 [(.d (.int .i64 0)), (.d (.int .i64 0))]),
  .e none none (.store 2 (.t 3) (.t 28))])
 (.kp [2, 3] (.seq (.seq (.ops [.q none (some 29) (.faddr 1 (.t 3)),
  .q none (some 30) (.load 1 false (.t 29)),
  .q none (some 31) (.bin .neq (.t 30) (.k (.d (.int .i64 0))))])
 (.kp [2, 3, 31] (.cond (.t 31) (.seq (.ops [.q none (some 32) (.faddr 1 (.t 3)),
  .q none (some 33) (.load 1 false (.t 32)),
  .q none (some 34) (.build [(.int .i64 0), (.int .i64 0)] [(1, 1, (.t 33))]),
  .e none none (.store 2 (.t 2) (.t 34))])
 .ret) .skip)))
 (.kp [2] (.seq (.ops [.q none (some 35) (.build [(.int .i64 0), (.int .i64 0)] [(0, 1, (.k (.d (.int .i64 4))))]),
  .e none none (.store 2 (.t 2) (.t 35))])
 .ret))))) .skip)))
 (.kp [0, 2] (.seq (.ops [.q none (some 36) (.mv (.t 0)),
  .call none (some 37) 69 [(.t 36)],
  .e none none (.store 2 (.t 2) (.t 37))])
 .ret)))))))))⟩
theorem c33 : chkF Γd.P Γd.E 33 1 i33 = true := by kernel_rfl
noncomputable def i34 : FI := -- cosigner/lex.Value
 ⟨22, [.t 2, .t 3],
 (.seq (.ops [.q none (some 2) (.mv (.k (.d (.int .i64 0)))),
  .q none (some 3) (.mv (.k (.d (.int .i64 0))))])
 (.kp [0] (.seq (.ops [.q none (some 7) (.mv (.t 0)),
  .call none (some 8) 32 [(.t 7)],
  .q none (some 6) (.mv (.t 8)),
  .q none (some 9) (.extract (.t 6) 0),
  .q none (some 10) (.extract (.t 6) 1),
  .q none (some 4) (.mv (.t 9)),
  .q none (some 5) (.mv (.t 10))])
 (.kp [0, 4, 5] (.seq (.block 0 (.seq (.ops [.q none (some 12) (.mv (.t 5)),
  .q none (some 13) (.bin .neq (.t 12) (.k (.d (.int .i64 0)))),
  .q none (some 11) (.mv (.t 13))])
 (.kp [0, 4, 5, 11] (.cond (.t 11) (.seq (.ops [.q none (some 14) (.mv (.t 5)),
  .q none (some 2) (.mv (.k (.d (.int .i64 0)))),
  .q none (some 3) (.mv (.t 14))])
 .ret) (.seq (.ops [.q none (some 16) (.mv (.t 4)),
  .q none (some 17) (.bin .neq (.t 16) (.k (.d (.int .i64 4)))),
  .q none (some 15) (.mv (.t 17))])
 (.kp [0, 15] (.cond (.t 15) (.seq (.ops [.q none (some 2) (.mv (.k (.d (.int .i64 0)))),
  .q none (some 3) (.mv (.k (.d (.int .i64 2))))])
 .ret) .skip)))))))
 (.kp [0] (.seq (.ops [.q none (some 18) (.mv (.t 0)),
  .call none (some 19) 61 [(.t 18)],
  .q none (some 20) (.extract (.t 19) 0),
  .q none (some 21) (.extract (.t 19) 1),
  .q none (some 2) (.mv (.t 20)),
  .q none (some 3) (.mv (.t 21))])
 .ret)))))))⟩
theorem c34 : chkF Γd.P Γd.E 34 1 i34 = true := by kernel_rfl
noncomputable def i35 : FI := -- cosigner/cosignerref01.Value
 ⟨18, [.c 2 2 true],
 (.seq (.ops [.e none (some 2) (.alloc 33 [(.d (.int .i64 0)), (.d (.int .i64 0))])])
 (.kp [0, 2] (.seq (.ops [.q none (some 4) (.mv (.t 0)),
  .call none (some 5) 33 [(.t 4)],
  .e none (some 3) (.alloc 73 [(.d (.int .i64 0)), (.d (.int .i64 0))]),
  .e none none (.store 2 (.t 3) (.t 5))])
 (.kp [0, 2, 3] (.seq (.seq (.ops [.q none (some 6) (.faddr 1 (.t 3)),
  .q none (some 7) (.load 1 false (.t 6)),
  .q none (some 8) (.bin .neq (.t 7) (.k (.d (.int .i64 0))))])
 (.kp [0, 2, 3, 8] (.cond (.t 8) (.seq (.ops [.q none (some 9) (.faddr 1 (.t 3)),
  .q none (some 10) (.load 1 false (.t 9)),
  .q none (some 11) (.build [(.int .i64 0), (.int .i64 0)] [(1, 1, (.t 10))]),
  .e none none (.store 2 (.t 2) (.t 11))])
 .ret) .skip)))
 (.kp [0, 2, 3] (.seq (.seq (.ops [.q none (some 12) (.faddr 0 (.t 3)),
  .q none (some 13) (.load 1 false (.t 12)),
  .q none (some 14) (.bin .neq (.t 13) (.k (.d (.int .i64 4))))])
 (.kp [0, 2, 14] (.cond (.t 14) (.seq (.ops [.q none (some 15) (.build [(.int .i64 0), (.int .i64 0)] [(1, 1, (.k (.d (.int .i64 2))))]),
  .e none none (.store 2 (.t 2) (.t 15))])
 .ret) .skip)))
 (.kp [0, 2] (.seq (.ops [.q none (some 16) (.mv (.t 0)),
  .call none (some 17) 68 [(.t 16)],
  .e none none (.store 2 (.t 2) (.t 17))])
 .ret)))))))))⟩
theorem c35 : chkF Γd.P Γd.E 35 1 i35 = true := by kernel_rfl
noncomputable def i36 : FI := -- cosigner/lex.Keywords
 ⟨2, [.t 0],
 (.seq (.ops [.q none (some 0) (.mv (.k .snil))])
 (.kp [] (.seq (.ops [.call none (some 1) 70 [(.k (.d (.str [97, 110, 100, 32, 97, 115, 32, 97, 116, 116, 97, 99, 104, 101, 100, 32, 99, 104, 101, 99, 107, 32, 99, 108, 97, 115, 115, 32, 99, 114, 101, 97, 116, 101, 32, 100, 101, 102, 101, 114, 114, 101, 100, 32, 100, 101, 116, 97, 99, 104, 97, 98, 108, 101, 32, 100, 111, 32, 101, 108, 115, 101, 32, 101, 110, 100, 32, 101, 110, 115, 117, 114, 101, 32, 102, 101, 97, 116, 117, 114, 101, 32, 102, 114, 111, 109, 32, 105, 102, 32, 105, 109, 112, 108, 105, 101, 115, 32, 105, 110, 104, 101, 114, 105, 116, 32, 105, 110, 118, 97, 114, 105, 97, 110, 116, 32, 108, 111, 99, 97, 108, 32, 108, 111, 111, 112, 32, 110, 111, 116, 32, 111, 108, 100, 32, 111, 114, 32, 112, 117, 116, 32, 114, 97, 105, 115, 101, 32, 114, 101, 100, 101, 102, 105, 110, 101, 32, 114, 101, 110, 97, 109, 101, 32, 114, 101, 113, 117, 105, 114, 101, 32, 114, 101, 115, 99, 117, 101, 32, 114, 101, 116, 114, 121, 32, 115, 101, 108, 101, 99, 116, 32, 115, 101, 112, 97, 114, 97, 116, 101, 32, 116, 104, 101, 110, 32, 117, 110, 100, 101, 102, 105, 110, 101, 32, 117, 110, 116, 105, 108, 32, 118, 97, 114, 105, 97, 110, 116, 32, 119, 104, 101, 110])))],
  .q none (some 0) (.mv (.t 1))])
 .ret)))⟩
theorem c36 : chkF Γd.P Γd.E 36 0 i36 = true := by kernel_rfl
noncomputable def i37 : FI := -- cosigner/cosignerref01.Keywords
 ⟨2, [.t 0],
 (.seq (.ops [.q none (some 0) (.mv (.k .snil))])
 (.kp [] (.seq (.ops [.e none (some 1) (.bslice 1 [(.k (.d (.str [97, 110, 100]))), (.k (.d (.str [97, 115]))), (.k (.d (.str [97, 116, 116, 97, 99, 104, 101, 100]))), (.k (.d (.str [99, 104, 101, 99, 107]))), (.k (.d (.str [99, 108, 97, 115, 115]))), (.k (.d (.str [99, 114, 101, 97, 116, 101]))), (.k (.d (.str [100, 101, 102, 101, 114, 114, 101, 100]))), (.k (.d (.str [100, 101, 116, 97, 99, 104, 97, 98, 108, 101]))), (.k (.d (.str [100, 111]))), (.k (.d (.str [101, 108, 115, 101]))), (.k (.d (.str [101, 110, 100]))), (.k (.d (.str [101, 110, 115, 117, 114, 101]))), (.k (.d (.str [102, 101, 97, 116, 117, 114, 101]))), (.k (.d (.str [102, 114, 111, 109]))), (.k (.d (.str [105, 102]))), (.k (.d (.str [105, 109, 112, 108, 105, 101, 115]))), (.k (.d (.str [105, 110, 104, 101, 114, 105, 116]))), (.k (.d (.str [105, 110, 118, 97, 114, 105, 97, 110, 116]))), (.k (.d (.str [108, 111, 99, 97, 108]))), (.k (.d (.str [108, 111, 111, 112]))), (.k (.d (.str [110, 111, 116]))), (.k (.d (.str [111, 108, 100]))), (.k (.d (.str [111, 114]))), (.k (.d (.str [112, 117, 116]))), (.k (.d (.str [114, 97, 105, 115, 101]))), (.k (.d (.str [114, 101, 100, 101, 102, 105, 110, 101]))), (.k (.d (.str [114, 101, 110, 97, 109, 101]))), (.k (.d (.str [114, 101, 113, 117, 105, 114, 101]))), (.k (.d (.str [114, 101, 115, 99, 117, 101]))), (.k (.d (.str [114, 101, 116, 114, 121]))), (.k (.d (.str [115, 101, 108, 101, 99, 116]))), (.k (.d (.str [115, 101, 112, 97, 114, 97, 116, 101]))), (.k (.d (.str [116, 104, 101, 110]))), (.k (.d (.str [117, 110, 100, 101, 102, 105, 110, 101]))), (.k (.d (.str [117, 110, 116, 105, 108]))), (.k (.d (.str [118, 97, 114, 105, 97, 110, 116]))), (.k (.d (.str [119, 104, 101, 110])))]),
  .q none (some 0) (.mv (.t 1))])
 .ret)))⟩
theorem c37 : chkF Γd.P Γd.E 37 0 i37 = true := by kernel_rfl
noncomputable def i38 : FI := -- cosigner/lex.Same
 ⟨32, [.t 4, .t 5],
 (.seq (.ops [.q none (some 4) (.mv (.k (.d (.bool false)))),
  .q none (some 5) (.mv (.k (.d (.int .i64 0))))])
 (.kp [0, 1] (.seq (.ops [.q none (some 12) (.mv (.t 0)),
  .call none (some 13) 22 [(.t 12)],
  .q none (some 11) (.mv (.t 13)),
  .q none (some 14) (.extract (.t 11) 0),
  .q none (some 15) (.extract (.t 11) 1),
  .q none (some 16) (.extract (.t 11) 2),
  .e none (some 7) (.alloc 23 [(.d (.int .i64 0)), (.d (.int .i64 0))]),
  .q none (some 6) (.mv (.t 14)),
  .e none none (.store 2 (.t 7) (.t 15)),
  .q none (some 8) (.mv (.t 16))])
 (.kp [1, 6, 8] (.seq (.seq (.ops [.q none (some 17) (.mv (.t 8)),
  .q none (some 18) (.bin .neq (.t 17) (.k (.d (.int .i64 0))))])
 (.kp [1, 6, 8, 18] (.cond (.t 18) (.seq (.ops [.q none (some 19) (.mv (.t 8)),
  .q none (some 4) (.mv (.k (.d (.bool false)))),
  .q none (some 5) (.mv (.t 19))])
 .ret) .skip)))
 (.kp [1, 6] (.seq (.ops [.q none (some 21) (.mv (.t 1)),
  .call none (some 22) 22 [(.t 21)],
  .q none (some 20) (.mv (.t 22)),
  .q none (some 23) (.extract (.t 20) 0),
  .q none (some 24) (.extract (.t 20) 1),
  .q none (some 25) (.extract (.t 20) 2),
  .e none (some 10) (.alloc 23 [(.d (.int .i64 0)), (.d (.int .i64 0))]),
  .q none (some 9) (.mv (.t 23)),
  .e none none (.store 2 (.t 10) (.t 24)),
  .q none (some 8) (.mv (.t 25))])
 (.kp [6, 8, 9] (.seq (.seq (.ops [.q none (some 26) (.mv (.t 8)),
  .q none (some 27) (.bin .neq (.t 26) (.k (.d (.int .i64 0))))])
 (.kp [6, 8, 9, 27] (.cond (.t 27) (.seq (.ops [.q none (some 28) (.mv (.t 8)),
  .q none (some 4) (.mv (.k (.d (.bool false)))),
  .q none (some 5) (.mv (.t 28))])
 .ret) .skip)))
 (.kp [6, 9] (.seq (.ops [.q none (some 29) (.mv (.t 6)),
  .q none (some 30) (.mv (.t 9)),
  .call none (some 31) 71 [(.t 29), (.t 30), (.f 72)],
  .q none (some 4) (.mv (.t 31)),
  .q none (some 5) (.mv (.k (.d (.int .i64 0))))])
 .ret)))))))))))⟩
theorem c38 : chkF Γd.P Γd.E 38 2 i38 = true := by kernel_rfl
noncomputable def i40 : FI := -- cosigner/cosignerlaw01.at
 ⟨8, [.c 4 2 true],
 (.seq (.ops [.e none (some 4) (.alloc 23 [(.d (.int .i64 0)), (.d (.int .i64 0))])])
 (.kp [0, 1, 4] (.seq (.ops [.q none (some 5) (.mv (.t 0)),
  .q none (some 6) (.mv (.t 1)),
  .q none (some 7) (.build [(.int .i64 0), (.int .i64 0)] [(0, 1, (.t 5)), (1, 1, (.t 6))]),
  .e none none (.store 2 (.t 4) (.t 7))])
 .ret)))⟩
theorem c40 : chkF Γd.P Γd.E 40 2 i40 = true := by kernel_rfl
noncomputable def i41 : FI := -- cosigner/cosignerref01.lines
 ⟨31, [.t 2],
 (.seq (.ops [.q none (some 2) (.mv (.k .snil))])
 (.kp [0] (.seq (.ops [.q none (some 3) (.mv (.k .snil)),
  .own 3 (9, 1)])
 (.kp [0, 3] (.seq (.ops [.q none (some 4) (.mv (.k (.d (.int .i64 0))))])
 (.kp [0, 3, 4] (.seq (.seq (.ops [.q none (some 5) (.mv (.k (.d (.int .i64 0))))])
 (.kp [0, 3, 4, 5] (.block 0 (.loop [0, 3, 4, 5] (.seq (.seq (.ops [.q none (some 6) (.mv (.t 5)),
  .q none (some 7) (.mv (.t 0)),
  .q none (some 8) (.slen (.t 7)),
  .q none (some 9) (.bin .lss (.t 6) (.t 8))])
 (.kp [0, 3, 4, 5, 9] (.cond (.t 9) .skip (.exit 0))))
 (.kp [0, 3, 4, 5] (.seq (.block 1 (.seq (.ops [.q none (some 12) (.mv (.t 0)),
  .q none (some 13) (.mv (.t 5)),
  .q none (some 14) (.sindex (.t 12) (.t 13)),
  .q none (some 15) (.bin .eql (.t 14) (.k (.d (.int .u8 10))))])
 (.kp [0, 3, 4, 5, 15] (.cond (.t 15) (.seq (.ops [.q none (some 16) (.mv (.t 3)),
  .q none (some 17) (.mv (.t 0)),
  .q none (some 18) (.mv (.t 4)),
  .q none (some 19) (.mv (.t 5)),
  .q none (some 20) (.sslice (.t 17) (some (.t 18)) (some (.t 19))),
  .e none (some 21) (.bslice 1 [(.t 20)]),
  .e none (some 22) (.append 9 1 false (.t 16) (.t 21)),
  .q none (some 3) (.mv (.t 22))])
 (.kp [0, 3, 5] (.ops [.q none (some 23) (.mv (.t 5)),
  .q none (some 24) (.bin .add (.t 23) (.k (.d (.int .i64 1)))),
  .q none (some 4) (.mv (.t 24))]))) .skip))))
 (.kp [0, 3, 4, 5] (.ops [.q none (some 10) (.mv (.t 5)),
  .q none (some 11) (.bin .add (.t 10) (.k (.d (.int .i64 1)))),
  .q none (some 5) (.mv (.t 11))])))))))))
 (.kp [0, 3, 4] (.seq (.ops [.q none (some 25) (.mv (.t 3)),
  .q none (some 26) (.mv (.t 0)),
  .q none (some 27) (.mv (.t 4)),
  .q none (some 28) (.sslice (.t 26) (some (.t 27)) none),
  .e none (some 29) (.bslice 1 [(.t 28)]),
  .e none (some 30) (.append 9 1 false (.t 25) (.t 29)),
  .q none (some 2) (.mv (.t 30))])
 .ret)))))))))⟩
theorem c41 : chkF Γd.P Γd.E 41 1 i41 = true := by kernel_rfl
noncomputable def i44 : FI := -- cosigner/cosignerref01.PlaceAt
 ⟨26, [.c 4 2 true],
 (.seq (.ops [.e none (some 4) (.alloc 23 [(.d (.int .i64 0)), (.d (.int .i64 0))])])
 (.kp [0, 1, 4] (.seq (.ops [.q none (some 7) (.build [(.int .i64 0), (.int .i64 0)] [(0, 1, (.k (.d (.int .i64 1)))), (1, 1, (.k (.d (.int .i64 1))))]),
  .e none (some 5) (.alloc 23 [(.d (.int .i64 0)), (.d (.int .i64 0))]),
  .e none none (.store 2 (.t 5) (.t 7))])
 (.kp [0, 1, 4, 5] (.seq (.seq (.ops [.q none (some 6) (.mv (.k (.d (.int .i64 0))))])
 (.kp [0, 1, 4, 5, 6] (.block 0 (.loop [0, 1, 4, 5, 6] (.seq (.seq (.ops [.q none (some 8) (.mv (.t 6)),
  .q none (some 9) (.mv (.t 1)),
  .q none (some 10) (.bin .lss (.t 8) (.t 9))])
 (.kp [0, 1, 4, 5, 6, 10] (.cond (.t 10) .skip (.exit 0))))
 (.kp [0, 1, 4, 5, 6] (.seq (.block 1 (.seq (.ops [.q none (some 13) (.faddr 1 (.t 5)),
  .q none (some 14) (.load 1 false (.t 13)),
  .q none (some 15) (.bin .add (.t 14) (.k (.d (.int .i64 1)))),
  .q none (some 16) (.faddr 1 (.t 5)),
  .e none none (.store 1 (.t 16) (.t 15))])
 (.kp [0, 1, 4, 5, 6] (.seq (.ops [.q none (some 17) (.mv (.t 0)),
  .q none (some 18) (.mv (.t 6)),
  .q none (some 19) (.sindex (.t 17) (.t 18)),
  .q none (some 20) (.bin .eql (.t 19) (.k (.d (.int .u8 10))))])
 (.kp [0, 1, 4, 5, 6, 20] (.cond (.t 20) (.ops [.q none (some 21) (.faddr 0 (.t 5)),
  .q none (some 22) (.load 1 false (.t 21)),
  .q none (some 23) (.bin .add (.t 22) (.k (.d (.int .i64 1)))),
  .q none (some 24) (.build [(.int .i64 0), (.int .i64 0)] [(0, 1, (.t 23)), (1, 1, (.k (.d (.int .i64 1))))]),
  .e none none (.store 2 (.t 5) (.t 24))]) .skip))))))
 (.kp [0, 1, 4, 5, 6] (.ops [.q none (some 11) (.mv (.t 6)),
  .q none (some 12) (.bin .add (.t 11) (.k (.d (.int .i64 1)))),
  .q none (some 6) (.mv (.t 12))])))))))))
 (.kp [4, 5] (.seq (.ops [.q none (some 25) (.load 2 true (.t 5)),
  .e none none (.store 2 (.t 4) (.t 25))])
 .ret)))))))⟩
theorem c44 : chkF Γd.P Γd.E 44 2 i44 = true := by kernel_rfl
noncomputable def i45 : FI := -- (*strings.Builder).WriteString
 ⟨19, [.t 4, .t 5],
 (.seq (.ops [.q none (some 4) (.mv (.k (.d (.int .i64 0)))),
  .q none (some 5) (.mv (.k .nili))])
 (.kp [0, 1] (.seq (.ops [.q none (some 6) (.mv (.t 0)),
  .call none (some 7) 79 [(.t 6)]])
 (.kp [0, 1] (.seq (.ops [.q none (some 8) (.mv (.t 0)),
  .q none (some 9) (.mv (.t 0)),
  .q none (some 10) (.nilchk (.t 9)),
  .q none (some 11) (.faddr 1 (.t 10)),
  .q none (some 12) (.load 1 false (.t 11)),
  .q none (some 13) (.mv (.t 1)),
  .e none (some 14) (.append 5 1 true (.t 12) (.t 13)),
  .q none (some 15) (.nilchk (.t 8)),
  .q none (some 16) (.faddr 1 (.t 15)),
  .e none none (.store 1 (.t 16) (.t 14))])
 (.kp [1] (.seq (.ops [.q none (some 17) (.mv (.t 1)),
  .q none (some 18) (.slen (.t 17)),
  .q none (some 4) (.mv (.t 18)),
  .q none (some 5) (.mv (.k .nili))])
 .ret)))))))⟩
theorem c45 : chkF Γd.P Γd.E 45 2 i45 = true := by kernel_rfl
noncomputable def i46 : FI := -- (*strings.Builder).Len
 ⟨8, [.t 2],
 (.seq (.ops [.q none (some 2) (.mv (.k (.d (.int .i64 0))))])
 (.kp [0] (.seq (.ops [.q none (some 3) (.mv (.t 0)),
  .q none (some 4) (.nilchk (.t 3)),
  .q none (some 5) (.faddr 1 (.t 4)),
  .q none (some 6) (.load 1 false (.t 5)),
  .q none (some 7) (.len (.t 6)),
  .q none (some 2) (.mv (.t 7))])
 .ret)))⟩
theorem c46 : chkF Γd.P Γd.E 46 1 i46 = true := by kernel_rfl
-- 47 (*strings.Builder).String: not covered
noncomputable def i48 : FI := -- cosigner/lex.read
 ⟨53, [.c 6 1 false, .c 7 2 true, .c 8 1 false],
 (.seq (.ops [.e none (some 4) (.box 3 (.t 1)),
  .e none (some 5) (.box 97 (.t 2)),
  .e none (some 6) (.alloc 52 [.snil]),
  .e none (some 7) (.alloc 23 [(.d (.int .i64 0)), (.d (.int .i64 0))]),
  .e none (some 8) (.alloc 29 [(.d (.int .i64 0))])])
 (.kp [0, 4, 5, 6, 7, 8] (.seq (.ops [.e none (some 9) (.alloc 52 [.snil]),
  .ownb 9 0 (57, 4)])
 (.kp [0, 4, 5, 6, 7, 8, 9] (.seq (.seq (.ops [.q none (some 13) (.mv (.t 0)),
  .q none (some 14) (.len (.t 13)),
  .q none (some 15) (.mv (.k (.d (.int .i64 0))))])
 (.kp [4, 5, 6, 7, 8, 9, 13, 14, 15] (.block 0 (.loop [4, 5, 6, 7, 8, 9, 13, 14, 15] (.seq (.ops [.q none (some 16) (.bin .lss (.t 15) (.t 14))])
 (.kp [4, 5, 6, 7, 8, 9, 13, 14, 15, 16] (.seq (.cond (.t 16) .skip (.exit 0))
 (.kp [4, 5, 6, 7, 8, 9, 13, 14, 15] (.seq (.block 1 (.seq (.ops [.q none (some 17) (.mv (.t 15)),
  .q none (some 18) (.iaddr 1 (.t 13) (.t 15)),
  .q none (some 19) (.load 1 false (.t 18)),
  .e none (some 10) (.alloc 3 [(.d (.int .i64 0))]),
  .e none none (.store 1 (.t 10) (.t 17)),
  .q none (some 11) (.mv (.t 19))])
 (.kp [4, 5, 6, 7, 8, 9, 10, 11, 13, 14, 15] (.seq (.ops [.q none (some 20) (.mv (.t 11)),
  .call none (some 21) 80 [(.t 20)]])
 (.kp [4, 5, 6, 7, 8, 9, 10, 13, 14, 15, 21] (.block 2 (.rf (.t 21) 22 (.ops [.e none (some 12) (.alloc 116 [(.d (.int .i64 0)), (.d (.str [])), (.d (.int .i64 0)), (.d (.int .i64 0)), (.d (.int .i64 0)), (.d (.int .i64 0))]),
  .e none none (.store 6 (.t 12) (.t 22))])
 (.kp [4, 5, 6, 7, 8, 9, 10, 12] (.block 3 (.seq (.ops [.q none (some 23) (.load 1 false (.t 4)),
  .q none (some 24) (.load 1 false (.t 10)),
  .q none (some 25) (.bin .add (.t 23) (.t 24)),
  .q none (some 26) (.faddr 4 (.t 12)),
  .q none (some 27) (.load 1 false (.t 26)),
  .q none (some 28) (.bin .add (.k (.d (.int .i64 1))) (.t 27)),
  .q none (some 29) (.build [(.int .i64 0), (.int .i64 0)] [(0, 1, (.t 25)), (1, 1, (.t 28))]),
  .q none (some 30) (.faddr 0 (.t 12)),
  .q none (some 31) (.faddr 2 (.t 30)),
  .e none none (.store 2 (.t 31) (.t 29))])
 (.kp [5, 6, 7, 8, 9, 12] (.seq (.seq (.ops [.q none (some 32) (.faddr 5 (.t 12)),
  .q none (some 33) (.load 1 false (.t 32)),
  .q none (some 34) (.bin .neq (.t 33) (.k (.d (.int .i64 0))))])
 (.kp [5, 6, 7, 8, 9, 12, 34] (.cond (.t 34) (.seq (.draw (.q 0 (.q none (some 35) (.faddr 0 (.t 12))) (.q 1 (.q none (some 36) (.faddr 2 (.t 35))) (.q 2 (.q none (some 37) (.load 2 true (.t 36))) (.q 3 (.q none (some 38) (.faddr 5 (.t 12))) (.q 4 (.q none (some 39) (.load 1 false (.t 38))) (.br (.cons 5 [] (.e none none (.store 1 (.t 6) (.k .snil))) (.br (.cons 6 [0, 1, 2, 5] (.e none none (.store 2 (.t 7) (.t 37))) (.br (.cons 7 [0, 1, 2, 3, 4, 5, 6] (.e none none (.store 1 (.t 8) (.t 39))) .done .nil)) .nil)) .nil))))))))
 .ret) .skip)))
 (.kp [5, 9, 12] (.seq (.ops [.q none (some 40) (.load 1 false (.t 5)),
  .q none (some 41) (.faddr 0 (.t 12)),
  .q none (some 42) (.faddr 0 (.t 41)),
  .q none (some 43) (.load 1 false (.t 42)),
  .callv none (some 44) (.t 40) [(.t 43)]])
 (.kp [9, 12, 44] (.cond (.t 44) (.ops [.q none (some 45) (.load 1 false (.t 9)),
  .q none (some 46) (.faddr 0 (.t 12)),
  .q none (some 47) (.load 4 true (.t 46)),
  .e none (some 48) (.bslice 4 [(.t 47)]),
  .e none (some 49) (.append 57 4 false (.t 45) (.t 48)),
  .e none none (.store 1 (.t 9) (.t 49))]) .skip))))))))))))))))
 (.kp [4, 5, 6, 7, 8, 9, 13, 14, 15] (.ops [.q none (some 50) (.bin .add (.t 15) (.k (.d (.int .i64 1)))),
  .q none (some 15) (.mv (.t 50))])))))))))))
 (.kp [6, 7, 8, 9] (.seq (.ops [.q none (some 51) (.load 1 false (.t 9)),
  .q none (some 52) (.build [(.int .i64 0), (.int .i64 0)] []),
  .e none none (.store 1 (.t 6) (.t 51)),
  .e none none (.store 2 (.t 7) (.t 52)),
  .e none none (.store 1 (.t 8) (.k (.d (.int .i64 0))))])
 .ret)))))))⟩
theorem c48 : chkF Γd.P Γd.E 48 3 i48 = true := by kernel_rfl
noncomputable def i49 : FI := -- cosigner/lex.token
 ⟨5, [.t 2],
 (.seq (.ops [.q none (some 2) (.mv (.k (.d (.bool false))))])
 (.kp [0] (.seq (.ops [.q none (some 3) (.mv (.t 0)),
  .q none (some 4) (.bin .neq (.t 3) (.k (.d (.int .i64 6)))),
  .q none (some 2) (.mv (.t 4))])
 .ret)))⟩
theorem c49 : chkF Γd.P Γd.E 49 1 i49 = true := by kernel_rfl
noncomputable def i51 : FI := -- cosigner/lex.compare
 ⟨17, [.t 4],
 (.seq (.ops [.e none (some 2) (.box 23 (.t 0)),
  .e none (some 3) (.box 23 (.t 1)),
  .q none (some 4) (.mv (.k (.d (.int .i64 0))))])
 (.kp [2, 3] (.seq (.draw (.q 0 (.q none (some 5) (.faddr 0 (.t 2))) (.q 1 (.q none (some 6) (.load 1 false (.t 5))) (.q 2 (.q none (some 7) (.faddr 0 (.t 3))) (.q 3 (.q none (some 8) (.load 1 false (.t 7))) (.q 5 (.q none (some 10) (.faddr 1 (.t 2))) (.q 6 (.q none (some 11) (.load 1 false (.t 10))) (.q 7 (.q none (some 12) (.faddr 1 (.t 3))) (.q 8 (.q none (some 13) (.load 1 false (.t 12))) (.br (.cons 4 [1, 3] (.call none (some 9) 83 [(.t 6), (.t 8)]) (.br (.cons 9 [4, 6, 8] (.call none (some 14) 83 [(.t 11), (.t 13)]) (.br (.cons 10 [4, 9] (.e none (some 15) (.bslice 1 [(.t 9), (.t 14)])) (.br (.cons 11 [9, 10] (.call none (some 16) 82 [(.t 15)]) (.q 12 (.q none (some 4) (.mv (.t 16))) .done) .nil)) .nil)) .nil)) .nil)))))))))))
 .ret)))⟩
theorem c51 : chkF Γd.P Γd.E 51 2 i51 = true := by kernel_rfl
noncomputable def i52 : FI := -- cosigner/lex.joined[cosigner/api.Token]
 ⟨17, [.t 2],
 (.seq (.ops [.q none (some 2) (.mv (.k .snil))])
 (.kp [0] (.seq (.ops [.q none (some 3) (.mv (.k .snil)),
  .own 3 (57, 4)])
 (.kp [0, 3] (.seq (.seq (.ops [.q none (some 6) (.mv (.t 0)),
  .q none (some 7) (.len (.t 6)),
  .q none (some 8) (.mv (.k (.d (.int .i64 0))))])
 (.kp [3, 6, 7, 8] (.block 0 (.loop [3, 6, 7, 8] (.seq (.ops [.q none (some 9) (.bin .lss (.t 8) (.t 7))])
 (.kp [3, 6, 7, 8, 9] (.seq (.cond (.t 9) .skip (.exit 0))
 (.kp [3, 6, 7, 8] (.seq (.block 1 (.seq (.ops [.q none (some 10) (.iaddr 1 (.t 6) (.t 8)),
  .q none (some 11) (.load 1 false (.t 10)),
  .q none (some 5) (.mv (.t 11))])
 (.kp [3, 5, 6, 7, 8] (.ops [.q none (some 12) (.mv (.t 3)),
  .q none (some 13) (.mv (.t 5)),
  .e none (some 14) (.append 57 4 false (.t 12) (.t 13)),
  .q none (some 3) (.mv (.t 14))]))))
 (.kp [3, 6, 7, 8] (.ops [.q none (some 15) (.bin .add (.t 8) (.k (.d (.int .i64 1)))),
  .q none (some 8) (.mv (.t 15))])))))))))))
 (.kp [3] (.seq (.ops [.q none (some 16) (.mv (.t 3)),
  .q none (some 2) (.mv (.t 16))])
 .ret)))))))⟩
theorem c52 : chkF Γd.P Γd.E 52 1 i52 = true := by kernel_rfl
noncomputable def i54 : FI := -- cosigner/lex.write
 ⟨41, [.t 4, .t 5],
 (.seq (.ops [.q none (some 4) (.mv (.k (.d (.str [])))),
  .q none (some 5) (.mv (.k (.d (.int .i64 0))))])
 (.kp [0, 1] (.seq (.seq (.ops [.q none (some 9) (.mv (.t 0)),
  .q none (some 10) (.len (.t 9)),
  .q none (some 11) (.bin .gtr (.t 10) (.k (.d (.int .i64 6000))))])
 (.kp [0, 1, 11] (.cond (.t 11) (.seq (.ops [.q none (some 4) (.mv (.k (.d (.str [])))),
  .q none (some 5) (.mv (.k (.d (.int .i64 3))))])
 .ret) .skip)))
 (.kp [0, 1] (.seq (.seq (.ops [.q none (some 12) (.mv (.t 0)),
  .call none (some 13) 84 [(.t 12), (.f 85)]])
 (.kp [0, 1, 13] (.cond (.t 13) (.seq (.ops [.q none (some 4) (.mv (.k (.d (.str [])))),
  .q none (some 5) (.mv (.k (.d (.int .i64 1))))])
 .ret) .skip)))
 (.kp [0, 1] (.seq (.ops [.e none (some 6) (.alloc 89 [.nilp, .snil]),
  .ownb 6 1 (5, 1)])
 (.kp [0, 1, 6] (.seq (.seq (.ops [.q none (some 14) (.mv (.t 0)),
  .q none (some 15) (.len (.t 14)),
  .q none (some 16) (.mv (.k (.d (.int .i64 0))))])
 (.kp [0, 1, 6, 14, 15, 16] (.block 0 (.loop [0, 1, 6, 14, 15, 16] (.seq (.ops [.q none (some 17) (.bin .lss (.t 16) (.t 15))])
 (.kp [0, 1, 6, 14, 15, 16, 17] (.seq (.cond (.t 17) .skip (.exit 0))
 (.kp [0, 1, 6, 14, 15, 16] (.seq (.block 1 (.seq (.ops [.q none (some 18) (.mv (.t 16)),
  .q none (some 19) (.iaddr 4 (.t 14) (.t 16)),
  .q none (some 20) (.load 4 true (.t 19)),
  .e none (some 8) (.alloc 57 [(.d (.int .i64 0)), (.d (.str [])), (.d (.int .i64 0)), (.d (.int .i64 0))]),
  .q none (some 7) (.mv (.t 18)),
  .e none none (.store 4 (.t 8) (.t 20))])
 (.kp [0, 1, 6, 7, 8, 14, 15, 16] (.seq (.seq (.draw (.q 0 (.q none (some 21) (.mv (.t 7))) (.q 1 (.q none (some 22) (.bin .gtr (.t 21) (.k (.d (.int .i64 0))))) (.q 2 (.q none (some 23) (.mv (.t 22))) (.q 3 (.q (some (23, true)) (some 24) (.mv (.t 1))) (.q 4 (.q (some (23, true)) (some 25) (.mv (.t 0))) (.q 5 (.q (some (23, true)) (some 26) (.mv (.t 7))) (.q 6 (.q (some (23, true)) (some 27) (.bin .sub (.t 26) (.k (.d (.int .i64 1))))) (.q 7 (.q (some (23, true)) (some 28) (.iaddr 4 (.t 25) (.t 27))) (.q 8 (.q (some (23, true)) (some 29) (.load 4 true (.t 28))) (.q 9 (.q (some (23, true)) (some 30) (.load 4 true (.t 8))) (.br (.cons 10 [2, 3, 8, 9] (.callv (some (23, true)) (some 31) (.t 24) [(.t 29), (.t 30)]) (.q 11 (.q none (some 32) (.pick (.t 23) (.t 31) (.k (.d (.bool false))))) .done) .nil)))))))))))))
 (.kp [0, 1, 6, 8, 14, 15, 16, 32] (.cond (.t 32) (.ops [.call none (some 33) 87 [(.t 6), (.k (.d (.int .u8 32)))]]) .skip)))
 (.kp [0, 1, 6, 8, 14, 15, 16] (.ops [.q none (some 34) (.faddr 1 (.t 8)),
  .q none (some 35) (.load 1 false (.t 34)),
  .call none (some 36) 45 [(.t 6), (.t 35)]]))))))
 (.kp [0, 1, 6, 14, 15, 16] (.ops [.q none (some 37) (.bin .add (.t 16) (.k (.d (.int .i64 1)))),
  .q none (some 16) (.mv (.t 37))])))))))))))
 (.kp [6] (.seq (.seq (.ops [.call none (some 38) 46 [(.t 6)],
  .q none (some 39) (.bin .gtr (.t 38) (.k (.d (.int .i64 20000))))])
 (.kp [6, 39] (.cond (.t 39) (.seq (.ops [.q none (some 4) (.mv (.k (.d (.str [])))),
  .q none (some 5) (.mv (.k (.d (.int .i64 3))))])
 .ret) .skip)))
 (.kp [6] (.seq (.ops [.call none (some 40) 47 [(.t 6)],
  .q none (some 4) (.mv (.t 40)),
  .q none (some 5) (.mv (.k (.d (.int .i64 0))))])
 .ret)))))))))))))⟩
theorem c54 : chkF Γd.P Γd.E 54 2 i54 = true := by kernel_rfl
noncomputable def i55 : FI := -- cosigner/lex.Write$1
 ⟨5, [.t 4],
 (.seq (.ops [.e none (some 2) (.box 57 (.t 0)),
  .e none (some 3) (.box 57 (.t 1)),
  .q none (some 4) (.mv (.k (.d (.bool false))))])
 (.kp [] (.seq (.ops [.q none (some 4) (.mv (.k (.d (.bool true))))])
 .ret)))⟩
theorem c55 : chkF Γd.P Γd.E 55 2 i55 = true := by kernel_rfl
noncomputable def i56 : FI := -- cosigner/lex.needs
 ⟨32, [.t 4],
 (.seq (.ops [.e none (some 2) (.box 57 (.t 0)),
  .e none (some 3) (.box 57 (.t 1)),
  .q none (some 4) (.mv (.k (.d (.bool false))))])
 (.kp [2, 3] (.seq (.ops [.q none (some 9) (.faddr 1 (.t 2)),
  .q none (some 10) (.load 1 false (.t 9)),
  .q none (some 11) (.faddr 1 (.t 3)),
  .q none (some 12) (.load 1 false (.t 11)),
  .q none (some 13) (.bin .add (.t 10) (.t 12)),
  .e none (some 14) (.bslice 1 [(.t 13)]),
  .call none (some 15) 48 [(.t 14), (.k (.d (.int .i64 1))), (.f 49)],
  .q none (some 8) (.mv (.t 15)),
  .q none (some 16) (.extract (.t 8) 0),
  .q none (some 17) (.extract (.t 8) 1),
  .q none (some 18) (.extract (.t 8) 2),
  .e none (some 6) (.alloc 23 [(.d (.int .i64 0)), (.d (.int .i64 0))]),
  .q none (some 5) (.mv (.t 16)),
  .e none none (.store 2 (.t 6) (.t 17)),
  .q none (some 7) (.mv (.t 18))])
 (.kp [2, 3, 5, 7] (.seq (.ops [.q none (some 19) (.mv (.t 7)),
  .q none (some 20) (.bin .neq (.t 19) (.k (.d (.int .i64 0)))),
  .q none (some 21) (.mv (.t 20)),
  .q (some (21, false)) (some 22) (.mv (.t 5)),
  .q (some (21, false)) (some 23) (.load 4 true (.t 2)),
  .e (some (21, false)) (some 24) (.bslice 4 [(.t 23)]),
  .q (some (21, false)) (some 25) (.load 4 true (.t 3)),
  .e (some (21, false)) (some 26) (.bslice 4 [(.t 25)]),
  .e (some (21, false)) (some 27) (.bslice 1 [(.t 24), (.t 26)]),
  .call (some (21, false)) (some 28) 52 [(.t 27)],
  .call (some (21, false)) (some 29) 71 [(.t 22), (.t 28), (.f 72)],
  .q (some (21, false)) (some 30) (.not (.t 29)),
  .q none (some 31) (.pick (.t 21) (.k (.d (.bool true))) (.t 30)),
  .q none (some 4) (.mv (.t 31))])
 .ret)))))⟩
theorem c56 : chkF Γd.P Γd.E 56 2 i56 = true := by kernel_rfl
noncomputable def i57 : FI := -- cosigner/cosignerref01.read
 ⟨131, [.c 2 5 true],
 (.seq (.ops [.e none (some 2) (.alloc 67 [.snil, .snil, (.d (.int .i64 0)), (.d (.int .i64 0)), (.d (.int .i64 0))])])
 (.kp [0, 2] (.seq (.ops [.q none (some 12) (.bz [(.slice []), (.slice []), (.int .i64 0), (.int .i64 0), (.int .i64 0)]),
  .e none (some 3) (.alloc 67 [.snil, .snil, (.d (.int .i64 0)), (.d (.int .i64 0)), (.d (.int .i64 0))]),
  .e none none (.store 5 (.t 3) (.t 12)),
  .ownb 3 1 (57, 4),
  .ownb 3 0 (57, 4)])
 (.kp [0, 2, 3] (.seq (.ops [.q none (some 4) (.mv (.k (.d (.int .i64 1))))])
 (.kp [0, 2, 3, 4] (.seq (.ops [.q none (some 5) (.mv (.k (.d (.int .i64 0))))])
 (.kp [0, 2, 3, 4, 5] (.seq (.ops [.q none (some 6) (.mv (.k (.d (.int .i64 0))))])
 (.kp [0, 2, 3, 4, 5, 6] (.seq (.block 0 (.loop [0, 2, 3, 4, 5, 6] (.seq (.seq (.ops [.q none (some 13) (.mv (.t 6)),
  .q none (some 14) (.mv (.t 0)),
  .q none (some 15) (.slen (.t 14)),
  .q none (some 16) (.bin .lss (.t 13) (.t 15))])
 (.kp [0, 2, 3, 4, 5, 6, 16] (.cond (.t 16) .skip (.exit 0))))
 (.kp [0, 2, 3, 4, 5, 6] (.block 1 (.seq (.ops [.q none (some 17) (.mv (.t 4)),
  .q none (some 18) (.mv (.t 6)),
  .q none (some 19) (.mv (.t 5)),
  .q none (some 20) (.bin .sub (.t 18) (.t 19)),
  .q none (some 21) (.bin .add (.t 20) (.k (.d (.int .i64 1)))),
  .q none (some 22) (.build [(.int .i64 0), (.int .i64 0)] [(0, 1, (.t 17)), (1, 1, (.t 21))]),
  .e none (some 7) (.alloc 23 [(.d (.int .i64 0)), (.d (.int .i64 0))]),
  .e none none (.store 2 (.t 7) (.t 22))])
 (.kp [0, 2, 3, 4, 5, 6, 7] (.seq (.seq (.ops [.q none (some 23) (.mv (.t 0)),
  .q none (some 24) (.mv (.t 6)),
  .q none (some 25) (.sindex (.t 23) (.t 24)),
  .q none (some 26) (.bin .eql (.t 25) (.k (.d (.int .u8 10))))])
 (.kp [0, 2, 3, 4, 5, 6, 7, 26] (.cond (.t 26) (.seq (.ops [.q none (some 27) (.mv (.t 4)),
  .q none (some 28) (.bin .add (.t 27) (.k (.d (.int .i64 1)))),
  .q none (some 4) (.mv (.t 28))])
 (.kp [0, 2, 3, 4, 6, 7] (.ops [.q none (some 29) (.mv (.t 6)),
  .q none (some 30) (.bin .add (.t 29) (.k (.d (.int .i64 1)))),
  .q none (some 5) (.mv (.t 30))]))) .skip)))
 (.kp [0, 2, 3, 4, 5, 6, 7] (.seq (.seq (.ops [.q none (some 31) (.mv (.t 0)),
  .q none (some 32) (.mv (.t 6)),
  .q none (some 33) (.sindex (.t 31) (.t 32)),
  .q none (some 34) (.bin .eql (.t 33) (.k (.d (.int .u8 10)))),
  .q none (some 35) (.mv (.t 34)),
  .q (some (35, false)) (some 36) (.mv (.t 0)),
  .q (some (35, false)) (some 37) (.mv (.t 6)),
  .q (some (35, false)) (some 38) (.sindex (.t 36) (.t 37)),
  .q (some (35, false)) (some 39) (.bin .eql (.t 38) (.k (.d (.int .u8 32)))),
  .q none (some 40) (.pick (.t 35) (.k (.d (.bool true))) (.t 39))])
 (.kp [0, 2, 3, 4, 5, 6, 7, 40] (.cond (.t 40) (.seq (.ops [.q none (some 41) (.mv (.t 6)),
  .q none (some 42) (.bin .add (.t 41) (.k (.d (.int .i64 1)))),
  .q none (some 6) (.mv (.t 42))])
 (.kp [0, 2, 3, 4, 5, 6] (.exit 1))) .skip)))
 (.kp [0, 2, 3, 4, 5, 6, 7] (.seq (.seq (.ops [.q none (some 43) (.mv (.t 0)),
  .q none (some 44) (.mv (.t 6)),
  .q none (some 45) (.sindex (.t 43) (.t 44)),
  .q none (some 46) (.bin .eql (.t 45) (.k (.d (.int .u8 45)))),
  .q none (some 47) (.mv (.t 46)),
  .q (some (47, true)) (some 48) (.mv (.t 6)),
  .q (some (47, true)) (some 49) (.bin .add (.t 48) (.k (.d (.int .i64 1)))),
  .q (some (47, true)) (some 50) (.mv (.t 0)),
  .q (some (47, true)) (some 51) (.slen (.t 50)),
  .q (some (47, true)) (some 52) (.bin .lss (.t 49) (.t 51)),
  .q none (some 53) (.pick (.t 47) (.t 52) (.k (.d (.bool false)))),
  .q none (some 54) (.mv (.t 53)),
  .q (some (54, true)) (some 55) (.mv (.t 0)),
  .q (some (54, true)) (some 56) (.mv (.t 6)),
  .q (some (54, true)) (some 57) (.bin .add (.t 56) (.k (.d (.int .i64 1)))),
  .q (some (54, true)) (some 58) (.sindex (.t 55) (.t 57)),
  .q (some (54, true)) (some 59) (.bin .eql (.t 58) (.k (.d (.int .u8 45)))),
  .q none (some 60) (.pick (.t 54) (.t 59) (.k (.d (.bool false))))])
 (.kp [0, 2, 3, 4, 5, 6, 7, 60] (.cond (.t 60) (.seq (.ops [.q none (some 62) (.mv (.t 0)),
  .q none (some 63) (.mv (.t 6)),
  .call none (some 64) 88 [(.t 62), (.t 63)],
  .q none (some 61) (.mv (.t 64)),
  .q none (some 65) (.extract (.t 61) 0),
  .q none (some 66) (.extract (.t 61) 1),
  .q none (some 8) (.mv (.t 65)),
  .q none (some 9) (.mv (.t 66))])
 (.kp [0, 2, 3, 4, 5, 6, 7, 8, 9] (.seq (.seq (.ops [.q none (some 67) (.mv (.t 8)),
  .q none (some 68) (.bin .lss (.t 67) (.k (.d (.int .i64 0))))])
 (.kp [0, 2, 3, 4, 5, 6, 7, 8, 9, 68] (.cond (.t 68) (.seq (.ops [.q none (some 69) (.mv (.t 4)),
  .q none (some 70) (.mv (.t 9)),
  .q none (some 71) (.mv (.t 5)),
  .q none (some 72) (.bin .sub (.t 70) (.t 71)),
  .q none (some 73) (.bin .add (.t 72) (.k (.d (.int .i64 1)))),
  .q none (some 74) (.build [(.int .i64 0), (.int .i64 0)] [(0, 1, (.t 69)), (1, 1, (.t 73))]),
  .q none (some 75) (.build [(.slice []), (.slice []), (.int .i64 0), (.int .i64 0), (.int .i64 0)] [(2, 2, (.t 74)), (4, 1, (.k (.d (.int .i64 2))))]),
  .e none none (.store 5 (.t 2) (.t 75))])
 .ret) .skip)))
 (.kp [0, 2, 3, 4, 5, 6, 7, 8] (.seq (.draw (.q 0 (.q none (some 76) (.faddr 1 (.t 3))) (.q 1 (.q none (some 77) (.load 1 false (.t 76))) (.q 2 (.q none (some 78) (.mv (.t 0))) (.q 3 (.q none (some 79) (.mv (.t 6))) (.q 4 (.q none (some 80) (.mv (.t 6))) (.q 5 (.q none (some 81) (.mv (.t 8))) (.q 6 (.q none (some 82) (.bin .add (.t 80) (.t 81))) (.q 7 (.q none (some 83) (.sslice (.t 78) (some (.t 79)) (some (.t 82)))) (.q 8 (.q none (some 84) (.load 2 true (.t 7))) (.q 9 (.q none (some 85) (.build [(.int .i64 0), (.str []), (.int .i64 0), (.int .i64 0)] [(0, 1, (.k (.d (.int .i64 6)))), (1, 1, (.t 83)), (2, 2, (.t 84))])) (.br (.cons 10 [9] (.e none (some 86) (.bslice 4 [(.t 85)])) (.br (.cons 11 [1, 10] (.e none (some 87) (.append 57 4 false (.t 77) (.t 86))) (.q 12 (.q none (some 88) (.faddr 1 (.t 3))) (.br (.cons 13 [0, 1, 2, 3, 4, 5, 6, 7, 8, 9, 10, 11, 12] (.e none none (.store 1 (.t 88) (.t 87))) .done .nil))) .nil)) .nil)))))))))))))
 (.kp [0, 2, 3, 4, 5, 6, 8] (.seq (.ops [.q none (some 89) (.mv (.t 6)),
  .q none (some 90) (.mv (.t 8)),
  .q none (some 91) (.bin .add (.t 89) (.t 90)),
  .q none (some 6) (.mv (.t 91))])
 (.kp [0, 2, 3, 4, 5, 6] (.exit 1))))))))) .skip)))
 (.kp [0, 2, 3, 4, 5, 6, 7] (.seq (.ops [.q none (some 92) (.mv (.t 0)),
  .q none (some 93) (.mv (.t 6)),
  .call none (some 94) 89 [(.t 92), (.t 93)],
  .q none (some 10) (.mv (.t 94))])
 (.kp [0, 2, 3, 4, 5, 6, 7, 10] (.seq (.seq (.ops [.q none (some 95) (.mv (.t 0)),
  .q none (some 96) (.mv (.t 6)),
  .q none (some 97) (.sindex (.t 95) (.t 96)),
  .call none (some 98) 90 [(.t 97)]])
 (.kp [0, 2, 3, 4, 5, 6, 7, 10, 98] (.cond (.t 98) (.ops [.q none (some 99) (.mv (.t 0)),
  .q none (some 100) (.mv (.t 6)),
  .q none (some 101) (.mv (.t 6)),
  .q none (some 102) (.mv (.t 0)),
  .q none (some 103) (.mv (.t 6)),
  .call none (some 104) 66 [(.t 102), (.t 103)],
  .q none (some 105) (.bin .add (.t 101) (.t 104)),
  .q none (some 106) (.sslice (.t 99) (some (.t 100)) (some (.t 105))),
  .q none (some 10) (.mv (.t 106))]) .skip)))
 (.kp [0, 2, 3, 4, 5, 6, 7, 10] (.seq (.ops [.q none (some 107) (.mv (.t 10)),
  .call none (some 108) 33 [(.t 107)],
  .e none (some 11) (.alloc 73 [(.d (.int .i64 0)), (.d (.int .i64 0))]),
  .e none none (.store 2 (.t 11) (.t 108))])
 (.kp [0, 2, 3, 4, 5, 6, 7, 10, 11] (.seq (.seq (.ops [.q none (some 109) (.faddr 1 (.t 11)),
  .q none (some 110) (.load 1 false (.t 109)),
  .q none (some 111) (.bin .neq (.t 110) (.k (.d (.int .i64 0))))])
 (.kp [0, 2, 3, 4, 5, 6, 7, 10, 11, 111] (.cond (.t 111) (.seq (.ops [.q none (some 112) (.load 2 true (.t 7)),
  .q none (some 113) (.faddr 1 (.t 11)),
  .q none (some 114) (.load 1 false (.t 113)),
  .q none (some 115) (.build [(.slice []), (.slice []), (.int .i64 0), (.int .i64 0), (.int .i64 0)] [(2, 2, (.t 112)), (4, 1, (.t 114))]),
  .e none none (.store 5 (.t 2) (.t 115))])
 .ret) .skip)))
 (.kp [0, 2, 3, 4, 5, 6, 7, 10, 11] (.seq (.ops [.q none (some 116) (.faddr 0 (.t 3)),
  .q none (some 117) (.load 1 false (.t 116)),
  .q none (some 118) (.faddr 0 (.t 11)),
  .q none (some 119) (.load 1 false (.t 118)),
  .q none (some 120) (.mv (.t 10)),
  .q none (some 121) (.load 2 true (.t 7)),
  .q none (some 122) (.build [(.int .i64 0), (.str []), (.int .i64 0), (.int .i64 0)] [(0, 1, (.t 119)), (1, 1, (.t 120)), (2, 2, (.t 121))]),
  .e none (some 123) (.bslice 4 [(.t 122)]),
  .e none (some 124) (.append 57 4 false (.t 117) (.t 123)),
  .q none (some 125) (.faddr 0 (.t 3)),
  .e none none (.store 1 (.t 125) (.t 124))])
 (.kp [0, 2, 3, 4, 5, 6, 10] (.ops [.q none (some 126) (.mv (.t 6)),
  .q none (some 127) (.mv (.t 10)),
  .q none (some 128) (.slen (.t 127)),
  .q none (some 129) (.bin .add (.t 126) (.t 128)),
  .q none (some 6) (.mv (.t 129))]))))))))))))))))))))))))
 (.kp [2, 3] (.seq (.ops [.q none (some 130) (.load 5 true (.t 3)),
  .e none none (.store 5 (.t 2) (.t 130))])
 .ret)))))))))))))⟩
theorem c57 : chkF Γd.P Γd.E 57 1 i57 = true := by kernel_rfl
noncomputable def i58 : FI := -- cosigner/lex.note
 ⟨5, [.t 2],
 (.seq (.ops [.q none (some 2) (.mv (.k (.d (.bool false))))])
 (.kp [0] (.seq (.ops [.q none (some 3) (.mv (.t 0)),
  .q none (some 4) (.bin .eql (.t 3) (.k (.d (.int .i64 6)))),
  .q none (some 2) (.mv (.t 4))])
 .ret)))⟩
theorem c58 : chkF Γd.P Γd.E 58 1 i58 = true := by kernel_rfl
noncomputable def i59 : FI := -- cosigner/lex.run
 ⟨17, [.t 2],
 (.seq (.ops [.q none (some 2) (.mv (.k (.d (.int .i64 0))))])
 (.kp [0] (.seq (.ops [.q none (some 3) (.mv (.k (.d (.int .i64 0))))])
 (.kp [0, 3] (.seq (.block 0 (.loop [0, 3] (.seq (.seq (.ops [.q none (some 4) (.mv (.t 3)),
  .q none (some 5) (.mv (.t 0)),
  .q none (some 6) (.slen (.t 5)),
  .q none (some 7) (.bin .lss (.t 4) (.t 6)),
  .q none (some 8) (.mv (.t 7)),
  .q (some (8, true)) (some 9) (.mv (.t 0)),
  .q (some (8, true)) (some 10) (.mv (.t 3)),
  .q (some (8, true)) (some 11) (.sindex (.t 9) (.t 10)),
  .call (some (8, true)) (some 12) 91 [(.t 11)],
  .q none (some 13) (.pick (.t 8) (.t 12) (.k (.d (.bool false))))])
 (.kp [0, 3, 13] (.cond (.t 13) .skip (.exit 0))))
 (.kp [0, 3] (.block 1 (.ops [.q none (some 14) (.mv (.t 3)),
  .q none (some 15) (.bin .add (.t 14) (.k (.d (.int .i64 1)))),
  .q none (some 3) (.mv (.t 15))]))))))
 (.kp [3] (.seq (.ops [.q none (some 16) (.mv (.t 3)),
  .q none (some 2) (.mv (.t 16))])
 .ret)))))))⟩
theorem c59 : chkF Γd.P Γd.E 59 1 i59 = true := by kernel_rfl
noncomputable def i60 : FI := -- cosigner/lex.digit
 ⟨9, [.t 2],
 (.seq (.ops [.q none (some 2) (.mv (.k (.d (.bool false))))])
 (.kp [0] (.seq (.ops [.q none (some 3) (.mv (.t 0)),
  .q none (some 4) (.bin .leq (.k (.d (.int .u8 48))) (.t 3)),
  .q none (some 5) (.mv (.t 4)),
  .q (some (5, true)) (some 6) (.mv (.t 0)),
  .q (some (5, true)) (some 7) (.bin .leq (.t 6) (.k (.d (.int .u8 57)))),
  .q none (some 8) (.pick (.t 5) (.t 7) (.k (.d (.bool false)))),
  .q none (some 2) (.mv (.t 8))])
 .ret)))⟩
theorem c60 : chkF Γd.P Γd.E 60 1 i60 = true := by kernel_rfl
noncomputable def i61 : FI := -- cosigner/lex.number
 ⟨36, [.t 2, .t 3],
 (.seq (.ops [.q none (some 2) (.mv (.k (.d (.int .i64 0)))),
  .q none (some 3) (.mv (.k (.d (.int .i64 0))))])
 (.kp [0] (.seq (.seq (.ops [.q none (some 6) (.mv (.t 0)),
  .call none (some 7) 92 [(.t 6), (.f 60)],
  .q none (some 8) (.not (.t 7)),
  .q none (some 9) (.mv (.t 8)),
  .q (some (9, false)) (some 10) (.mv (.t 0)),
  .q (some (9, false)) (some 11) (.slen (.t 10)),
  .q (some (9, false)) (some 12) (.bin .gtr (.t 11) (.k (.d (.int .i64 1)))),
  .q (some (9, false)) (some 13) (.mv (.t 12)),
  .q (some (13, true)) (some 14) (.mv (.t 0)),
  .q (some (13, true)) (some 15) (.sindex (.t 14) (.k (.d (.int .i64 0)))),
  .q (some (13, true)) (some 16) (.bin .eql (.t 15) (.k (.d (.int .u8 48)))),
  .q (some (9, false)) (some 17) (.pick (.t 13) (.t 16) (.k (.d (.bool false)))),
  .q none (some 18) (.pick (.t 9) (.k (.d (.bool true))) (.t 17))])
 (.kp [0, 18] (.cond (.t 18) (.seq (.ops [.q none (some 2) (.mv (.k (.d (.int .i64 0)))),
  .q none (some 3) (.mv (.k (.d (.int .i64 2))))])
 .ret) .skip)))
 (.kp [0] (.seq (.ops [.q none (some 4) (.mv (.k (.d (.int .i64 0))))])
 (.kp [0, 4] (.seq (.seq (.ops [.q none (some 19) (.mv (.t 0)),
  .q none (some 20) (.slen (.t 19)),
  .q none (some 21) (.mv (.k (.d (.int .i64 0))))])
 (.kp [0, 4, 20, 21] (.block 0 (.loop [0, 4, 20, 21] (.seq (.ops [.q none (some 22) (.bin .lss (.t 21) (.t 20))])
 (.kp [0, 4, 20, 21, 22] (.seq (.cond (.t 22) .skip (.exit 0))
 (.kp [0, 4, 20, 21] (.seq (.block 1 (.seq (.ops [.q none (some 23) (.mv (.t 21)),
  .q none (some 5) (.mv (.t 23))])
 (.kp [0, 4, 5, 20, 21] (.seq (.ops [.q none (some 24) (.mv (.t 4)),
  .q none (some 25) (.bin .mul (.k (.d (.int .i64 10))) (.t 24)),
  .q none (some 26) (.mv (.t 0)),
  .q none (some 27) (.mv (.t 5)),
  .q none (some 28) (.sindex (.t 26) (.t 27)),
  .q none (some 29) (.bin .sub (.t 28) (.k (.d (.int .u8 48)))),
  .q none (some 30) (.conv .i64 (.t 29)),
  .q none (some 31) (.bin .add (.t 25) (.t 30)),
  .q none (some 4) (.mv (.t 31))])
 (.kp [0, 4, 20, 21] (.seq (.ops [.q none (some 32) (.mv (.t 4)),
  .q none (some 33) (.bin .gtr (.t 32) (.k (.d (.int .i64 1099511627776))))])
 (.kp [0, 4, 20, 21, 33] (.cond (.t 33) (.seq (.ops [.q none (some 2) (.mv (.k (.d (.int .i64 0)))),
  .q none (some 3) (.mv (.k (.d (.int .i64 3))))])
 .ret) .skip))))))))
 (.kp [0, 4, 20, 21] (.ops [.q none (some 34) (.bin .add (.t 21) (.k (.d (.int .i64 1)))),
  .q none (some 21) (.mv (.t 34))])))))))))))
 (.kp [4] (.seq (.ops [.q none (some 35) (.mv (.t 4)),
  .q none (some 2) (.mv (.t 35)),
  .q none (some 3) (.mv (.k (.d (.int .i64 0))))])
 .ret)))))))))⟩
theorem c61 : chkF Γd.P Γd.E 61 1 i61 = true := by kernel_rfl
noncomputable def i62 : FI := -- cosigner/lex.word
 ⟨34, [.t 2, .t 3],
 (.seq (.ops [.q none (some 2) (.mv (.k (.d (.int .i64 0)))),
  .q none (some 3) (.mv (.k (.d (.int .i64 0))))])
 (.kp [0] (.seq (.ops [.q none (some 6) (.mv (.t 0)),
  .call none (some 7) 92 [(.t 6), (.f 93)],
  .q none (some 4) (.mv (.t 7))])
 (.kp [0, 4] (.seq (.ops [.q none (some 8) (.mv (.t 0)),
  .call none (some 9) 92 [(.t 8), (.f 95)],
  .q none (some 5) (.mv (.t 9))])
 (.kp [0, 4, 5] (.seq (.block 0 (.seq (.seq (.ops [.call none (some 11) 36 [],
  .q none (some 12) (.mv (.t 0)),
  .call none (some 13) 97 [(.t 11), (.t 12)],
  .q none (some 10) (.mv (.t 13))])
 (.kp [0, 4, 5, 10] (.cond (.t 10) .skip (.ops [.e none (some 14) (.bslice 1 [(.k (.d (.str [84, 114, 117, 101]))), (.k (.d (.str [70, 97, 108, 115, 101]))), (.k (.d (.str [86, 111, 105, 100]))), (.k (.d (.str [67, 117, 114, 114, 101, 110, 116]))), (.k (.d (.str [82, 101, 115, 117, 108, 116])))]),
  .q none (some 15) (.mv (.t 0)),
  .call none (some 16) 97 [(.t 14), (.t 15)],
  .q none (some 10) (.mv (.t 16))]))))
 (.kp [0, 4, 5, 10] (.cond (.t 10) (.seq (.ops [.q none (some 2) (.mv (.k (.d (.int .i64 3)))),
  .q none (some 3) (.mv (.k (.d (.int .i64 0))))])
 .ret) (.seq (.ops [.e none (some 18) (.bslice 1 [(.k (.d (.str [116, 114, 117, 101]))), (.k (.d (.str [102, 97, 108, 115, 101]))), (.k (.d (.str [118, 111, 105, 100]))), (.k (.d (.str [99, 117, 114, 114, 101, 110, 116]))), (.k (.d (.str [114, 101, 115, 117, 108, 116])))]),
  .q none (some 19) (.mv (.t 0)),
  .call none (some 20) 97 [(.t 18), (.t 19)],
  .q none (some 17) (.mv (.t 20))])
 (.kp [0, 4, 5, 17] (.cond (.t 17) (.seq (.ops [.q none (some 2) (.mv (.k (.d (.int .i64 0)))),
  .q none (some 3) (.mv (.k (.d (.int .i64 4))))])
 .ret) (.seq (.ops [.q none (some 22) (.mv (.t 4)),
  .q none (some 23) (.not (.t 22)),
  .q none (some 24) (.mv (.t 23)),
  .q (some (24, true)) (some 25) (.mv (.t 5)),
  .q (some (24, true)) (some 26) (.not (.t 25)),
  .q none (some 27) (.pick (.t 24) (.t 26) (.k (.d (.bool false)))),
  .q none (some 21) (.mv (.t 27))])
 (.kp [0, 4, 21] (.cond (.t 21) (.seq (.ops [.q none (some 2) (.mv (.k (.d (.int .i64 0)))),
  .q none (some 3) (.mv (.k (.d (.int .i64 2))))])
 .ret) (.seq (.ops [.q none (some 29) (.mv (.t 0)),
  .q none (some 30) (.slen (.t 29)),
  .q none (some 31) (.bin .gtr (.t 30) (.k (.d (.int .i64 20)))),
  .q none (some 28) (.mv (.t 31))])
 (.kp [4, 28] (.cond (.t 28) (.seq (.ops [.q none (some 2) (.mv (.k (.d (.int .i64 0)))),
  .q none (some 3) (.mv (.k (.d (.int .i64 3))))])
 .ret) (.seq (.ops [.q none (some 33) (.mv (.t 4)),
  .q none (some 32) (.mv (.t 33))])
 (.kp [32] (.cond (.t 32) (.seq (.ops [.q none (some 2) (.mv (.k (.d (.int .i64 1)))),
  .q none (some 3) (.mv (.k (.d (.int .i64 0))))])
 .ret) .skip))))))))))))))))
 (.kp [] (.seq (.ops [.q none (some 2) (.mv (.k (.d (.int .i64 2)))),
  .q none (some 3) (.mv (.k (.d (.int .i64 0))))])
 .ret)))))))))⟩
theorem c62 : chkF Γd.P Γd.E 62 1 i62 = true := by kernel_rfl
noncomputable def i63 : FI := -- cosigner/lex.sign
 ⟨16, [.t 2],
 (.seq (.ops [.q none (some 2) (.mv (.k (.d (.str []))))])
 (.kp [0] (.scope (.seq (.ops [.q none (some 3) (.mv (.k (.d (.str []))))])
 (.kp [0, 3] (.seq .skip
 (.kp [0, 3] (.seq (.seq (.ops [.call none (some 6) 98 [],
  .q none (some 7) (.mv (.k (.d (.int .i64 0))))])
 (.kp [0, 3, 6, 7] (.block 0 (.loop [0, 3, 6, 7] (.seq (.ops [.q none (some 8) (.bin .lss (.t 7) (.k (.d (.int .i64 22))))])
 (.kp [0, 3, 6, 7, 8] (.seq (.cond (.t 8) .skip (.exit 0))
 (.kp [0, 3, 6, 7] (.seq (.block 1 (.seq (.ops [.q none (some 9) (.aindex 22 1 false (.t 6) (.t 7)),
  .q none (some 5) (.mv (.t 9))])
 (.kp [0, 3, 5, 6, 7] (.seq (.ops [.q none (some 10) (.mv (.t 0)),
  .q none (some 11) (.mv (.t 5)),
  .call none (some 12) 26 [(.t 10), (.t 11)]])
 (.kp [0, 3, 5, 6, 7, 12] (.cond (.t 12) (.seq (.ops [.q none (some 13) (.mv (.t 5)),
  .q none (some 3) (.mv (.t 13))])
 (.kp [3] (.exit 0))) .skip))))))
 (.kp [0, 3, 6, 7] (.ops [.q none (some 14) (.bin .add (.t 7) (.k (.d (.int .i64 1)))),
  .q none (some 7) (.mv (.t 14))])))))))))))
 (.kp [3] (.seq (.ops [.q none (some 15) (.mv (.t 3)),
  .q none (some 2) (.mv (.t 15))])
 .ret))))))))))⟩
theorem c63 : chkF Γd.P Γd.E 63 1 i63 = true := by kernel_rfl
noncomputable def i64 : FI := -- cosigner/cosignerref01.has
 ⟨18, [.t 4],
 (.seq (.ops [.q none (some 4) (.mv (.k (.d (.bool false))))])
 (.kp [0, 1] (.seq (.seq (.ops [.q none (some 5) (.mv (.k (.d (.int .i64 0))))])
 (.kp [0, 1, 5] (.block 0 (.loop [0, 1, 5] (.seq (.seq (.ops [.q none (some 6) (.mv (.t 5)),
  .q none (some 7) (.mv (.t 0)),
  .q none (some 8) (.len (.t 7)),
  .q none (some 9) (.bin .lss (.t 6) (.t 8))])
 (.kp [0, 1, 5, 9] (.cond (.t 9) .skip (.exit 0))))
 (.kp [0, 1, 5] (.seq (.block 1 (.seq (.ops [.q none (some 12) (.mv (.t 0)),
  .q none (some 13) (.mv (.t 5)),
  .q none (some 14) (.iaddr 1 (.t 12) (.t 13)),
  .q none (some 15) (.load 1 false (.t 14)),
  .q none (some 16) (.mv (.t 1)),
  .q none (some 17) (.bin .eql (.t 15) (.t 16))])
 (.kp [0, 1, 5, 17] (.cond (.t 17) (.seq (.ops [.q none (some 4) (.mv (.k (.d (.bool true))))])
 .ret) .skip))))
 (.kp [0, 1, 5] (.ops [.q none (some 10) (.mv (.t 5)),
  .q none (some 11) (.bin .add (.t 10) (.k (.d (.int .i64 1)))),
  .q none (some 5) (.mv (.t 11))])))))))))
 (.kp [] (.seq (.ops [.q none (some 4) (.mv (.k (.d (.bool false))))])
 .ret)))))⟩
theorem c64 : chkF Γd.P Γd.E 64 2 i64 = true := by kernel_rfl
noncomputable def i65 : FI := -- cosigner/cosignerref01.signs
 ⟨2, [.t 0],
 (.seq (.ops [.q none (some 0) (.mv (.k .snil))])
 (.kp [] (.seq (.ops [.e none (some 1) (.bslice 1 [(.k (.d (.str [58, 61]))), (.k (.d (.str [47, 61]))), (.k (.d (.str [60, 61]))), (.k (.d (.str [62, 61]))), (.k (.d (.str [47, 47]))), (.k (.d (.str [61]))), (.k (.d (.str [60]))), (.k (.d (.str [62]))), (.k (.d (.str [43]))), (.k (.d (.str [45]))), (.k (.d (.str [42]))), (.k (.d (.str [37]))), (.k (.d (.str [40]))), (.k (.d (.str [41]))), (.k (.d (.str [91]))), (.k (.d (.str [93]))), (.k (.d (.str [123]))), (.k (.d (.str [125]))), (.k (.d (.str [44]))), (.k (.d (.str [59]))), (.k (.d (.str [58]))), (.k (.d (.str [46])))]),
  .q none (some 0) (.mv (.t 1))])
 .ret)))⟩
theorem c65 : chkF Γd.P Γd.E 65 0 i65 = true := by kernel_rfl
noncomputable def i66 : FI := -- cosigner/cosignerref01.run
 ⟨23, [.t 4],
 (.seq (.ops [.q none (some 4) (.mv (.k (.d (.int .i64 0))))])
 (.kp [0, 1] (.seq (.ops [.q none (some 5) (.mv (.k (.d (.int .i64 0))))])
 (.kp [0, 1, 5] (.seq (.block 0 (.loop [0, 1, 5] (.seq (.seq (.ops [.q none (some 6) (.mv (.t 1)),
  .q none (some 7) (.mv (.t 5)),
  .q none (some 8) (.bin .add (.t 6) (.t 7)),
  .q none (some 9) (.mv (.t 0)),
  .q none (some 10) (.slen (.t 9)),
  .q none (some 11) (.bin .lss (.t 8) (.t 10)),
  .q none (some 12) (.mv (.t 11)),
  .q (some (12, true)) (some 13) (.mv (.t 0)),
  .q (some (12, true)) (some 14) (.mv (.t 1)),
  .q (some (12, true)) (some 15) (.mv (.t 5)),
  .q (some (12, true)) (some 16) (.bin .add (.t 14) (.t 15)),
  .q (some (12, true)) (some 17) (.sindex (.t 13) (.t 16)),
  .call (some (12, true)) (some 18) 90 [(.t 17)],
  .q none (some 19) (.pick (.t 12) (.t 18) (.k (.d (.bool false))))])
 (.kp [0, 1, 5, 19] (.cond (.t 19) .skip (.exit 0))))
 (.kp [0, 1, 5] (.block 1 (.ops [.q none (some 20) (.mv (.t 5)),
  .q none (some 21) (.bin .add (.t 20) (.k (.d (.int .i64 1)))),
  .q none (some 5) (.mv (.t 21))]))))))
 (.kp [5] (.seq (.ops [.q none (some 22) (.mv (.t 5)),
  .q none (some 4) (.mv (.t 22))])
 .ret)))))))⟩
theorem c66 : chkF Γd.P Γd.E 66 2 i66 = true := by kernel_rfl
noncomputable def i67 : FI := -- cosigner/cosignerref01.digit
 ⟨9, [.t 2],
 (.seq (.ops [.q none (some 2) (.mv (.k (.d (.bool false))))])
 (.kp [0] (.seq (.ops [.q none (some 3) (.mv (.t 0)),
  .q none (some 4) (.bin .geq (.t 3) (.k (.d (.int .u8 48)))),
  .q none (some 5) (.mv (.t 4)),
  .q (some (5, true)) (some 6) (.mv (.t 0)),
  .q (some (5, true)) (some 7) (.bin .leq (.t 6) (.k (.d (.int .u8 57)))),
  .q none (some 8) (.pick (.t 5) (.t 7) (.k (.d (.bool false)))),
  .q none (some 2) (.mv (.t 8))])
 .ret)))⟩
theorem c67 : chkF Γd.P Γd.E 67 1 i67 = true := by kernel_rfl
noncomputable def i68 : FI := -- cosigner/cosignerref01.number
 ⟨46, [.c 2 2 true],
 (.seq (.ops [.e none (some 2) (.alloc 33 [(.d (.int .i64 0)), (.d (.int .i64 0))])])
 (.kp [0, 2] (.seq (.seq (.ops [.q none (some 3) (.mv (.k (.d (.int .i64 0))))])
 (.kp [0, 2, 3] (.block 0 (.loop [0, 2, 3] (.seq (.seq (.ops [.q none (some 6) (.mv (.t 3)),
  .q none (some 7) (.mv (.t 0)),
  .q none (some 8) (.slen (.t 7)),
  .q none (some 9) (.bin .lss (.t 6) (.t 8))])
 (.kp [0, 2, 3, 9] (.cond (.t 9) .skip (.exit 0))))
 (.kp [0, 2, 3] (.seq (.block 1 (.seq (.ops [.q none (some 12) (.mv (.t 0)),
  .q none (some 13) (.mv (.t 3)),
  .q none (some 14) (.sindex (.t 12) (.t 13)),
  .call none (some 15) 67 [(.t 14)],
  .q none (some 16) (.not (.t 15))])
 (.kp [0, 2, 3, 16] (.cond (.t 16) (.seq (.ops [.q none (some 17) (.build [(.int .i64 0), (.int .i64 0)] [(1, 1, (.k (.d (.int .i64 2))))]),
  .e none none (.store 2 (.t 2) (.t 17))])
 .ret) .skip))))
 (.kp [0, 2, 3] (.ops [.q none (some 10) (.mv (.t 3)),
  .q none (some 11) (.bin .add (.t 10) (.k (.d (.int .i64 1)))),
  .q none (some 3) (.mv (.t 11))])))))))))
 (.kp [0, 2] (.seq (.seq (.ops [.q none (some 18) (.mv (.t 0)),
  .q none (some 19) (.sindex (.t 18) (.k (.d (.int .i64 0)))),
  .q none (some 20) (.bin .eql (.t 19) (.k (.d (.int .u8 48)))),
  .q none (some 21) (.mv (.t 20)),
  .q (some (21, true)) (some 22) (.mv (.t 0)),
  .q (some (21, true)) (some 23) (.slen (.t 22)),
  .q (some (21, true)) (some 24) (.bin .gtr (.t 23) (.k (.d (.int .i64 1)))),
  .q none (some 25) (.pick (.t 21) (.t 24) (.k (.d (.bool false))))])
 (.kp [0, 2, 25] (.cond (.t 25) (.seq (.ops [.q none (some 26) (.build [(.int .i64 0), (.int .i64 0)] [(1, 1, (.k (.d (.int .i64 2))))]),
  .e none none (.store 2 (.t 2) (.t 26))])
 .ret) .skip)))
 (.kp [0, 2] (.seq (.ops [.q none (some 4) (.mv (.k (.d (.int .i64 0))))])
 (.kp [0, 2, 4] (.seq (.seq (.ops [.q none (some 5) (.mv (.k (.d (.int .i64 0))))])
 (.kp [0, 2, 4, 5] (.block 2 (.loop [0, 2, 4, 5] (.seq (.seq (.ops [.q none (some 27) (.mv (.t 5)),
  .q none (some 28) (.mv (.t 0)),
  .q none (some 29) (.slen (.t 28)),
  .q none (some 30) (.bin .lss (.t 27) (.t 29))])
 (.kp [0, 2, 4, 5, 30] (.cond (.t 30) .skip (.exit 2))))
 (.kp [0, 2, 4, 5] (.seq (.block 3 (.seq (.ops [.q none (some 33) (.mv (.t 4)),
  .q none (some 34) (.bin .mul (.k (.d (.int .i64 10))) (.t 33)),
  .q none (some 35) (.mv (.t 0)),
  .q none (some 36) (.mv (.t 5)),
  .q none (some 37) (.sindex (.t 35) (.t 36)),
  .q none (some 38) (.conv .i64 (.t 37)),
  .q none (some 39) (.bin .add (.t 34) (.t 38)),
  .q none (some 40) (.bin .sub (.t 39) (.k (.d (.int .i64 48)))),
  .q none (some 4) (.mv (.t 40))])
 (.kp [0, 2, 4, 5] (.seq (.ops [.q none (some 41) (.mv (.t 4)),
  .q none (some 42) (.bin .gtr (.t 41) (.k (.d (.int .i64 1099511627776))))])
 (.kp [0, 2, 4, 5, 42] (.cond (.t 42) (.seq (.ops [.q none (some 43) (.build [(.int .i64 0), (.int .i64 0)] [(1, 1, (.k (.d (.int .i64 3))))]),
  .e none none (.store 2 (.t 2) (.t 43))])
 .ret) .skip))))))
 (.kp [0, 2, 4, 5] (.ops [.q none (some 31) (.mv (.t 5)),
  .q none (some 32) (.bin .add (.t 31) (.k (.d (.int .i64 1)))),
  .q none (some 5) (.mv (.t 32))])))))))))
 (.kp [2, 4] (.seq (.ops [.q none (some 44) (.mv (.t 4)),
  .q none (some 45) (.build [(.int .i64 0), (.int .i64 0)] [(0, 1, (.t 44))]),
  .e none none (.store 2 (.t 2) (.t 45))])
 .ret)))))))))))⟩
theorem c68 : chkF Γd.P Γd.E 68 1 i68 = true := by kernel_rfl
noncomputable def i69 : FI := -- cosigner/cosignerref01.word
 ⟨51, [.c 2 2 true],
 (.seq (.ops [.e none (some 2) (.alloc 73 [(.d (.int .i64 0)), (.d (.int .i64 0))])])
 (.kp [0, 2] (.seq (.seq (.ops [.call none (some 6) 37 [],
  .q none (some 7) (.mv (.t 0)),
  .call none (some 8) 64 [(.t 6), (.t 7)],
  .q none (some 9) (.mv (.t 8)),
  .e (some (9, false)) (some 10) (.bslice 1 [(.k (.d (.str [84, 114, 117, 101]))), (.k (.d (.str [70, 97, 108, 115, 101]))), (.k (.d (.str [86, 111, 105, 100]))), (.k (.d (.str [67, 117, 114, 114, 101, 110, 116]))), (.k (.d (.str [82, 101, 115, 117, 108, 116])))]),
  .q (some (9, false)) (some 11) (.mv (.t 0)),
  .call (some (9, false)) (some 12) 64 [(.t 10), (.t 11)],
  .q none (some 13) (.pick (.t 9) (.k (.d (.bool true))) (.t 12))])
 (.kp [0, 2, 13] (.cond (.t 13) (.seq (.ops [.q none (some 14) (.build [(.int .i64 0), (.int .i64 0)] [(0, 1, (.k (.d (.int .i64 3))))]),
  .e none none (.store 2 (.t 2) (.t 14))])
 .ret) .skip)))
 (.kp [0, 2] (.seq (.seq (.ops [.e none (some 15) (.bslice 1 [(.k (.d (.str [116, 114, 117, 101]))), (.k (.d (.str [102, 97, 108, 115, 101]))), (.k (.d (.str [118, 111, 105, 100]))), (.k (.d (.str [99, 117, 114, 114, 101, 110, 116]))), (.k (.d (.str [114, 101, 115, 117, 108, 116])))]),
  .q none (some 16) (.mv (.t 0)),
  .call none (some 17) 64 [(.t 15), (.t 16)]])
 (.kp [0, 2, 17] (.cond (.t 17) (.seq (.ops [.q none (some 18) (.build [(.int .i64 0), (.int .i64 0)] [(1, 1, (.k (.d (.int .i64 4))))]),
  .e none none (.store 2 (.t 2) (.t 18))])
 .ret) .skip)))
 (.kp [0, 2] (.seq (.ops [.q none (some 3) (.mv (.k (.d (.bool false))))])
 (.kp [0, 2, 3] (.seq (.ops [.q none (some 4) (.mv (.k (.d (.bool false))))])
 (.kp [0, 2, 3, 4] (.seq (.seq (.ops [.q none (some 5) (.mv (.k (.d (.int .i64 0))))])
 (.kp [0, 2, 3, 4, 5] (.block 0 (.loop [0, 2, 3, 4, 5] (.seq (.seq (.ops [.q none (some 19) (.mv (.t 5)),
  .q none (some 20) (.mv (.t 0)),
  .q none (some 21) (.slen (.t 20)),
  .q none (some 22) (.bin .lss (.t 19) (.t 21))])
 (.kp [0, 2, 3, 4, 5, 22] (.cond (.t 22) .skip (.exit 0))))
 (.kp [0, 2, 3, 4, 5] (.seq (.block 1 (.seq (.ops [.q none (some 25) (.mv (.t 3)),
  .q none (some 26) (.mv (.t 25)),
  .q (some (26, false)) (some 27) (.mv (.t 0)),
  .q (some (26, false)) (some 28) (.mv (.t 5)),
  .q (some (26, false)) (some 29) (.sindex (.t 27) (.t 28)),
  .call (some (26, false)) (some 30) 99 [(.t 29)],
  .q none (some 31) (.pick (.t 26) (.k (.d (.bool true))) (.t 30)),
  .q none (some 3) (.mv (.t 31))])
 (.kp [0, 2, 3, 4, 5] (.ops [.q none (some 32) (.mv (.t 4)),
  .q none (some 33) (.mv (.t 32)),
  .q (some (33, false)) (some 34) (.mv (.t 0)),
  .q (some (33, false)) (some 35) (.mv (.t 5)),
  .q (some (33, false)) (some 36) (.sindex (.t 34) (.t 35)),
  .call (some (33, false)) (some 37) 100 [(.t 36)],
  .q none (some 38) (.pick (.t 33) (.k (.d (.bool true))) (.t 37)),
  .q none (some 4) (.mv (.t 38))]))))
 (.kp [0, 2, 3, 4, 5] (.ops [.q none (some 23) (.mv (.t 5)),
  .q none (some 24) (.bin .add (.t 23) (.k (.d (.int .i64 1)))),
  .q none (some 5) (.mv (.t 24))])))))))))
 (.kp [0, 2, 3, 4] (.seq (.seq (.ops [.q none (some 39) (.mv (.t 3)),
  .q none (some 40) (.mv (.t 39)),
  .q (some (40, true)) (some 41) (.mv (.t 4)),
  .q none (some 42) (.pick (.t 40) (.t 41) (.k (.d (.bool false))))])
 (.kp [0, 2, 3, 42] (.cond (.t 42) (.seq (.ops [.q none (some 43) (.build [(.int .i64 0), (.int .i64 0)] [(1, 1, (.k (.d (.int .i64 2))))]),
  .e none none (.store 2 (.t 2) (.t 43))])
 .ret) .skip)))
 (.kp [0, 2, 3] (.seq (.seq (.ops [.q none (some 44) (.mv (.t 0)),
  .q none (some 45) (.slen (.t 44)),
  .q none (some 46) (.bin .gtr (.t 45) (.k (.d (.int .i64 20))))])
 (.kp [2, 3, 46] (.cond (.t 46) (.seq (.ops [.q none (some 47) (.build [(.int .i64 0), (.int .i64 0)] [(1, 1, (.k (.d (.int .i64 3))))]),
  .e none none (.store 2 (.t 2) (.t 47))])
 .ret) .skip)))
 (.kp [2, 3] (.seq (.seq (.ops [.q none (some 48) (.mv (.t 3))])
 (.kp [2, 48] (.cond (.t 48) (.seq (.ops [.q none (some 49) (.build [(.int .i64 0), (.int .i64 0)] [(0, 1, (.k (.d (.int .i64 1))))]),
  .e none none (.store 2 (.t 2) (.t 49))])
 .ret) .skip)))
 (.kp [2] (.seq (.ops [.q none (some 50) (.build [(.int .i64 0), (.int .i64 0)] [(0, 1, (.k (.d (.int .i64 2))))]),
  .e none none (.store 2 (.t 2) (.t 50))])
 .ret)))))))))))))))))))⟩
theorem c69 : chkF Γd.P Γd.E 69 1 i69 = true := by kernel_rfl
noncomputable def i71 : FI := -- slices.EqualFunc[[]cosigner/api.Token,[]cosigner/api.Token,cosigner/api.Token,cosigner/api.Token]
 ⟨32, [.t 6],
 (.seq (.ops [.q none (some 6) (.mv (.k (.d (.bool false))))])
 (.kp [0, 1, 2] (.seq (.seq (.ops [.q none (some 10) (.mv (.t 0)),
  .q none (some 11) (.len (.t 10)),
  .q none (some 12) (.mv (.t 1)),
  .q none (some 13) (.len (.t 12)),
  .q none (some 14) (.bin .neq (.t 11) (.t 13))])
 (.kp [0, 1, 2, 14] (.cond (.t 14) (.seq (.ops [.q none (some 6) (.mv (.k (.d (.bool false))))])
 .ret) .skip)))
 (.kp [0, 1, 2] (.seq (.seq (.ops [.q none (some 15) (.mv (.t 0)),
  .q none (some 16) (.len (.t 15)),
  .q none (some 17) (.mv (.k (.d (.int .i64 0))))])
 (.kp [1, 2, 15, 16, 17] (.block 0 (.loop [1, 2, 15, 16, 17] (.seq (.ops [.q none (some 18) (.bin .lss (.t 17) (.t 16))])
 (.kp [1, 2, 15, 16, 17, 18] (.seq (.cond (.t 18) .skip (.exit 0))
 (.kp [1, 2, 15, 16, 17] (.seq (.block 1 (.seq (.ops [.q none (some 19) (.mv (.t 17)),
  .q none (some 20) (.iaddr 4 (.t 15) (.t 17)),
  .q none (some 21) (.load 4 true (.t 20)),
  .e none (some 8) (.alloc 57 [(.d (.int .i64 0)), (.d (.str [])), (.d (.int .i64 0)), (.d (.int .i64 0))]),
  .q none (some 7) (.mv (.t 19)),
  .e none none (.store 4 (.t 8) (.t 21))])
 (.kp [1, 2, 7, 8, 15, 16, 17] (.seq (.ops [.q none (some 22) (.mv (.t 1)),
  .q none (some 23) (.mv (.t 7)),
  .q none (some 24) (.iaddr 4 (.t 22) (.t 23)),
  .q none (some 25) (.load 4 true (.t 24)),
  .e none (some 9) (.alloc 57 [(.d (.int .i64 0)), (.d (.str [])), (.d (.int .i64 0)), (.d (.int .i64 0))]),
  .e none none (.store 4 (.t 9) (.t 25))])
 (.kp [1, 2, 8, 9, 15, 16, 17] (.seq (.ops [.q none (some 26) (.mv (.t 2)),
  .q none (some 27) (.load 4 true (.t 8)),
  .q none (some 28) (.load 4 true (.t 9)),
  .callv none (some 29) (.t 26) [(.t 27), (.t 28)],
  .q none (some 30) (.not (.t 29))])
 (.kp [1, 2, 15, 16, 17, 30] (.cond (.t 30) (.seq (.ops [.q none (some 6) (.mv (.k (.d (.bool false))))])
 .ret) .skip))))))))
 (.kp [1, 2, 15, 16, 17] (.ops [.q none (some 31) (.bin .add (.t 17) (.k (.d (.int .i64 1)))),
  .q none (some 17) (.mv (.t 31))])))))))))))
 (.kp [] (.seq (.ops [.q none (some 6) (.mv (.k (.d (.bool true))))])
 .ret)))))))⟩
theorem c71 : chkF Γd.P Γd.E 71 3 i71 = true := by kernel_rfl
noncomputable def i72 : FI := -- cosigner/lex.equal
 ⟨17, [.t 4],
 (.seq (.ops [.e none (some 2) (.box 57 (.t 0)),
  .e none (some 3) (.box 57 (.t 1)),
  .q none (some 4) (.mv (.k (.d (.bool false))))])
 (.kp [2, 3] (.seq (.ops [.q none (some 5) (.faddr 0 (.t 2)),
  .q none (some 6) (.load 1 false (.t 5)),
  .q none (some 7) (.faddr 0 (.t 3)),
  .q none (some 8) (.load 1 false (.t 7)),
  .q none (some 9) (.bin .eql (.t 6) (.t 8)),
  .q none (some 10) (.mv (.t 9)),
  .q (some (10, true)) (some 11) (.faddr 1 (.t 2)),
  .q (some (10, true)) (some 12) (.load 1 false (.t 11)),
  .q (some (10, true)) (some 13) (.faddr 1 (.t 3)),
  .q (some (10, true)) (some 14) (.load 1 false (.t 13)),
  .q (some (10, true)) (some 15) (.bin .eql (.t 12) (.t 14)),
  .q none (some 16) (.pick (.t 10) (.t 15) (.k (.d (.bool false)))),
  .q none (some 4) (.mv (.t 16))])
 .ret)))⟩
theorem c72 : chkF Γd.P Γd.E 72 2 i72 = true := by kernel_rfl
-- 79 (*strings.Builder).copyCheck: not covered
noncomputable def i80 : FI := -- cosigner/lex.pieces
 ⟨4, [.t 2],
 (.seq (.ops [.e none (some 1) (.fbox 9 (.t 0)),
  .q none (some 2) (.mv (.k .nilfn))])
 (.kp [1] (.seq (.ops [.q none (some 3) (.mkfn 110 [] [(.t 1)]),
  .q none (some 2) (.mv (.t 3))])
 .ret)))⟩
theorem c80 : chkF Γd.P Γd.E 80 1 i80 = true := by kernel_rfl
noncomputable def i82 : FI := -- cmp.Or[int]
 ⟨18, [.t 2],
 (.seq (.ops [.q none (some 2) (.mv (.k (.d (.int .i64 0))))])
 (.kp [0] (.seq (.ops [.q none (some 3) (.mv (.k (.d (.int .i64 0))))])
 (.kp [0, 3] (.seq (.seq (.ops [.q none (some 6) (.mv (.t 0)),
  .q none (some 7) (.len (.t 6)),
  .q none (some 8) (.mv (.k (.d (.int .i64 0))))])
 (.kp [3, 6, 7, 8] (.block 0 (.loop [3, 6, 7, 8] (.seq (.ops [.q none (some 9) (.bin .lss (.t 8) (.t 7))])
 (.kp [3, 6, 7, 8, 9] (.seq (.cond (.t 9) .skip (.exit 0))
 (.kp [3, 6, 7, 8] (.seq (.block 1 (.seq (.ops [.q none (some 10) (.iaddr 1 (.t 6) (.t 8)),
  .q none (some 11) (.load 1 false (.t 10)),
  .q none (some 5) (.mv (.t 11))])
 (.kp [3, 5, 6, 7, 8] (.seq (.ops [.q none (some 12) (.mv (.t 5)),
  .q none (some 13) (.mv (.t 3)),
  .q none (some 14) (.bin .neq (.t 12) (.t 13))])
 (.kp [3, 5, 6, 7, 8, 14] (.cond (.t 14) (.seq (.ops [.q none (some 15) (.mv (.t 5)),
  .q none (some 2) (.mv (.t 15))])
 .ret) .skip))))))
 (.kp [3, 6, 7, 8] (.ops [.q none (some 16) (.bin .add (.t 8) (.k (.d (.int .i64 1)))),
  .q none (some 8) (.mv (.t 16))])))))))))))
 (.kp [3] (.seq (.ops [.q none (some 17) (.mv (.t 3)),
  .q none (some 2) (.mv (.t 17))])
 .ret)))))))⟩
theorem c82 : chkF Γd.P Γd.E 82 1 i82 = true := by kernel_rfl
noncomputable def i84 : FI := -- slices.ContainsFunc[[]cosigner/api.Token,cosigner/api.Token]
 ⟨9, [.t 4],
 (.seq (.ops [.q none (some 4) (.mv (.k (.d (.bool false))))])
 (.kp [0, 1] (.seq (.ops [.q none (some 5) (.mv (.t 0)),
  .q none (some 6) (.mv (.t 1)),
  .call none (some 7) 115 [(.t 5), (.t 6)],
  .q none (some 8) (.bin .geq (.t 7) (.k (.d (.int .i64 0)))),
  .q none (some 4) (.mv (.t 8))])
 .ret)))⟩
theorem c84 : chkF Γd.P Γd.E 84 2 i84 = true := by kernel_rfl
noncomputable def i85 : FI := -- cosigner/lex.write$1
 ⟨6, [.t 2],
 (.seq (.ops [.e none (some 1) (.box 57 (.t 0)),
  .q none (some 2) (.mv (.k (.d (.bool false))))])
 (.kp [1] (.seq (.ops [.q none (some 3) (.load 4 true (.t 1)),
  .call none (some 4) 86 [(.t 3)],
  .q none (some 5) (.not (.t 4)),
  .q none (some 2) (.mv (.t 5))])
 .ret)))⟩
theorem c85 : chkF Γd.P Γd.E 85 1 i85 = true := by kernel_rfl
noncomputable def i86 : FI := -- cosigner/lex.right
 ⟨24, [.t 2],
 (.seq (.ops [.e none (some 1) (.box 57 (.t 0)),
  .q none (some 2) (.mv (.k (.d (.bool false))))])
 (.kp [1] (.seq (.ops [.q none (some 6) (.faddr 1 (.t 1)),
  .q none (some 7) (.load 1 false (.t 6)),
  .call none (some 8) 32 [(.t 7)],
  .q none (some 5) (.mv (.t 8)),
  .q none (some 9) (.extract (.t 5) 0),
  .q none (some 10) (.extract (.t 5) 1),
  .q none (some 3) (.mv (.t 9)),
  .q none (some 4) (.mv (.t 10))])
 (.kp [1, 3, 4] (.seq (.ops [.q none (some 11) (.mv (.t 4)),
  .q none (some 12) (.bin .eql (.t 11) (.k (.d (.int .i64 0)))),
  .q none (some 13) (.mv (.t 12)),
  .q (some (13, true)) (some 14) (.mv (.t 3)),
  .q (some (13, true)) (some 15) (.faddr 0 (.t 1)),
  .q (some (13, true)) (some 16) (.load 1 false (.t 15)),
  .q (some (13, true)) (some 17) (.bin .eql (.t 14) (.t 16)),
  .q none (some 18) (.pick (.t 13) (.t 17) (.k (.d (.bool false)))),
  .q none (some 19) (.mv (.t 18)),
  .q (some (19, true)) (some 20) (.faddr 0 (.t 1)),
  .q (some (19, true)) (some 21) (.load 1 false (.t 20)),
  .q (some (19, true)) (some 22) (.bin .neq (.t 21) (.k (.d (.int .i64 6)))),
  .q none (some 23) (.pick (.t 19) (.t 22) (.k (.d (.bool false)))),
  .q none (some 2) (.mv (.t 23))])
 .ret)))))⟩
theorem c86 : chkF Γd.P Γd.E 86 1 i86 = true := by kernel_rfl
noncomputable def i87 : FI := -- (*strings.Builder).WriteByte
 ⟨17, [.t 4],
 (.seq (.ops [.q none (some 4) (.mv (.k .nili))])
 (.kp [0, 1] (.seq (.ops [.q none (some 5) (.mv (.t 0)),
  .call none (some 6) 79 [(.t 5)]])
 (.kp [0, 1] (.seq (.ops [.q none (some 7) (.mv (.t 0)),
  .q none (some 8) (.mv (.t 0)),
  .q none (some 9) (.nilchk (.t 8)),
  .q none (some 10) (.faddr 1 (.t 9)),
  .q none (some 11) (.load 1 false (.t 10)),
  .q none (some 12) (.mv (.t 1)),
  .e none (some 13) (.bslice 1 [(.t 12)]),
  .e none (some 14) (.append 5 1 false (.t 11) (.t 13)),
  .q none (some 15) (.nilchk (.t 7)),
  .q none (some 16) (.faddr 1 (.t 15)),
  .e none none (.store 1 (.t 16) (.t 14))])
 (.kp [] (.seq (.ops [.q none (some 4) (.mv (.k .nili))])
 .ret)))))))⟩
theorem c87 : chkF Γd.P Γd.E 87 2 i87 = true := by kernel_rfl
noncomputable def i88 : FI := -- cosigner/cosignerref01.note
 ⟨41, [.t 4, .t 5],
 (.seq (.ops [.q none (some 4) (.mv (.k (.d (.int .i64 0)))),
  .q none (some 5) (.mv (.k (.d (.int .i64 0))))])
 (.kp [0, 1] (.seq (.ops [.q none (some 6) (.mv (.k (.d (.int .i64 2))))])
 (.kp [0, 1, 6] (.seq (.block 0 (.loop [0, 1, 6] (.seq (.seq (.ops [.q none (some 7) (.mv (.t 1)),
  .q none (some 8) (.mv (.t 6)),
  .q none (some 9) (.bin .add (.t 7) (.t 8)),
  .q none (some 10) (.mv (.t 0)),
  .q none (some 11) (.slen (.t 10)),
  .q none (some 12) (.bin .lss (.t 9) (.t 11)),
  .q none (some 13) (.mv (.t 12)),
  .q (some (13, true)) (some 14) (.mv (.t 0)),
  .q (some (13, true)) (some 15) (.mv (.t 1)),
  .q (some (13, true)) (some 16) (.mv (.t 6)),
  .q (some (13, true)) (some 17) (.bin .add (.t 15) (.t 16)),
  .q (some (13, true)) (some 18) (.sindex (.t 14) (.t 17)),
  .q (some (13, true)) (some 19) (.bin .neq (.t 18) (.k (.d (.int .u8 10)))),
  .q none (some 20) (.pick (.t 13) (.t 19) (.k (.d (.bool false))))])
 (.kp [0, 1, 6, 20] (.cond (.t 20) .skip (.exit 0))))
 (.kp [0, 1, 6] (.block 1 (.seq (.seq (.ops [.q none (some 21) (.mv (.t 0)),
  .q none (some 22) (.mv (.t 1)),
  .q none (some 23) (.mv (.t 6)),
  .q none (some 24) (.bin .add (.t 22) (.t 23)),
  .q none (some 25) (.sindex (.t 21) (.t 24)),
  .q none (some 26) (.bin .lss (.t 25) (.k (.d (.int .u8 32)))),
  .q none (some 27) (.mv (.t 26)),
  .q (some (27, false)) (some 28) (.mv (.t 0)),
  .q (some (27, false)) (some 29) (.mv (.t 1)),
  .q (some (27, false)) (some 30) (.mv (.t 6)),
  .q (some (27, false)) (some 31) (.bin .add (.t 29) (.t 30)),
  .q (some (27, false)) (some 32) (.sindex (.t 28) (.t 31)),
  .q (some (27, false)) (some 33) (.bin .gtr (.t 32) (.k (.d (.int .u8 126)))),
  .q none (some 34) (.pick (.t 27) (.k (.d (.bool true))) (.t 33))])
 (.kp [0, 1, 6, 34] (.cond (.t 34) (.seq (.ops [.q none (some 35) (.mv (.t 1)),
  .q none (some 36) (.mv (.t 6)),
  .q none (some 37) (.bin .add (.t 35) (.t 36)),
  .q none (some 4) (.mv (.k (.d (.int .i64 (-1))))),
  .q none (some 5) (.mv (.t 37))])
 .ret) .skip)))
 (.kp [0, 1, 6] (.ops [.q none (some 38) (.mv (.t 6)),
  .q none (some 39) (.bin .add (.t 38) (.k (.d (.int .i64 1)))),
  .q none (some 6) (.mv (.t 39))]))))))))
 (.kp [6] (.seq (.ops [.q none (some 40) (.mv (.t 6)),
  .q none (some 4) (.mv (.t 40)),
  .q none (some 5) (.mv (.k (.d (.int .i64 0))))])
 .ret)))))))⟩
theorem c88 : chkF Γd.P Γd.E 88 2 i88 = true := by kernel_rfl
noncomputable def i89 : FI := -- cosigner/cosignerref01.sign
 ⟨43, [.t 4],
 (.seq (.ops [.q none (some 4) (.mv (.k (.d (.str []))))])
 (.kp [0, 1] (.seq (.ops [.call none (some 8) 65 [],
  .q none (some 5) (.mv (.t 8))])
 (.kp [0, 1, 5] (.seq (.seq (.ops [.q none (some 6) (.mv (.k (.d (.int .i64 0))))])
 (.kp [0, 1, 5, 6] (.block 0 (.loop [0, 1, 5, 6] (.seq (.seq (.ops [.q none (some 9) (.mv (.t 6)),
  .q none (some 10) (.mv (.t 5)),
  .q none (some 11) (.len (.t 10)),
  .q none (some 12) (.bin .lss (.t 9) (.t 11))])
 (.kp [0, 1, 5, 6, 12] (.cond (.t 12) .skip (.exit 0))))
 (.kp [0, 1, 5, 6] (.seq (.block 1 (.seq (.ops [.q none (some 15) (.mv (.t 5)),
  .q none (some 16) (.mv (.t 6)),
  .q none (some 17) (.iaddr 1 (.t 15) (.t 16)),
  .q none (some 18) (.load 1 false (.t 17)),
  .q none (some 19) (.slen (.t 18)),
  .q none (some 7) (.mv (.t 19))])
 (.kp [0, 1, 5, 6, 7] (.seq (.draw (.q 0 (.q none (some 20) (.mv (.t 1))) (.q 1 (.q none (some 21) (.mv (.t 7))) (.q 2 (.q none (some 22) (.bin .add (.t 20) (.t 21))) (.q 3 (.q none (some 23) (.mv (.t 0))) (.q 4 (.q none (some 24) (.slen (.t 23))) (.q 5 (.q none (some 25) (.bin .leq (.t 22) (.t 24))) (.q 6 (.q none (some 26) (.mv (.t 25))) (.q 7 (.q (some (26, true)) (some 27) (.mv (.t 0))) (.q 8 (.q (some (26, true)) (some 28) (.mv (.t 1))) (.q 9 (.q (some (26, true)) (some 29) (.mv (.t 1))) (.q 10 (.q (some (26, true)) (some 30) (.mv (.t 7))) (.q 11 (.q (some (26, true)) (some 31) (.bin .add (.t 29) (.t 30))) (.q 12 (.q (some (26, true)) (some 32) (.sslice (.t 27) (some (.t 28)) (some (.t 31)))) (.q 13 (.q (some (26, true)) (some 33) (.mv (.t 5))) (.q 14 (.q (some (26, true)) (some 34) (.mv (.t 6))) (.q 15 (.q (some (26, true)) (some 35) (.iaddr 1 (.t 33) (.t 34))) (.q 16 (.q (some (26, true)) (some 36) (.load 1 false (.t 35))) (.q 17 (.q (some (26, true)) (some 37) (.bin .eql (.t 32) (.t 36))) (.q 18 (.q none (some 38) (.pick (.t 26) (.t 37) (.k (.d (.bool false))))) .done))))))))))))))))))))
 (.kp [0, 1, 5, 6, 38] (.cond (.t 38) (.seq (.ops [.q none (some 39) (.mv (.t 5)),
  .q none (some 40) (.mv (.t 6)),
  .q none (some 41) (.iaddr 1 (.t 39) (.t 40)),
  .q none (some 42) (.load 1 false (.t 41)),
  .q none (some 4) (.mv (.t 42))])
 .ret) .skip))))))
 (.kp [0, 1, 5, 6] (.ops [.q none (some 13) (.mv (.t 6)),
  .q none (some 14) (.bin .add (.t 13) (.k (.d (.int .i64 1)))),
  .q none (some 6) (.mv (.t 14))])))))))))
 (.kp [] (.seq (.ops [.q none (some 4) (.mv (.k (.d (.str []))))])
 .ret)))))))⟩
theorem c89 : chkF Γd.P Γd.E 89 2 i89 = true := by kernel_rfl
noncomputable def i90 : FI := -- cosigner/cosignerref01.part
 ⟨17, [.t 2],
 (.seq (.ops [.q none (some 2) (.mv (.k (.d (.bool false))))])
 (.kp [0] (.seq (.ops [.q none (some 3) (.mv (.t 0)),
  .call none (some 4) 99 [(.t 3)],
  .q none (some 5) (.mv (.t 4)),
  .q (some (5, false)) (some 6) (.mv (.t 0)),
  .call (some (5, false)) (some 7) 100 [(.t 6)],
  .q none (some 8) (.pick (.t 5) (.k (.d (.bool true))) (.t 7)),
  .q none (some 9) (.mv (.t 8)),
  .q (some (9, false)) (some 10) (.mv (.t 0)),
  .call (some (9, false)) (some 11) 67 [(.t 10)],
  .q none (some 12) (.pick (.t 9) (.k (.d (.bool true))) (.t 11)),
  .q none (some 13) (.mv (.t 12)),
  .q (some (13, false)) (some 14) (.mv (.t 0)),
  .q (some (13, false)) (some 15) (.bin .eql (.t 14) (.k (.d (.int .u8 95)))),
  .q none (some 16) (.pick (.t 13) (.k (.d (.bool true))) (.t 15)),
  .q none (some 2) (.mv (.t 16))])
 .ret)))⟩
theorem c90 : chkF Γd.P Γd.E 90 1 i90 = true := by kernel_rfl
noncomputable def i91 : FI := -- cosigner/lex.within
 ⟨17, [.t 2],
 (.seq (.ops [.q none (some 2) (.mv (.k (.d (.bool false))))])
 (.kp [0] (.seq (.ops [.q none (some 3) (.mv (.t 0)),
  .call none (some 4) 96 [(.t 3)],
  .q none (some 5) (.mv (.t 4)),
  .q (some (5, false)) (some 6) (.mv (.t 0)),
  .call (some (5, false)) (some 7) 94 [(.t 6)],
  .q none (some 8) (.pick (.t 5) (.k (.d (.bool true))) (.t 7)),
  .q none (some 9) (.mv (.t 8)),
  .q (some (9, false)) (some 10) (.mv (.t 0)),
  .call (some (9, false)) (some 11) 60 [(.t 10)],
  .q none (some 12) (.pick (.t 9) (.k (.d (.bool true))) (.t 11)),
  .q none (some 13) (.mv (.t 12)),
  .q (some (13, false)) (some 14) (.mv (.t 0)),
  .q (some (13, false)) (some 15) (.bin .eql (.t 14) (.k (.d (.int .u8 95)))),
  .q none (some 16) (.pick (.t 13) (.k (.d (.bool true))) (.t 15)),
  .q none (some 2) (.mv (.t 16))])
 .ret)))⟩
theorem c91 : chkF Γd.P Γd.E 91 1 i91 = true := by kernel_rfl
noncomputable def i92 : FI := -- cosigner/lex.only
 ⟨18, [.t 4],
 (.seq (.ops [.q none (some 4) (.mv (.k (.d (.bool false))))])
 (.kp [0, 1] (.seq (.seq (.ops [.q none (some 6) (.mv (.t 0)),
  .q none (some 7) (.slen (.t 6)),
  .q none (some 8) (.mv (.k (.d (.int .i64 0))))])
 (.kp [0, 1, 7, 8] (.block 0 (.loop [0, 1, 7, 8] (.seq (.ops [.q none (some 9) (.bin .lss (.t 8) (.t 7))])
 (.kp [0, 1, 7, 8, 9] (.seq (.cond (.t 9) .skip (.exit 0))
 (.kp [0, 1, 7, 8] (.seq (.block 1 (.seq (.ops [.q none (some 10) (.mv (.t 8)),
  .q none (some 5) (.mv (.t 10))])
 (.kp [0, 1, 5, 7, 8] (.seq (.ops [.q none (some 11) (.mv (.t 1)),
  .q none (some 12) (.mv (.t 0)),
  .q none (some 13) (.mv (.t 5)),
  .q none (some 14) (.sindex (.t 12) (.t 13)),
  .callv none (some 15) (.t 11) [(.t 14)],
  .q none (some 16) (.not (.t 15))])
 (.kp [0, 1, 7, 8, 16] (.cond (.t 16) (.seq (.ops [.q none (some 4) (.mv (.k (.d (.bool false))))])
 .ret) .skip))))))
 (.kp [0, 1, 7, 8] (.ops [.q none (some 17) (.bin .add (.t 8) (.k (.d (.int .i64 1)))),
  .q none (some 8) (.mv (.t 17))])))))))))))
 (.kp [] (.seq (.ops [.q none (some 4) (.mv (.k (.d (.bool true))))])
 .ret)))))⟩
theorem c92 : chkF Γd.P Γd.E 92 2 i92 = true := by kernel_rfl
noncomputable def i93 : FI := -- cosigner/lex.word$1
 ⟨10, [.t 2],
 (.seq (.ops [.q none (some 2) (.mv (.k (.d (.bool false))))])
 (.kp [0] (.seq (.ops [.q none (some 3) (.mv (.t 0)),
  .call none (some 4) 91 [(.t 3)],
  .q none (some 5) (.mv (.t 4)),
  .q (some (5, true)) (some 6) (.mv (.t 0)),
  .call (some (5, true)) (some 7) 94 [(.t 6)],
  .q (some (5, true)) (some 8) (.not (.t 7)),
  .q none (some 9) (.pick (.t 5) (.t 8) (.k (.d (.bool false)))),
  .q none (some 2) (.mv (.t 9))])
 .ret)))⟩
theorem c93 : chkF Γd.P Γd.E 93 1 i93 = true := by kernel_rfl
noncomputable def i94 : FI := -- cosigner/lex.capital
 ⟨9, [.t 2],
 (.seq (.ops [.q none (some 2) (.mv (.k (.d (.bool false))))])
 (.kp [0] (.seq (.ops [.q none (some 3) (.mv (.t 0)),
  .q none (some 4) (.bin .leq (.k (.d (.int .u8 65))) (.t 3)),
  .q none (some 5) (.mv (.t 4)),
  .q (some (5, true)) (some 6) (.mv (.t 0)),
  .q (some (5, true)) (some 7) (.bin .leq (.t 6) (.k (.d (.int .u8 90)))),
  .q none (some 8) (.pick (.t 5) (.t 7) (.k (.d (.bool false)))),
  .q none (some 2) (.mv (.t 8))])
 .ret)))⟩
theorem c94 : chkF Γd.P Γd.E 94 1 i94 = true := by kernel_rfl
noncomputable def i95 : FI := -- cosigner/lex.word$2
 ⟨10, [.t 2],
 (.seq (.ops [.q none (some 2) (.mv (.k (.d (.bool false))))])
 (.kp [0] (.seq (.ops [.q none (some 3) (.mv (.t 0)),
  .call none (some 4) 91 [(.t 3)],
  .q none (some 5) (.mv (.t 4)),
  .q (some (5, true)) (some 6) (.mv (.t 0)),
  .call (some (5, true)) (some 7) 96 [(.t 6)],
  .q (some (5, true)) (some 8) (.not (.t 7)),
  .q none (some 9) (.pick (.t 5) (.t 8) (.k (.d (.bool false)))),
  .q none (some 2) (.mv (.t 9))])
 .ret)))⟩
theorem c95 : chkF Γd.P Γd.E 95 1 i95 = true := by kernel_rfl
noncomputable def i96 : FI := -- cosigner/lex.small
 ⟨9, [.t 2],
 (.seq (.ops [.q none (some 2) (.mv (.k (.d (.bool false))))])
 (.kp [0] (.seq (.ops [.q none (some 3) (.mv (.t 0)),
  .q none (some 4) (.bin .leq (.k (.d (.int .u8 97))) (.t 3)),
  .q none (some 5) (.mv (.t 4)),
  .q (some (5, true)) (some 6) (.mv (.t 0)),
  .q (some (5, true)) (some 7) (.bin .leq (.t 6) (.k (.d (.int .u8 122)))),
  .q none (some 8) (.pick (.t 5) (.t 7) (.k (.d (.bool false)))),
  .q none (some 2) (.mv (.t 8))])
 .ret)))⟩
theorem c96 : chkF Γd.P Γd.E 96 1 i96 = true := by kernel_rfl
noncomputable def i97 : FI := -- slices.Contains[[]string,string]
 ⟨9, [.t 4],
 (.seq (.ops [.q none (some 4) (.mv (.k (.d (.bool false))))])
 (.kp [0, 1] (.seq (.ops [.q none (some 5) (.mv (.t 0)),
  .q none (some 6) (.mv (.t 1)),
  .call none (some 7) 116 [(.t 5), (.t 6)],
  .q none (some 8) (.bin .geq (.t 7) (.k (.d (.int .i64 0)))),
  .q none (some 4) (.mv (.t 8))])
 .ret)))⟩
theorem c97 : chkF Γd.P Γd.E 97 2 i97 = true := by kernel_rfl
noncomputable def i98 : FI := -- cosigner/lex.signs
 ⟨2, [.c 0 22 true],
 (.seq (.ops [.e none (some 0) (.alloc 128 [(.d (.str [])), (.d (.str [])), (.d (.str [])), (.d (.str [])), (.d (.str [])), (.d (.str [])), (.d (.str [])), (.d (.str [])), (.d (.str [])), (.d (.str [])), (.d (.str [])), (.d (.str [])), (.d (.str [])), (.d (.str [])), (.d (.str [])), (.d (.str [])), (.d (.str [])), (.d (.str [])), (.d (.str [])), (.d (.str [])), (.d (.str [])), (.d (.str []))])])
 (.kp [0] (.seq (.ops [.q none (some 1) (.build [(.str []), (.str []), (.str []), (.str []), (.str []), (.str []), (.str []), (.str []), (.str []), (.str []), (.str []), (.str []), (.str []), (.str []), (.str []), (.str []), (.str []), (.str []), (.str []), (.str []), (.str []), (.str [])] [(0, 1, (.k (.d (.str [58, 61])))), (1, 1, (.k (.d (.str [47, 61])))), (2, 1, (.k (.d (.str [60, 61])))), (3, 1, (.k (.d (.str [62, 61])))), (4, 1, (.k (.d (.str [47, 47])))), (5, 1, (.k (.d (.str [61])))), (6, 1, (.k (.d (.str [60])))), (7, 1, (.k (.d (.str [62])))), (8, 1, (.k (.d (.str [43])))), (9, 1, (.k (.d (.str [45])))), (10, 1, (.k (.d (.str [42])))), (11, 1, (.k (.d (.str [37])))), (12, 1, (.k (.d (.str [40])))), (13, 1, (.k (.d (.str [41])))), (14, 1, (.k (.d (.str [91])))), (15, 1, (.k (.d (.str [93])))), (16, 1, (.k (.d (.str [123])))), (17, 1, (.k (.d (.str [125])))), (18, 1, (.k (.d (.str [44])))), (19, 1, (.k (.d (.str [59])))), (20, 1, (.k (.d (.str [58])))), (21, 1, (.k (.d (.str [46]))))]),
  .e none none (.store 22 (.t 0) (.t 1))])
 .ret)))⟩
theorem c98 : chkF Γd.P Γd.E 98 0 i98 = true := by kernel_rfl
noncomputable def i99 : FI := -- cosigner/cosignerref01.small
 ⟨9, [.t 2],
 (.seq (.ops [.q none (some 2) (.mv (.k (.d (.bool false))))])
 (.kp [0] (.seq (.ops [.q none (some 3) (.mv (.t 0)),
  .q none (some 4) (.bin .geq (.t 3) (.k (.d (.int .u8 97)))),
  .q none (some 5) (.mv (.t 4)),
  .q (some (5, true)) (some 6) (.mv (.t 0)),
  .q (some (5, true)) (some 7) (.bin .leq (.t 6) (.k (.d (.int .u8 122)))),
  .q none (some 8) (.pick (.t 5) (.t 7) (.k (.d (.bool false)))),
  .q none (some 2) (.mv (.t 8))])
 .ret)))⟩
theorem c99 : chkF Γd.P Γd.E 99 1 i99 = true := by kernel_rfl
noncomputable def i100 : FI := -- cosigner/cosignerref01.capital
 ⟨9, [.t 2],
 (.seq (.ops [.q none (some 2) (.mv (.k (.d (.bool false))))])
 (.kp [0] (.seq (.ops [.q none (some 3) (.mv (.t 0)),
  .q none (some 4) (.bin .geq (.t 3) (.k (.d (.int .u8 65)))),
  .q none (some 5) (.mv (.t 4)),
  .q (some (5, true)) (some 6) (.mv (.t 0)),
  .q (some (5, true)) (some 7) (.bin .leq (.t 6) (.k (.d (.int .u8 90)))),
  .q none (some 8) (.pick (.t 5) (.t 7) (.k (.d (.bool false)))),
  .q none (some 2) (.mv (.t 8))])
 .ret)))⟩
theorem c100 : chkF Γd.P Γd.E 100 1 i100 = true := by kernel_rfl
-- 107 (*strings.Builder).Grow: not covered
noncomputable def i110 : FI := -- cosigner/lex.pieces$1
 ⟨91, [],
 (.seq (.ops [.q none (some 3) (.mv (.k (.d (.int .i64 0))))])
 (.kp [0, 1, 3, 1000000000] (.block 0 (.loop [0, 1, 3, 1000000000] (.seq (.seq (.ops [.q none (some 8) (.mv (.t 3)),
  .q none (some 9) (.load 1 false (.t 1)),
  .q none (some 10) (.slen (.t 9)),
  .q none (some 11) (.bin .lss (.t 8) (.t 10))])
 (.kp [0, 1, 3, 11, 1000000000] (.cond (.t 11) .skip (.exit 0))))
 (.kp [0, 1, 3, 1000000000] (.block 1 (.seq (.ops [.q none (some 12) (.load 1 false (.t 1)),
  .q none (some 13) (.mv (.t 3)),
  .q none (some 14) (.sslice (.t 12) (some (.t 13)) none),
  .q none (some 4) (.mv (.t 14))])
 (.kp [0, 1, 3, 4, 1000000000] (.seq (.ops [.q none (some 15) (.mv (.t 3)),
  .q none (some 16) (.build [(.int .i64 0), (.str []), (.int .i64 0), (.int .i64 0), (.int .i64 0), (.int .i64 0)] [(4, 1, (.t 15))]),
  .e none (some 5) (.alloc 116 [(.d (.int .i64 0)), (.d (.str [])), (.d (.int .i64 0)), (.d (.int .i64 0)), (.d (.int .i64 0)), (.d (.int .i64 0))]),
  .e none none (.store 6 (.t 5) (.t 16))])
 (.kp [0, 1, 3, 4, 5, 1000000000] (.seq (.ops [.q none (some 17) (.mv (.t 4)),
  .call none (some 18) 59 [(.t 17)],
  .q none (some 6) (.mv (.t 18))])
 (.kp [0, 1, 3, 4, 5, 6, 1000000000] (.seq (.block 2 (.seq (.ops [.q none (some 33) (.mv (.t 4)),
  .q none (some 34) (.sindex (.t 33) (.k (.d (.int .i64 0)))),
  .q none (some 35) (.bin .eql (.t 34) (.k (.d (.int .u8 32)))),
  .q none (some 32) (.mv (.t 35))])
 (.kp [0, 1, 3, 4, 5, 6, 32, 1000000000] (.cond (.t 32) (.seq (.ops [.q none (some 36) (.mv (.t 3)),
  .q none (some 37) (.bin .add (.t 36) (.k (.d (.int .i64 1)))),
  .q none (some 3) (.mv (.t 37))])
 (.kp [0, 1, 3, 1000000000] (.exit 1))) (.seq (.ops [.q none (some 39) (.mv (.t 4)),
  .call none (some 40) 26 [(.t 39), (.k (.d (.str [45, 45])))],
  .q none (some 38) (.mv (.t 40))])
 (.kp [0, 1, 3, 4, 5, 6, 38, 1000000000] (.cond (.t 38) (.seq (.ops [.q none (some 41) (.mv (.t 4)),
  .q none (some 42) (.faddr 0 (.t 5)),
  .q none (some 43) (.faddr 0 (.t 42)),
  .e none none (.store 1 (.t 43) (.k (.d (.int .i64 6)))),
  .q none (some 44) (.faddr 0 (.t 5)),
  .q none (some 45) (.faddr 1 (.t 44)),
  .e none none (.store 1 (.t 45) (.t 41))])
 (.kp [0, 1, 3, 4, 5, 1000000000] (.seq (.ops [.q none (some 46) (.mv (.t 4)),
  .q none (some 47) (.slen (.t 46)),
  .q none (some 6) (.mv (.t 47))])
 (.kp [0, 1, 3, 4, 5, 6, 1000000000] (.seq (.ops [.q none (some 48) (.mv (.t 4)),
  .call none (some 49) 111 [(.t 48), (.f 112)],
  .q none (some 7) (.mv (.t 49))])
 (.kp [0, 1, 3, 5, 6, 7, 1000000000] (.seq (.ops [.q none (some 50) (.mv (.t 7)),
  .q none (some 51) (.bin .geq (.t 50) (.k (.d (.int .i64 0))))])
 (.kp [0, 1, 3, 5, 6, 7, 51, 1000000000] (.cond (.t 51) (.ops [.q none (some 52) (.mv (.t 3)),
  .q none (some 53) (.mv (.t 7)),
  .q none (some 54) (.bin .add (.t 52) (.t 53)),
  .q none (some 55) (.build [(.int .i64 0), (.str []), (.int .i64 0), (.int .i64 0), (.int .i64 0), (.int .i64 0)] [(4, 1, (.t 54)), (5, 1, (.k (.d (.int .i64 2))))]),
  .e none none (.store 6 (.t 5) (.t 55))]) .skip))))))))) (.seq (.ops [.q none (some 57) (.mv (.t 6)),
  .q none (some 58) (.bin .gtr (.t 57) (.k (.d (.int .i64 0)))),
  .q none (some 59) (.mv (.t 58)),
  .q (some (59, true)) (some 60) (.mv (.t 4)),
  .q (some (59, true)) (some 61) (.sindex (.t 60) (.k (.d (.int .i64 0)))),
  .q (some (59, true)) (some 62) (.bin .neq (.t 61) (.k (.d (.int .u8 95)))),
  .q none (some 63) (.pick (.t 59) (.t 62) (.k (.d (.bool false)))),
  .q none (some 56) (.mv (.t 63))])
 (.kp [0, 1, 3, 4, 5, 6, 56, 1000000000] (.cond (.t 56) (.seq (.ops [.q none (some 64) (.mv (.t 4)),
  .q none (some 65) (.mv (.t 6)),
  .q none (some 66) (.sslice (.t 64) none (some (.t 65))),
  .q none (some 67) (.faddr 0 (.t 5)),
  .q none (some 68) (.faddr 1 (.t 67)),
  .e none none (.store 1 (.t 68) (.t 66))])
 (.kp [0, 1, 3, 5, 6, 1000000000] (.ops [.q none (some 70) (.faddr 0 (.t 5)),
  .q none (some 71) (.faddr 1 (.t 70)),
  .q none (some 72) (.load 1 false (.t 71)),
  .call none (some 73) 32 [(.t 72)],
  .q none (some 69) (.mv (.t 73)),
  .q none (some 74) (.extract (.t 69) 0),
  .q none (some 75) (.extract (.t 69) 1),
  .q none (some 76) (.faddr 0 (.t 5)),
  .q none (some 77) (.faddr 0 (.t 76)),
  .e none none (.store 1 (.t 77) (.t 74)),
  .q none (some 78) (.faddr 5 (.t 5)),
  .e none none (.store 1 (.t 78) (.t 75))]))) (.seq (.ops [.q none (some 19) (.mv (.t 4)),
  .call none (some 20) 63 [(.t 19)],
  .q none (some 21) (.faddr 0 (.t 5)),
  .q none (some 22) (.faddr 0 (.t 21)),
  .e none none (.store 1 (.t 22) (.k (.d (.int .i64 5)))),
  .q none (some 23) (.faddr 0 (.t 5)),
  .q none (some 24) (.faddr 1 (.t 23)),
  .e none none (.store 1 (.t 24) (.t 20))])
 (.kp [0, 1, 3, 5, 1000000000] (.seq (.ops [.q none (some 25) (.faddr 0 (.t 5)),
  .q none (some 26) (.faddr 1 (.t 25)),
  .q none (some 27) (.load 1 false (.t 26)),
  .q none (some 28) (.slen (.t 27)),
  .q none (some 6) (.mv (.t 28))])
 (.kp [0, 1, 3, 5, 6, 1000000000] (.seq (.ops [.q none (some 29) (.mv (.t 6)),
  .q none (some 30) (.bin .eql (.t 29) (.k (.d (.int .i64 0))))])
 (.kp [0, 1, 3, 5, 6, 30, 1000000000] (.cond (.t 30) (.ops [.q none (some 31) (.faddr 5 (.t 5)),
  .e none none (.store 1 (.t 31) (.k (.d (.int .i64 2))))]) .skip)))))))))))))))))
 (.kp [0, 1, 3, 5, 6, 1000000000] (.seq (.seq (.ops [.q none (some 79) (.mv (.t 0)),
  .q none (some 80) (.load 6 true (.t 5)),
  .yld (some 81) (.t 79) (.t 80),
  .q none (some 82) (.not (.t 81)),
  .q none (some 83) (.mv (.t 82)),
  .q (some (83, false)) (some 84) (.faddr 5 (.t 5)),
  .q (some (83, false)) (some 85) (.load 1 false (.t 84)),
  .q (some (83, false)) (some 86) (.bin .neq (.t 85) (.k (.d (.int .i64 0)))),
  .q none (some 87) (.pick (.t 83) (.k (.d (.bool true))) (.t 86))])
 (.kp [0, 1, 3, 6, 87, 1000000000] (.cond (.t 87) .ret .skip)))
 (.kp [0, 1, 3, 6, 1000000000] (.ops [.q none (some 88) (.mv (.t 3)),
  .q none (some 89) (.mv (.t 6)),
  .q none (some 90) (.bin .add (.t 88) (.t 89)),
  .q none (some 3) (.mv (.t 90))]))))))))))))))))))⟩
theorem c110 : chkF Γd.P Γd.E 110 2 i110 = true := by kernel_rfl
noncomputable def i112 : FI := -- cosigner/lex.pieces$1$1
 ⟨9, [.t 2],
 (.seq (.ops [.q none (some 2) (.mv (.k (.d (.bool false))))])
 (.kp [0] (.seq (.ops [.q none (some 3) (.mv (.t 0)),
  .q none (some 4) (.bin .lss (.t 3) (.k (.d (.int .i32 32)))),
  .q none (some 5) (.mv (.t 4)),
  .q (some (5, false)) (some 6) (.mv (.t 0)),
  .q (some (5, false)) (some 7) (.bin .gtr (.t 6) (.k (.d (.int .i32 126)))),
  .q none (some 8) (.pick (.t 5) (.k (.d (.bool true))) (.t 7)),
  .q none (some 2) (.mv (.t 8))])
 .ret)))⟩
theorem c112 : chkF Γd.P Γd.E 112 1 i112 = true := by kernel_rfl
noncomputable def i115 : FI := -- slices.IndexFunc[[]cosigner/api.Token,cosigner/api.Token]
 ⟨19, [.t 4],
 (.seq (.ops [.q none (some 4) (.mv (.k (.d (.int .i64 0))))])
 (.kp [0, 1] (.seq (.seq (.ops [.q none (some 6) (.mv (.t 0)),
  .q none (some 7) (.len (.t 6)),
  .q none (some 8) (.mv (.k (.d (.int .i64 0))))])
 (.kp [0, 1, 7, 8] (.block 0 (.loop [0, 1, 7, 8] (.seq (.ops [.q none (some 9) (.bin .lss (.t 8) (.t 7))])
 (.kp [0, 1, 7, 8, 9] (.seq (.cond (.t 9) .skip (.exit 0))
 (.kp [0, 1, 7, 8] (.seq (.block 1 (.seq (.ops [.q none (some 10) (.mv (.t 8)),
  .q none (some 5) (.mv (.t 10))])
 (.kp [0, 1, 5, 7, 8] (.seq (.ops [.q none (some 11) (.mv (.t 1)),
  .q none (some 12) (.mv (.t 0)),
  .q none (some 13) (.mv (.t 5)),
  .q none (some 14) (.iaddr 4 (.t 12) (.t 13)),
  .q none (some 15) (.load 4 true (.t 14)),
  .callv none (some 16) (.t 11) [(.t 15)]])
 (.kp [0, 1, 5, 7, 8, 16] (.cond (.t 16) (.seq (.ops [.q none (some 17) (.mv (.t 5)),
  .q none (some 4) (.mv (.t 17))])
 .ret) .skip))))))
 (.kp [0, 1, 7, 8] (.ops [.q none (some 18) (.bin .add (.t 8) (.k (.d (.int .i64 1)))),
  .q none (some 8) (.mv (.t 18))])))))))))))
 (.kp [] (.seq (.ops [.q none (some 4) (.mv (.k (.d (.int .i64 (-1)))))])
 .ret)))))⟩
theorem c115 : chkF Γd.P Γd.E 115 2 i115 = true := by kernel_rfl
noncomputable def i116 : FI := -- slices.Index[[]string,string]
 ⟨19, [.t 4],
 (.seq (.ops [.q none (some 4) (.mv (.k (.d (.int .i64 0))))])
 (.kp [0, 1] (.seq (.seq (.ops [.q none (some 6) (.mv (.t 0)),
  .q none (some 7) (.len (.t 6)),
  .q none (some 8) (.mv (.k (.d (.int .i64 0))))])
 (.kp [0, 1, 7, 8] (.block 0 (.loop [0, 1, 7, 8] (.seq (.ops [.q none (some 9) (.bin .lss (.t 8) (.t 7))])
 (.kp [0, 1, 7, 8, 9] (.seq (.cond (.t 9) .skip (.exit 0))
 (.kp [0, 1, 7, 8] (.seq (.block 1 (.seq (.ops [.q none (some 10) (.mv (.t 8)),
  .q none (some 5) (.mv (.t 10))])
 (.kp [0, 1, 5, 7, 8] (.seq (.ops [.q none (some 11) (.mv (.t 1)),
  .q none (some 12) (.mv (.t 0)),
  .q none (some 13) (.mv (.t 5)),
  .q none (some 14) (.iaddr 1 (.t 12) (.t 13)),
  .q none (some 15) (.load 1 false (.t 14)),
  .q none (some 16) (.bin .eql (.t 11) (.t 15))])
 (.kp [0, 1, 5, 7, 8, 16] (.cond (.t 16) (.seq (.ops [.q none (some 17) (.mv (.t 5)),
  .q none (some 4) (.mv (.t 17))])
 .ret) .skip))))))
 (.kp [0, 1, 7, 8] (.ops [.q none (some 18) (.bin .add (.t 8) (.k (.d (.int .i64 1)))),
  .q none (some 8) (.mv (.t 18))])))))))))))
 (.kp [] (.seq (.ops [.q none (some 4) (.mv (.k (.d (.int .i64 (-1)))))])
 .ret)))))⟩
theorem c116 : chkF Γd.P Γd.E 116 2 i116 = true := by kernel_rfl
-- 121 (*strings.Builder).grow: not covered
end Go.Plane
end
section
namespace Go.Proofs
open Go.Shelf
def Tryd.lays169_ren : Go.Shelf.Ren := ⟨fun | 169 => 47 | n => n, fun | 70 => 86 | 9 => 9 | 0 => 0 | 72 => 89 | 37 => 87 | 127 => 111 | 3 => 3 | 5 => 5 | n => n, fun | n => n⟩
theorem Tryd.lays169 : Go.Proofs.Lays.n169 Tryd.prog Tryd.lays169_ren := {
  mixed := by kernel_rfl
  f169 := Tryd.func47.trans (congrArg some (by kernel_rfl))
  t0 := Tryd.underlying0
  a0 := Tryd.isAgg0
  z0 := Tryd.sizeOf0
  v0 := Tryd.zeroValue0
  t3 := Tryd.underlying3
  a3 := Tryd.isAgg3
  z3 := Tryd.sizeOf3
  v3 := Tryd.zeroValue3
  t9 := Tryd.underlying9
  a9 := Tryd.isAgg9
  z9 := Tryd.sizeOf9
  v9 := Tryd.zeroValue9
  t37 := Tryd.underlying87
  a37 := Tryd.isAgg87
  z37 := Tryd.sizeOf87
  v37 := Tryd.zeroValue87
  t70 := Tryd.underlying86
  a70 := Tryd.isAgg86
  z70 := Tryd.sizeOf86
  v70 := Tryd.zeroValue86
  t72 := Tryd.underlying89
  a72 := Tryd.isAgg89
  z72 := Tryd.sizeOf89
  v72 := Tryd.zeroValue89
  t127 := Tryd.underlying111
  a127 := Tryd.isAgg111
  z127 := Tryd.sizeOf111
  v127 := Tryd.zeroValue111 }
theorem Tryd.Builder_Extra_169 : Builder.Extra Tryd.prog Tryd.lays169_ren := {
  sizeBuilder := by kernel_rfl
  liesBuilder := by kernel_rfl
  t5 := Tryd.underlying5
  a5 := Tryd.isAgg5
  z5 := Tryd.sizeOf5
  v5 := Tryd.zeroValue5
  infoByte := by kernel_rfl
  cellsByte := by kernel_rfl
  sizeByte := by kernel_rfl
  neB5 := by decide }
def Tryd.lays156_ren : Go.Shelf.Ren := ⟨fun | 156 => 74 | 165 => 107 | 166 => 45 | 169 => 47 | 240 => 79 | 241 => 121 | 276 => 109 | 277 => 132 | n => n, fun | 31 => 26 | 9 => 9 | 3 => 3 | 4 => 4 | 0 => 0 | 20 => 20 | 72 => 89 | 76 => 92 | 70 => 86 | 37 => 87 | 75 => 91 | 127 => 111 | 164 => 141 | 5 => 5 | 80 => 95 | n => n, fun | n => n⟩
theorem Tryd.lays156 : Go.Proofs.Lays.n156 Tryd.prog Tryd.lays156_ren := {
  mixed := by kernel_rfl
  f156 := Tryd.func74.trans (congrArg some (by kernel_rfl))
  f165 := Tryd.func107.trans (congrArg some (by kernel_rfl))
  f166 := Tryd.func45.trans (congrArg some (by kernel_rfl))
  f169 := Tryd.func47.trans (congrArg some (by kernel_rfl))
  f240 := Tryd.func79.trans (congrArg some (by kernel_rfl))
  f241 := Tryd.func121.trans (congrArg some (by kernel_rfl))
  f276 := Tryd.func109.trans (congrArg some (by kernel_rfl))
  f277 := Tryd.func132.trans (congrArg some (by kernel_rfl))
  t0 := Tryd.underlying0
  a0 := Tryd.isAgg0
  z0 := Tryd.sizeOf0
  v0 := Tryd.zeroValue0
  t3 := Tryd.underlying3
  a3 := Tryd.isAgg3
  z3 := Tryd.sizeOf3
  v3 := Tryd.zeroValue3
  t4 := Tryd.underlying4
  a4 := Tryd.isAgg4
  z4 := Tryd.sizeOf4
  v4 := Tryd.zeroValue4
  t9 := Tryd.underlying9
  a9 := Tryd.isAgg9
  z9 := Tryd.sizeOf9
  v9 := Tryd.zeroValue9
  t20 := Tryd.underlying20
  a20 := Tryd.isAgg20
  z20 := Tryd.sizeOf20
  v20 := Tryd.zeroValue20
  t31 := Tryd.underlying26
  a31 := Tryd.isAgg26
  z31 := Tryd.sizeOf26
  v31 := Tryd.zeroValue26
  t37 := Tryd.underlying87
  a37 := Tryd.isAgg87
  z37 := Tryd.sizeOf87
  v37 := Tryd.zeroValue87
  t70 := Tryd.underlying86
  a70 := Tryd.isAgg86
  z70 := Tryd.sizeOf86
  v70 := Tryd.zeroValue86
  t72 := Tryd.underlying89
  a72 := Tryd.isAgg89
  z72 := Tryd.sizeOf89
  v72 := Tryd.zeroValue89
  t75 := Tryd.underlying91
  a75 := Tryd.isAgg91
  z75 := Tryd.sizeOf91
  v75 := Tryd.zeroValue91
  t76 := Tryd.underlying92
  a76 := Tryd.isAgg92
  z76 := Tryd.sizeOf92
  v76 := Tryd.zeroValue92
  t127 := Tryd.underlying111
  a127 := Tryd.isAgg111
  z127 := Tryd.sizeOf111
  v127 := Tryd.zeroValue111
  t164 := Tryd.underlying141
  a164 := Tryd.isAgg141
  z164 := Tryd.sizeOf141
  v164 := Tryd.zeroValue141 }
theorem Tryd.Builder_Extra_156 : Builder.Extra Tryd.prog Tryd.lays156_ren := {
  sizeBuilder := by kernel_rfl
  liesBuilder := by kernel_rfl
  t5 := Tryd.underlying5
  a5 := Tryd.isAgg5
  z5 := Tryd.sizeOf5
  v5 := Tryd.zeroValue5
  infoByte := by kernel_rfl
  cellsByte := by kernel_rfl
  sizeByte := by kernel_rfl
  neB5 := by decide }
open Go.RowKit in
theorem Tryd.strings_Join_none (a : Option Addr) (c : Nat) (sep : ByteArray) (w : World) :
    Calls Tryd.prog 74 #[.slice a 0 c, .string sep] w fun e w' => e = .returned (.string ⟨#[]⟩) ∧ w' = w := Any.strings_Join_none Tryd.lays156 Tryd.Builder_Extra_156 a c sep w
open Go.RowKit in
theorem Tryd.strings_Join (bk o c : Nat) (xs : List ByteArray) (sep : ByteArray) (w : World) (hcells : ∀ (j : Nat) x, xs[j]? = some x → w.cell? ⟨bk, o + j, none⟩ = some (.string x)) (hbk : bk < w.heap.size) (hN : xs.length ≤ 140737488355328) (hcap : xs.length ≤ c) (hlen : (Lib.join (xs.map (·.data.toList)) sep.data.toList).length ≤ 140737488355328) :
    Calls Tryd.prog 74 #[.slice (some ⟨bk, o, none⟩) xs.length c, .string sep] w fun e w' => e = .returned (.string ⟨(Lib.join (xs.map (·.data.toList)) sep.data.toList).toArray⟩) ∧ Below w.heap.size w w' := Any.strings_Join Tryd.lays156 Tryd.Builder_Extra_156 bk o c xs sep w hcells hbk hN hcap hlen
def Tryd.lays162_ren : Go.Shelf.Ren := ⟨fun | 162 => 73 | 232 => 103 | 227 => 104 | 234 => 105 | 236 => 106 | 228 => 118 | 271 => 119 | 151 => 120 | 120 => 130 | 197 => 113 | 152 => 131 | 260 => 127 | 137 => 135 | 119 => 136 | 224 => 124 | 225 => 123 | 217 => 122 | 266 => 133 | n => n, fun | 9 => 9 | 4 => 4 | 3 => 3 | 5 => 5 | 117 => 136 | 116 => 135 | 0 => 0 | 124 => 139 | 21 => 21 | 105 => 145 | 46 => 157 | 119 => 130 | 139 => 176 | 138 => 175 | n => n, fun | 3 => 3 | 4 => 4 | n => n⟩
theorem Tryd.lays162 : Go.Proofs.Lays.n162 Tryd.prog Tryd.lays162_ren := {
  mixed := by kernel_rfl
  f119 := Tryd.func136.trans (congrArg some (by kernel_rfl))
  f120 := Tryd.func130.trans (congrArg some (by kernel_rfl))
  f137 := Tryd.func135.trans (congrArg some (by kernel_rfl))
  f151 := Tryd.func120.trans (congrArg some (by kernel_rfl))
  f152 := Tryd.func131.trans (congrArg some (by kernel_rfl))
  f162 := Tryd.func73.trans (congrArg some (by kernel_rfl))
  f197 := Tryd.func113.trans (congrArg some (by kernel_rfl))
  f217 := Tryd.func122.trans (congrArg some (by kernel_rfl))
  f224 := Tryd.func124.trans (congrArg some (by kernel_rfl))
  f225 := Tryd.func123.trans (congrArg some (by kernel_rfl))
  f227 := Tryd.func104.trans (congrArg some (by kernel_rfl))
  f228 := Tryd.func118.trans (congrArg some (by kernel_rfl))
  f232 := Tryd.func103.trans (congrArg some (by kernel_rfl))
  f234 := Tryd.func105.trans (congrArg some (by kernel_rfl))
  f236 := Tryd.func106.trans (congrArg some (by kernel_rfl))
  f260 := Tryd.func127.trans (congrArg some (by kernel_rfl))
  f266 := Tryd.func133.trans (congrArg some (by kernel_rfl))
  f271 := Tryd.func119.trans (congrArg some (by kernel_rfl))
  t0 := Tryd.underlying0
  a0 := Tryd.isAgg0
  z0 := Tryd.sizeOf0
  v0 := Tryd.zeroValue0
  t3 := Tryd.underlying3
  a3 := Tryd.isAgg3
  z3 := Tryd.sizeOf3
  v3 := Tryd.zeroValue3
  t4 := Tryd.underlying4
  a4 := Tryd.isAgg4
  z4 := Tryd.sizeOf4
  v4 := Tryd.zeroValue4
  t5 := Tryd.underlying5
  a5 := Tryd.isAgg5
  z5 := Tryd.sizeOf5
  v5 := Tryd.zeroValue5
  t9 := Tryd.underlying9
  a9 := Tryd.isAgg9
  z9 := Tryd.sizeOf9
  v9 := Tryd.zeroValue9
  t21 := Tryd.underlying21
  a21 := Tryd.isAgg21
  z21 := Tryd.sizeOf21
  v21 := Tryd.zeroValue21
  t46 := Tryd.underlying157
  a46 := Tryd.isAgg157
  z46 := Tryd.sizeOf157
  v46 := Tryd.zeroValue157
  t105 := Tryd.underlying145
  a105 := Tryd.isAgg145
  z105 := Tryd.sizeOf145
  v105 := Tryd.zeroValue145
  t116 := Tryd.underlying135
  a116 := Tryd.isAgg135
  z116 := Tryd.sizeOf135
  t117 := Tryd.underlying136
  a117 := Tryd.isAgg136
  z117 := Tryd.sizeOf136
  v117 := Tryd.zeroValue136
  t119 := Tryd.underlying130
  a119 := Tryd.isAgg130
  z119 := Tryd.sizeOf130
  t124 := Tryd.underlying139
  a124 := Tryd.isAgg139
  z124 := Tryd.sizeOf139
  v124 := Tryd.zeroValue139
  t138 := Tryd.underlying175
  a138 := Tryd.isAgg175
  z138 := Tryd.sizeOf175
  v138 := Tryd.zeroValue175
  t139 := Tryd.underlying176
  a139 := Tryd.isAgg176
  z139 := Tryd.sizeOf176
  v139 := Tryd.zeroValue176
  g3 := by kernel_rfl
  g4 := by kernel_rfl }
open Go.RowKit in
theorem Tryd.strings_TrimRight_one (s : ByteArray) (c : UInt8) (hc : c.toNat < 128) (w : World) (hs : s.size ≤ 9223372036854775807) :
    Calls Tryd.prog 73 #[.string s, .string ⟨#[c]⟩] w fun e w' => e = .returned (.string ⟨(Lib.trimRightB s.data.toList c).toArray⟩) ∧ w' = w := Any.strings_TrimRight_one Tryd.lays162 s c hc w hs
def Tryd.lays122_ren : Go.Shelf.Ren := ⟨fun | 122 => 83 | 215 => 114 | n => n, fun | 3 => 3 | 4 => 4 | n => n, fun | n => n⟩
theorem Tryd.lays122 : Go.Proofs.Lays.n122 Tryd.prog Tryd.lays122_ren := {
  mixed := by kernel_rfl
  f122 := Tryd.func83.trans (congrArg some (by kernel_rfl))
  f215 := Tryd.func114.trans (congrArg some (by kernel_rfl))
  t3 := Tryd.underlying3
  a3 := Tryd.isAgg3
  z3 := Tryd.sizeOf3
  v3 := Tryd.zeroValue3
  t4 := Tryd.underlying4
  a4 := Tryd.isAgg4
  z4 := Tryd.sizeOf4
  v4 := Tryd.zeroValue4 }
open Go.RowKit in
theorem Tryd.cmp_Compare_int (x y : Int) (w : World) :
    Calls Tryd.prog 83 #[.int .i64 x, .int .i64 y] w fun e w' => e = .returned (.int .i64 (Lib.compareInt x y)) ∧ w' = w := Any.cmp_Compare_int Tryd.lays122 x y w
def Tryd.lays138_ren : Go.Shelf.Ren := ⟨fun | 138 => 42 | 195 => 75 | 218 => 76 | 143 => 77 | 219 => 108 | 217 => 122 | 225 => 123 | 224 => 124 | 267 => 125 | 266 => 133 | 314 => 134 | n => n, fun | 9 => 9 | 3 => 3 | 4 => 4 | 5 => 5 | 0 => 0 | 46 => 157 | 146 => 172 | 51 => 152 | n => n, fun | 1 => 1 | n => n⟩
theorem Tryd.lays138 : Go.Proofs.Lays.n138 Tryd.prog Tryd.lays138_ren := {
  mixed := by kernel_rfl
  f138 := Tryd.func42.trans (congrArg some (by kernel_rfl))
  f143 := Tryd.func77.trans (congrArg some (by kernel_rfl))
  f195 := Tryd.func75.trans (congrArg some (by kernel_rfl))
  f217 := Tryd.func122.trans (congrArg some (by kernel_rfl))
  f218 := Tryd.func76.trans (congrArg some (by kernel_rfl))
  f219 := Tryd.func108.trans (congrArg some (by kernel_rfl))
  f224 := Tryd.func124.trans (congrArg some (by kernel_rfl))
  f225 := Tryd.func123.trans (congrArg some (by kernel_rfl))
  f266 := Tryd.func133.trans (congrArg some (by kernel_rfl))
  f267 := Tryd.func125.trans (congrArg some (by kernel_rfl))
  f314 := Tryd.func134.trans (congrArg some (by kernel_rfl))
  t0 := Tryd.underlying0
  a0 := Tryd.isAgg0
  z0 := Tryd.sizeOf0
  v0 := Tryd.zeroValue0
  t3 := Tryd.underlying3
  a3 := Tryd.isAgg3
  z3 := Tryd.sizeOf3
  v3 := Tryd.zeroValue3
  t4 := Tryd.underlying4
  a4 := Tryd.isAgg4
  z4 := Tryd.sizeOf4
  v4 := Tryd.zeroValue4
  t5 := Tryd.underlying5
  a5 := Tryd.isAgg5
  z5 := Tryd.sizeOf5
  v5 := Tryd.zeroValue5
  t9 := Tryd.underlying9
  a9 := Tryd.isAgg9
  z9 := Tryd.sizeOf9
  v9 := Tryd.zeroValue9
  t46 := Tryd.underlying157
  a46 := Tryd.isAgg157
  z46 := Tryd.sizeOf157
  v46 := Tryd.zeroValue157
  t51 := Tryd.underlying152
  a51 := Tryd.isAgg152
  z51 := Tryd.sizeOf152
  v51 := Tryd.zeroValue152
  t146 := Tryd.underlying172
  a146 := Tryd.isAgg172
  z146 := Tryd.sizeOf172
  v146 := Tryd.zeroValue172
  g1 := by kernel_rfl }
open Go.RowKit Go.Lib in
theorem Tryd.strings_Count_one (s : ByteArray) (c : UInt8) (w : World) :
    Calls Tryd.prog 42 #[.string s, .string ⟨#[c]⟩] w fun e w' => e = .returned (.int .i64 (Lib.countByte s.data.toList c)) ∧ w' = w := Any.strings_Count_one Tryd.lays138 s c w
def Tryd.lays149_ren : Go.Shelf.Ren := ⟨fun | 149 => 43 | 222 => 78 | n => n, fun | 9 => 9 | 5 => 5 | 3 => 3 | 4 => 4 | n => n, fun | n => n⟩
theorem Tryd.lays149 : Go.Proofs.Lays.n149 Tryd.prog Tryd.lays149_ren := {
  mixed := by kernel_rfl
  f149 := Tryd.func43.trans (congrArg some (by kernel_rfl))
  f222 := Tryd.func78.trans (congrArg some (by kernel_rfl))
  t3 := Tryd.underlying3
  a3 := Tryd.isAgg3
  z3 := Tryd.sizeOf3
  v3 := Tryd.zeroValue3
  t4 := Tryd.underlying4
  a4 := Tryd.isAgg4
  z4 := Tryd.sizeOf4
  v4 := Tryd.zeroValue4
  t5 := Tryd.underlying5
  a5 := Tryd.isAgg5
  z5 := Tryd.sizeOf5
  v5 := Tryd.zeroValue5
  t9 := Tryd.underlying9
  a9 := Tryd.isAgg9
  z9 := Tryd.sizeOf9
  v9 := Tryd.zeroValue9 }
open Go.RowKit Go.Lib in
theorem Tryd.strings_LastIndexByte (s : ByteArray) (c : Int) (hs : s.size < 4611686018427387904) (w : World) :
    Calls Tryd.prog 43 #[.string s, .int .u8 c] w fun e w' => e = .returned (.int .i64 (Lib.lastIndexByte s c)) ∧ w' = w := Any.strings_LastIndexByte Tryd.lays149 s c hs w
def Tryd.laysGw15_ren : Go.Shelf.Ren := ⟨fun | 15 => 111 | 20 => 126 | n => n, fun | 9 => 9 | 23 => 132 | 3 => 3 | 4 => 4 | 0 => 0 | 21 => 21 | n => n, fun | n => n⟩
theorem Tryd.laysGw15 : Go.Proofs.LaysGw.n15 Tryd.prog Tryd.laysGw15_ren := {
  mixed := by kernel_rfl
  f15 := Tryd.func111.trans (congrArg some (by kernel_rfl))
  f20 := Tryd.func126.trans (congrArg some (by kernel_rfl))
  t0 := Tryd.underlying0
  a0 := Tryd.isAgg0
  z0 := Tryd.sizeOf0
  v0 := Tryd.zeroValue0
  i0 := by kernel_rfl
  t3 := Tryd.underlying3
  a3 := Tryd.isAgg3
  z3 := Tryd.sizeOf3
  v3 := Tryd.zeroValue3
  i3 := by kernel_rfl
  t4 := Tryd.underlying4
  a4 := Tryd.isAgg4
  z4 := Tryd.sizeOf4
  v4 := Tryd.zeroValue4
  i4 := by kernel_rfl
  t9 := Tryd.underlying9
  a9 := Tryd.isAgg9
  z9 := Tryd.sizeOf9
  v9 := Tryd.zeroValue9
  i9 := by kernel_rfl
  t21 := Tryd.underlying21
  a21 := Tryd.isAgg21
  z21 := Tryd.sizeOf21
  v21 := Tryd.zeroValue21
  i21 := by kernel_rfl
  t23 := Tryd.underlying132
  a23 := Tryd.isAgg132
  z23 := Tryd.sizeOf132
  v23 := Tryd.zeroValue132
  i23 := by kernel_rfl }
def Tryd.lays99_ren : Go.Shelf.Ren := ⟨fun | 99 => 26 | 206 => 53 | n => n, fun | 9 => 9 | 4 => 4 | 3 => 3 | n => n, fun | n => n⟩
theorem Tryd.lays99 : Go.Proofs.Lays.n99 Tryd.prog Tryd.lays99_ren := {
  mixed := by kernel_rfl
  f99 := Tryd.func26.trans (congrArg some (by kernel_rfl))
  f206 := Tryd.func53.trans (congrArg some (by kernel_rfl))
  t3 := Tryd.underlying3
  a3 := Tryd.isAgg3
  z3 := Tryd.sizeOf3
  v3 := Tryd.zeroValue3
  t4 := Tryd.underlying4
  a4 := Tryd.isAgg4
  z4 := Tryd.sizeOf4
  v4 := Tryd.zeroValue4
  t9 := Tryd.underlying9
  a9 := Tryd.isAgg9
  z9 := Tryd.sizeOf9
  v9 := Tryd.zeroValue9 }
open Go.RowKit Go.Lib in
theorem Tryd.strings_HasPrefix (s p : ByteArray) (w : World) :
    Calls Tryd.prog 26 #[.string s, .string p] w fun e w' => e = .returned (.bool (Lib.hasPrefix s.data.toList p.data.toList)) ∧ w' = w := Any.strings_HasPrefix Tryd.lays99 s p w
def Tryd.lays146_ren : Go.Shelf.Ren := ⟨fun | 146 => 23 | 221 => 50 | 268 => 81 | 138 => 42 | 143 => 77 | 195 => 75 | 197 => 113 | 218 => 76 | 219 => 108 | 260 => 127 | 217 => 122 | 225 => 123 | 224 => 124 | 267 => 125 | 266 => 133 | 314 => 134 | n => n, fun | 9 => 9 | 31 => 26 | 3 => 3 | 4 => 4 | 0 => 0 | 105 => 145 | 21 => 21 | 5 => 5 | 46 => 157 | 119 => 130 | 139 => 176 | 138 => 175 | 146 => 172 | 51 => 152 | n => n, fun | 1 => 1 | 3 => 3 | 4 => 4 | n => n⟩
theorem Tryd.lays146 : Go.Proofs.Lays.n146 Tryd.prog Tryd.lays146_ren := {
  mixed := by kernel_rfl
  f138 := Tryd.func42.trans (congrArg some (by kernel_rfl))
  f143 := Tryd.func77.trans (congrArg some (by kernel_rfl))
  f146 := Tryd.func23.trans (congrArg some (by kernel_rfl))
  f195 := Tryd.func75.trans (congrArg some (by kernel_rfl))
  f197 := Tryd.func113.trans (congrArg some (by kernel_rfl))
  f217 := Tryd.func122.trans (congrArg some (by kernel_rfl))
  f218 := Tryd.func76.trans (congrArg some (by kernel_rfl))
  f219 := Tryd.func108.trans (congrArg some (by kernel_rfl))
  f221 := Tryd.func50.trans (congrArg some (by kernel_rfl))
  f224 := Tryd.func124.trans (congrArg some (by kernel_rfl))
  f225 := Tryd.func123.trans (congrArg some (by kernel_rfl))
  f260 := Tryd.func127.trans (congrArg some (by kernel_rfl))
  f266 := Tryd.func133.trans (congrArg some (by kernel_rfl))
  f267 := Tryd.func125.trans (congrArg some (by kernel_rfl))
  f268 := Tryd.func81.trans (congrArg some (by kernel_rfl))
  f314 := Tryd.func134.trans (congrArg some (by kernel_rfl))
  t0 := Tryd.underlying0
  a0 := Tryd.isAgg0
  z0 := Tryd.sizeOf0
  v0 := Tryd.zeroValue0
  t3 := Tryd.underlying3
  a3 := Tryd.isAgg3
  z3 := Tryd.sizeOf3
  v3 := Tryd.zeroValue3
  t4 := Tryd.underlying4
  a4 := Tryd.isAgg4
  z4 := Tryd.sizeOf4
  v4 := Tryd.zeroValue4
  t5 := Tryd.underlying5
  a5 := Tryd.isAgg5
  z5 := Tryd.sizeOf5
  v5 := Tryd.zeroValue5
  t9 := Tryd.underlying9
  a9 := Tryd.isAgg9
  z9 := Tryd.sizeOf9
  v9 := Tryd.zeroValue9
  t21 := Tryd.underlying21
  a21 := Tryd.isAgg21
  z21 := Tryd.sizeOf21
  v21 := Tryd.zeroValue21
  t31 := Tryd.underlying26
  a31 := Tryd.isAgg26
  z31 := Tryd.sizeOf26
  v31 := Tryd.zeroValue26
  t46 := Tryd.underlying157
  a46 := Tryd.isAgg157
  z46 := Tryd.sizeOf157
  v46 := Tryd.zeroValue157
  t51 := Tryd.underlying152
  a51 := Tryd.isAgg152
  z51 := Tryd.sizeOf152
  v51 := Tryd.zeroValue152
  t105 := Tryd.underlying145
  a105 := Tryd.isAgg145
  z105 := Tryd.sizeOf145
  v105 := Tryd.zeroValue145
  t119 := Tryd.underlying130
  a119 := Tryd.isAgg130
  z119 := Tryd.sizeOf130
  t138 := Tryd.underlying175
  a138 := Tryd.isAgg175
  z138 := Tryd.sizeOf175
  v138 := Tryd.zeroValue175
  t139 := Tryd.underlying176
  a139 := Tryd.isAgg176
  z139 := Tryd.sizeOf176
  v139 := Tryd.zeroValue176
  t146 := Tryd.underlying172
  a146 := Tryd.isAgg172
  z146 := Tryd.sizeOf172
  v146 := Tryd.zeroValue172
  g1 := by kernel_rfl
  g3 := by kernel_rfl
  g4 := by kernel_rfl }
open Go.RowKit Go.Lib in
theorem Tryd.strings_Split (s sep : ByteArray) (m : Int) (w : World) (hs : s.size < 4294967281) (hm : w.cell? ⟨1, 0, none⟩ = some (.int .i64 m)) (h1 : 1 ≤ sep.size) :
    Calls Tryd.prog 23 #[.string s, .string sep] w fun e w' =>
      e = .returned (.slice (some ⟨w.heap.size, 0, none⟩) (Lib.countB s sep + 1) (Lib.countB s sep + 1)) ∧ w' = w.alloc (.cells ((Lib.splitB sep 0 (Lib.countB s sep) s).map Value.string).toArray 9) := Any.strings_Split Tryd.lays146 (by kernel_rfl) s sep m w hs hm h1
def Tryd.lays157_ren : Go.Shelf.Ren := ⟨fun | 157 => 70 | 229 => 101 | 199 => 102 | 261 => 117 | 311 => 128 | 312 => 129 | n => n, fun | 9 => 9 | 31 => 26 | 3 => 3 | 5 => 5 | 4 => 4 | 119 => 130 | 0 => 0 | 40 => 132 | 152 => 149 | 21 => 21 | 154 => 151 | 51 => 152 | 141 => 154 | 196 => 162 | 193 => 159 | 198 => 165 | 49 => 163 | 194 => 160 | 201 => 168 | 226 => 177 | 46 => 157 | 227 => 178 | n => n, fun | 0 => 0 | 6 => 2 | n => n⟩
theorem Tryd.lays157 : Go.Proofs.Lays.n157 Tryd.prog Tryd.lays157_ren := {
  mixed := by kernel_rfl
  f157 := Tryd.func70.trans (congrArg some (by kernel_rfl))
  f199 := Tryd.func102.trans (congrArg some (by kernel_rfl))
  f229 := Tryd.func101.trans (congrArg some (by kernel_rfl))
  f261 := Tryd.func117.trans (congrArg some (by kernel_rfl))
  f311 := Tryd.func128.trans (congrArg some (by kernel_rfl))
  f312 := Tryd.func129.trans (congrArg some (by kernel_rfl))
  t0 := Tryd.underlying0
  a0 := Tryd.isAgg0
  z0 := Tryd.sizeOf0
  v0 := Tryd.zeroValue0
  t3 := Tryd.underlying3
  a3 := Tryd.isAgg3
  z3 := Tryd.sizeOf3
  v3 := Tryd.zeroValue3
  t4 := Tryd.underlying4
  a4 := Tryd.isAgg4
  z4 := Tryd.sizeOf4
  v4 := Tryd.zeroValue4
  t5 := Tryd.underlying5
  a5 := Tryd.isAgg5
  z5 := Tryd.sizeOf5
  v5 := Tryd.zeroValue5
  t9 := Tryd.underlying9
  a9 := Tryd.isAgg9
  z9 := Tryd.sizeOf9
  v9 := Tryd.zeroValue9
  t21 := Tryd.underlying21
  a21 := Tryd.isAgg21
  z21 := Tryd.sizeOf21
  v21 := Tryd.zeroValue21
  t31 := Tryd.underlying26
  a31 := Tryd.isAgg26
  z31 := Tryd.sizeOf26
  v31 := Tryd.zeroValue26
  t40 := Tryd.underlying132
  a40 := Tryd.isAgg132
  z40 := Tryd.sizeOf132
  v40 := Tryd.zeroValue132
  t46 := Tryd.underlying157
  a46 := Tryd.isAgg157
  z46 := Tryd.sizeOf157
  v46 := Tryd.zeroValue157
  t49 := Tryd.underlying163
  a49 := Tryd.isAgg163
  z49 := Tryd.sizeOf163
  v49 := Tryd.zeroValue163
  t51 := Tryd.underlying152
  a51 := Tryd.isAgg152
  z51 := Tryd.sizeOf152
  v51 := Tryd.zeroValue152
  t119 := Tryd.underlying130
  a119 := Tryd.isAgg130
  z119 := Tryd.sizeOf130
  t141 := Tryd.underlying154
  a141 := Tryd.isAgg154
  z141 := Tryd.sizeOf154
  v141 := Tryd.zeroValue154
  t152 := Tryd.underlying149
  a152 := Tryd.isAgg149
  z152 := Tryd.sizeOf149
  v152 := Tryd.zeroValue149
  t154 := Tryd.underlying151
  a154 := Tryd.isAgg151
  z154 := Tryd.sizeOf151
  v154 := Tryd.zeroValue151
  t193 := Tryd.underlying159
  a193 := Tryd.isAgg159
  z193 := Tryd.sizeOf159
  v193 := Tryd.zeroValue159
  t194 := Tryd.underlying160
  a194 := Tryd.isAgg160
  z194 := Tryd.sizeOf160
  v194 := Tryd.zeroValue160
  t196 := Tryd.underlying162
  a196 := Tryd.isAgg162
  z196 := Tryd.sizeOf162
  v196 := Tryd.zeroValue162
  t198 := Tryd.underlying165
  a198 := Tryd.isAgg165
  z198 := Tryd.sizeOf165
  v198 := Tryd.zeroValue165
  t201 := Tryd.underlying168
  a201 := Tryd.isAgg168
  z201 := Tryd.sizeOf168
  v201 := Tryd.zeroValue168
  t226 := Tryd.underlying177
  a226 := Tryd.isAgg177
  z226 := Tryd.sizeOf177
  v226 := Tryd.zeroValue177
  t227 := Tryd.underlying178
  a227 := Tryd.isAgg178
  z227 := Tryd.sizeOf178
  v227 := Tryd.zeroValue178
  g0 := by kernel_rfl
  g6 := by kernel_rfl }
open Go.RowKit Go.Lib in
theorem Tryd.strings_Fields (s : ByteArray) (w : World) (hs : s.size < 4294967281) (hascii : ∀ (j : Nat) b, s.data.toList[j]? = some b → b.toNat < 128) (htab : Lib.TabIs Tryd.prog w "strings.asciiSpace" .u8 Lib.asciiSpaceTab) :
    Calls Tryd.prog 70 #[.string s] w fun e w' =>
      e = .returned (.slice (some ⟨w.heap.size, 0, none⟩) (Lib.fields s.data.toList).length (Lib.fields s.data.toList).length) ∧ w' = w.alloc (.cells ((Lib.fields s.data.toList).map fun l => Value.string ⟨l.toArray⟩).toArray 9) := Any.strings_Fields Tryd.lays157 (by kernel_rfl) (by kernel_rfl) s w hs hascii htab
open Go.RowKit Go.Lib in
theorem Tryd.strings_IndexFunc_grows (g : Nat) (lb : Array Value) (eg : ∀ args w, (callFunc g args).run Tryd.prog w = .ok (.enter g args) w) (p : Nat → Bool) (s : ByteArray) (w : World) (hp : PredGrows Tryd.prog g lb p w) :
    Calls Tryd.prog 111 #[.string s, .func (.func g) #[] lb] w fun e w' => e = .returned (.int .i64 (Lib.idxFunc p true s)) ∧ Below w.heap.size w w' := Any.strings_IndexFunc_grows Tryd.laysGw15 g lb eg p s w hp
end Go.Proofs
end
section
set_option linter.unusedVariables false
namespace Go.Plane
open Go Go.Proofs Go.RowKit

theorem str_of {l : List UInt8} {s : ByteArray} (h : s.data.toList = l) : s = ⟨l.toArray⟩ := by subst h; simp
theorem rep_str {M : Mem} {s : ByteArray} (hb : (s.data.toList.length : Int) ≤ 9223372036854775807) : Rep M [] [] (.string s) (.d (.str s.data.toList)) := .d _ _ (.str s _ rfl hb)
theorem rep_str' {M : Mem} {l : List UInt8} (hb : (l.length : Int) ≤ 9223372036854775807) : Rep M [] [] (.string ⟨l.toArray⟩) (.d (.str l)) := .d _ _ (.str _ _ (by simp) hb)

theorem F_HasPrefix (s p : List UInt8) : F Γd 26 [.d (.str s), .d (.str p)] (.d (.bool (p.isPrefixOf s))) :=
  F_same (by kernel_rfl) fun M w vs hh hr => by
    obtain ⟨v1, _, rfl, h1, hr⟩ := hr.cons_inv
    obtain ⟨v2, _, rfl, h2, hr⟩ := hr.cons_inv
    obtain rfl := hr.nil_inv
    obtain ⟨a, rfl, rfl, _, _⟩ := h1.str_inv
    obtain ⟨b, rfl, rfl, _, _⟩ := h2.str_inv
    exact ⟨_, .d _ _ (.bool _), Tryd.strings_HasPrefix a b w⟩
theorem F_Count (s : List UInt8) (c : UInt8) : F Γd 42 [.d (.str s), .d (.str [c])] (.d (.int .i64 (s.count c))) :=
  F_same (by kernel_rfl) fun M w vs hh hr => by
    obtain ⟨v1, _, rfl, h1, hr⟩ := hr.cons_inv
    obtain ⟨v2, _, rfl, h2, hr⟩ := hr.cons_inv
    obtain rfl := hr.nil_inv
    obtain ⟨a, rfl, rfl, _, _⟩ := h1.str_inv
    obtain ⟨b, rfl, hb, _, _⟩ := h2.str_inv
    obtain rfl := str_of hb
    exact ⟨_, .d _ _ (.int _ _), Tryd.strings_Count_one a c w⟩
theorem F_TrimRight (s : List UInt8) (c : UInt8) (hc : c.toNat < 128) : F Γd 73 [.d (.str s), .d (.str [c])] (.d (.str (s.reverse.dropWhile (· == c)).reverse)) :=
  F_same (by kernel_rfl) fun M w vs hh hr => by
    obtain ⟨v1, _, rfl, h1, hr⟩ := hr.cons_inv
    obtain ⟨v2, _, rfl, h2, hr⟩ := hr.cons_inv
    obtain rfl := hr.nil_inv
    obtain ⟨a, rfl, rfl, hs, hl⟩ := h1.str_inv
    obtain ⟨b, rfl, hb, _, _⟩ := h2.str_inv
    obtain rfl := str_of hb
    refine ⟨_, rep_str' ?_, Tryd.strings_TrimRight_one a c hc w (by omega)⟩
    have h1 : ((a.data.toList.reverse.dropWhile (· == c)).reverse).length ≤ a.data.toList.length := by
      rw [List.length_reverse]
      exact Nat.le_trans (List.dropWhile_sublist _).length_le (by simp)
    show (((a.data.toList.reverse.dropWhile (· == c)).reverse).length : Int) ≤ _
    omega
theorem F_Compare (a b : Int) : F Γd 83 [.d (.int .i64 a), .d (.int .i64 b)] (.d (.int .i64 (if a < b then -1 else if b < a then 1 else 0))) :=
  F_same (by kernel_rfl) fun M w vs hh hr => by
    obtain ⟨v1, _, rfl, h1, hr⟩ := hr.cons_inv
    obtain ⟨v2, _, rfl, h2, hr⟩ := hr.cons_inv
    obtain rfl := hr.nil_inv
    obtain rfl := h1.int_inv
    obtain rfl := h2.int_inv
    exact ⟨_, .d _ _ (.int _ _), Tryd.cmp_Compare_int a b w⟩

theorem F_LastIndexByte (s : List UInt8) (c : UInt8) (hs : s.length < 4611686018427387904) : F Γd 43 [.d (.str s), .d (.int .u8 c.toNat)] (.d (.int .i64 (Lib.lastIndexByte ⟨s.toArray⟩ c.toNat))) :=
  F_same (by kernel_rfl) fun M w vs hh hr => by
    obtain ⟨v1, _, rfl, h1, hr⟩ := hr.cons_inv
    obtain ⟨v2, _, rfl, h2, hr⟩ := hr.cons_inv
    obtain rfl := hr.nil_inv
    obtain ⟨a, rfl, rfl, h3, _⟩ := h1.str_inv
    obtain rfl := h2.int_inv
    refine ⟨_, .d _ _ (.int _ _), ?_⟩
    have := Tryd.strings_LastIndexByte a c.toNat (by omega) w
    rwa [show (⟨a.data.toList.toArray⟩ : ByteArray) = a by simp] 

/-- One string a row. -/
def strsD (l : List (List UInt8)) : List (List D) := l.map fun s => [.str s]
theorem repds_strs {M : Mem} : ∀ (xs : List ByteArray), (∀ x ∈ xs, (x.data.toList.length : Int) ≤ 9223372036854775807) → RepDs M (xs.map Value.string) (strsD (xs.map (·.data.toList))).flatten
  | [], _ => ⟨rfl, by simp⟩
  | x :: xs, h => by
    have ih := repds_strs (M := M) xs (fun y hy => h y (by simp [hy]))
    refine ⟨by simpa [strsD] using ih.1, fun j v d hv hd => ?_⟩
    cases j with
    | zero =>
      simp [strsD] at hv hd
      subst hv hd
      exact .str x _ rfl (h x (by simp))
    | succ j => exact ih.2 j v d (by simpa using hv) (by simpa [strsD] using hd)

theorem splitL_le (c : UInt8) : ∀ (l : List UInt8), ∀ x ∈ splitL c l, x.length ≤ l.length
  | [], x, h => by simp [splitL] at h; subst h; simp
  | b :: l, x, h => by
    have ih := splitL_le c l
    unfold splitL at h
    split at h
    · rcases List.mem_cons.1 h with rfl | h
      · simp
      · have := ih x h; simp; omega
    · split at h
      · rename_i y r he
        rw [he] at ih
        rcases List.mem_cons.1 h with rfl | h
        · have := ih y (by simp); simp; omega
        · have := ih x (by simp [h]); simp; omega
      · simp at h; subst h; simp

theorem F_Split (s : List UInt8) (c : UInt8) (hs : s.length < 4294967281) : F Γd 23 [.d (.str s), .d (.str [c])] (.d (.slice (strsD (splitL c s)))) := by
  have hcnt : s.count c ≤ s.length := List.count_le_length
  refine F_row (sz := 1) (by kernel_rfl) (by simp [strsD]) (by simp only [strsD, List.length_map, splitL_length]; omega) fun M w vs hh hr => ?_
  obtain ⟨v1, _, rfl, h1, hr⟩ := hr.cons_inv
  obtain ⟨v2, _, rfl, h2, hr⟩ := hr.cons_inv
  obtain rfl := hr.nil_inv
  obtain ⟨a, rfl, rfl, h3, _⟩ := h1.str_inv
  obtain ⟨b, rfl, hb, _, _⟩ := h2.str_inv
  obtain rfl := str_of hb
  obtain ⟨m, hm⟩ := hh.1.1
  have key := Tryd.strings_Split a ⟨#[c]⟩ m w (by omega) (hh.2.2 1 0 _ hm) (by simp [ByteArray.size])
  refine ⟨(Lib.splitB ⟨#[c]⟩ 0 (Lib.countB a ⟨#[c]⟩) a).map Value.string, 9, ?_, ?_⟩
  · rw [← splitB_eq]
    refine repds_strs _ fun x hx => ?_
    have : x.data.toList ∈ splitL c a.data.toList := by rw [← splitB_eq]; exact List.mem_map.2 ⟨x, hx, rfl⟩
    have := splitL_le c _ _ this
    omega
  · have hl : (strsD (splitL c a.data.toList)).length = Lib.countB a ⟨#[c]⟩ + 1 := by
      rw [strsD, List.length_map, splitL_length, ← count_one]
    rw [hl]
    exact key
theorem strs_at {M : Mem} {a : Option Addr} {n cap : Nat} {l : List (List UInt8)} (h : RepD M (.slice a n cap) (.slice (strsD l))) (hne : l ≠ []) :
    ∃ b o, ∃ xs : List ByteArray, a = some ⟨b, o, none⟩ ∧ n = xs.length ∧ n ≤ cap ∧ xs.map (·.data.toList) = l ∧ ∀ (j : Nat) (x : ByteArray), xs[j]? = some x → M b (o + j) = some (.string x) := by
  obtain ⟨a', n', cap', sz, va, he, hn, hc, hb, hsz, hcell, hrep⟩ := h.slice_parts
  cases he
  have hs1 : sz = 1 := by
    cases l with
    | nil => exact absurd rfl hne
    | cons x l => have := hsz [.str x] (by simp [strsD]); simpa using this.symm
  subst hs1
  have at_ : ∀ (i : Nat) (x : List UInt8), l[i]? = some x → ∃ s : ByteArray, va i 0 = .string s ∧ s.data.toList = x ∧ ∃ b o, a = some ⟨b, o, none⟩ ∧ M b (o + i) = some (va i 0) := fun i x hx => by
    have h1 : (strsD l)[i]? = some [.str x] := by simp [strsD, hx]
    obtain ⟨s, h2, h3, _⟩ := (hrep i _ 0 _ h1 rfl).str_inv
    obtain ⟨b, o, h4, h5⟩ := hcell i _ 0 _ h1 rfl
    exact ⟨s, h2, h3, b, o, h4, by simpa using h5⟩
  obtain ⟨x0, hx0⟩ : ∃ x, l[0]? = some x := by cases l with | nil => exact absurd rfl hne | cons x l => exact ⟨x, rfl⟩
  obtain ⟨_, _, _, b, o, rfl, _⟩ := at_ 0 x0 hx0
  refine ⟨b, o, l.map fun x => ⟨x.toArray⟩, rfl, by rw [← hn]; simp [strsD], hc, by simp [Function.comp_def], fun j x hx => ?_⟩
  rw [List.getElem?_map] at hx
  obtain ⟨y, hy, rfl⟩ := Option.map_eq_some_iff.1 hx
  obtain ⟨s, h2, h3, b', o', h4, h5⟩ := at_ j y hy
  cases h4
  rw [h5, h2, str_of h3]

theorem F_Join (l : List (List UInt8)) (sep : List UInt8) (hlen : (sep.intercalate l).length ≤ 140737488355328) (hN : l.length ≤ 140737488355328) : F Γd 74 [.d (.slice (strsD l)), .d (.str sep)] (.d (.str (sep.intercalate l))) :=
  F_below (by kernel_rfl) fun M w vs hh hlt hr => by
    obtain ⟨v1, _, rfl, h1, hr⟩ := hr.cons_inv
    obtain ⟨v2, _, rfl, h2, hr⟩ := hr.cons_inv
    obtain rfl := hr.nil_inv
    obtain ⟨b, rfl, rfl, _, _⟩ := h2.str_inv
    have h1 := h1.d_inv
    by_cases hne : l = []
    · subst hne
      obtain ⟨a, n, cap, rfl, hn, hc, _⟩ := h1.slice_inv
      obtain rfl : n = 0 := by rw [← hn]; rfl
      refine ⟨_, rep_str' (l := []) (by simp), (Tryd.strings_Join_none a cap b w).mono ?_⟩
      rintro e w' ⟨rfl, rfl⟩
      exact ⟨rfl, Below.refl _ _⟩
    · obtain ⟨a, n, cap, rfl, _⟩ := h1.slice_inv
      obtain ⟨bk, o, xs, rfl, rfl, hc, hl, hcell⟩ := strs_at h1 hne
      refine ⟨_, rep_str' (l := b.data.toList.intercalate l) (by omega), ?_⟩
      have hx0 : ∃ x, xs[0]? = some x := by
        cases xs with
        | nil => exact absurd (by simpa using hl.symm) hne
        | cons x _ => exact ⟨x, rfl⟩
      obtain ⟨x0, hx0⟩ := hx0
      have hxl : xs.length = l.length := by rw [← hl]; simp
      have := Tryd.strings_Join bk o cap xs b w (fun j x hx => hh.2.2 _ _ _ (hcell j x hx)) (hlt _ _ _ (hcell 0 x0 hx0)) (by omega) hc (by rw [hl]; exact hlen)
      rw [hl] at this
      exact this
theorem F_IndexFunc (g : FuncId) (p : Nat → Bool) (hp : ∀ x : Nat, x ≤ 1114111 → F Γd g [.d (.int .i32 x)] (.d (.bool (p x)))) (s : List UInt8) :
    F Γd 111 [.d (.str s), .fn g [] []] (.d (.int .i64 (Lib.idxFunc p true ⟨s.toArray⟩))) := by
  have hg : fnOk Tryd.prog g = true := (hp 0 (by omega)).1
  refine F_below (by kernel_rfl) fun M w vs hh hlt hr => ?_
  obtain ⟨v1, _, rfl, h1, hr⟩ := hr.cons_inv
  obtain ⟨v2, _, rfl, h2, hr⟩ := hr.cons_inv
  obtain rfl := hr.nil_inv
  obtain ⟨a, rfl, ha, _, _⟩ := h1.str_inv
  obtain rfl := str_of ha
  obtain ⟨us, ws, rfl, hu, hw, _⟩ := h2.fn_inv
  obtain rfl : us = [] := List.eq_nil_of_length_eq_zero hu
  obtain rfl : ws = [] := List.eq_nil_of_length_eq_zero hw
  refine ⟨_, .d _ _ (.int _ _), ?_⟩
  refine Tryd.strings_IndexFunc_grows g #[] (fun args W => run_callFunc hg args W) p ⟨s.toArray⟩ w fun W x hx hb => ?_
  have hrel : Rel Γd M [] [] W := ⟨hh.1, fun b o v hm => by
    have := hh.2.2 b o v hm
    unfold World.cell? at this ⊢
    rw [hb.block b (hlt b o v hm)]
    exact this, rfl, fun i ty cs hi => by simp at hi, fun i sz xs hi => by simp at hi, fun i j g1 g2 b hij h1 => by simp at h1⟩
  have hgw : Γd.GW W := Γd.gw w W (fun b s hs => by
    have hlt' : b < w.heap.size := by
      rcases Nat.lt_or_ge b w.heap.size with h1 | h1
      · exact h1
      · simp [World.shape?, Array.getElem?_eq_none h1] at hs
    unfold World.shape? at hs ⊢
    rw [hb.block b hlt']
    exact hs) hh.2.1
  refine ((hp x hx).2 M [] W [.int .i32 x] hrel hgw rfl (fun j v p hv hp => ?_)).mono ?_
  · cases j with
    | zero => simp at hv hp; subst hv hp; exact .d _ _ (.int _ _)
    | succ j => simp at hv
  · rintro e w' ⟨M', ρ', σ', o, h1, h2, h3, rfl, rfl⟩
    cases e <;> simp only [RepOut] at h3 <;> try (exact h3.elim)
    rw [h3.bool_inv]
    exact ⟨rfl, h1.ext.os, h1.ext.tape, h1.ext.output, h1.ext.size, fun k hk => h1.ext.keep k hk (by simp [blks])⟩

theorem F_Fields (s : List UInt8) (hs : s.length < 4294967281) (ha : ∀ b ∈ s, b.toNat < 128) (hb : ∀ x ∈ Lib.fields s, x.length ≤ 4294967281) (hl : (Lib.fields s).length ≤ 4294967281) : F Γd 70 [.d (.str s)] (.d (.slice (strsD (Lib.fields s)))) := by
  refine F_row (sz := 1) (by kernel_rfl) (by simp [strsD]) (by simp only [strsD, List.length_map]; omega) fun M w vs hh hr => ?_
  obtain ⟨v1, _, rfl, h1, hr⟩ := hr.cons_inv
  obtain rfl := hr.nil_inv
  obtain ⟨a, rfl, rfl, h3, _⟩ := h1.str_inv
  have key := Tryd.strings_Fields a w (by omega) (fun j b hb => ha b (List.mem_of_getElem? hb)) (tab_of hh)
  refine ⟨(Lib.fields a.data.toList).map fun l => Value.string ⟨l.toArray⟩, 9, ?_, ?_⟩
  · have := repds_strs (M := M) ((Lib.fields a.data.toList).map fun l => ⟨l.toArray⟩) (fun x hx => by
      obtain ⟨y, hy, rfl⟩ := List.mem_map.1 hx
      have := hb y hy
      simp
      omega)
    simpa [Function.comp_def] using this
  · rw [show (strsD (Lib.fields a.data.toList)).length = (Lib.fields a.data.toList).length by simp [strsD]]
    exact key
end Go.Plane
end
section
set_option linter.unusedVariables false
set_option linter.unusedSimpArgs false
namespace Go.Plane
open Go Go.Proofs

/-! ### Bytes -/
def isSmall (b : UInt8) : Bool := 97 ≤ b && b ≤ 122
def isCapital (b : UInt8) : Bool := 65 ≤ b && b ≤ 90
def isDigit (b : UInt8) : Bool := 48 ≤ b && b ≤ 57
def isPart (b : UInt8) : Bool := isSmall b || isCapital b || isDigit b || b == 95
theorem byte_ge (b : UInt8) (n : Nat) (h : n < 256) : decide ((n : Int) ≤ (b.toNat : Int)) = decide (UInt8.ofNat n ≤ b) := by
  rw [decide_eq_decide, UInt8.le_iff_toNat_le, UInt8.toNat_ofNat_of_lt' (by simpa using h)]; omega
theorem byte_le (b : UInt8) (n : Nat) (h : n < 256) : decide ((b.toNat : Int) ≤ (n : Int)) = decide (b ≤ UInt8.ofNat n) := by
  rw [decide_eq_decide, UInt8.le_iff_toNat_le, UInt8.toNat_ofNat_of_lt' (by simpa using h)]; omega
theorem byte_eq (b : UInt8) (n : Nat) (h : n < 256) : ((b.toNat : Int) == (n : Int)) = (b == UInt8.ofNat n) := by
  rw [Bool.eq_iff_iff, beq_iff_eq, beq_iff_eq, ← UInt8.toNat_inj, UInt8.toNat_ofNat_of_lt' (by simpa using h)]; omega

theorem isDigit_int (b : UInt8) : isDigit b = (decide ((48 : Int) ≤ b.toNat) && decide ((b.toNat : Int) ≤ 57)) := by
  rw [show (48 : Int) = ((48 : Nat) : Int) from rfl, show (57 : Int) = ((57 : Nat) : Int) from rfl, byte_ge b 48 (by decide), byte_le b 57 (by decide)]; rfl
theorem isSmall_int (b : UInt8) : isSmall b = (decide ((97 : Int) ≤ b.toNat) && decide ((b.toNat : Int) ≤ 122)) := by
  rw [show (97 : Int) = ((97 : Nat) : Int) from rfl, show (122 : Int) = ((122 : Nat) : Int) from rfl, byte_ge b 97 (by decide), byte_le b 122 (by decide)]; rfl
theorem isCapital_int (b : UInt8) : isCapital b = (decide ((65 : Int) ≤ b.toNat) && decide ((b.toNat : Int) ≤ 90)) := by
  rw [show (65 : Int) = ((65 : Nat) : Int) from rfl, show (90 : Int) = ((90 : Nat) : Int) from rfl, byte_ge b 65 (by decide), byte_le b 90 (by decide)]; rfl
theorem byteN (b : UInt8) (n : Nat) (h : n < 256) : ((b.toNat : Int) = (n : Int)) ↔ b = UInt8.ofNat n := by
  have := byte_eq b n h
  rw [Bool.eq_iff_iff, beq_iff_eq, beq_iff_eq] at this
  exact this
theorem isPart_int (b : UInt8) : isPart b = (isSmall b || isCapital b || isDigit b || ((b.toNat : Int) == 95)) := by
  unfold isPart
  congr 1
  exact (byte_eq b 95 (by decide)).symm
theorem f_digit (b : UInt8) : F Γd 60 [.d (.int .u8 b.toNat)] (.d (.bool (isDigit b))) := by
  refine fn_of c60 rfl (by simp only [Env.of, List.zipIdx, List.map]; rfl) ?_
  repeat' (first | refine dr ?_ | (refine ds ?_ ?_ <;> intro hb) | ((with_reducible refine dbm ?_); first | exact db_nil | refine dbc ?_ ?_) | ((with_reducible refine natle ?_); first | assumption | omega | (simp; omega)))
  all_goals simp [isDigit_int, *]
theorem f_small (b : UInt8) : F Γd 96 [.d (.int .u8 b.toNat)] (.d (.bool (isSmall b))) := by
  refine fn_of c96 rfl (by simp only [Env.of, List.zipIdx, List.map]; rfl) ?_
  repeat' (first | refine dr ?_ | (refine ds ?_ ?_ <;> intro hb) | ((with_reducible refine dbm ?_); first | exact db_nil | refine dbc ?_ ?_) | ((with_reducible refine natle ?_); first | assumption | omega | (simp; omega)))
  all_goals simp [isSmall_int, *]
theorem f_capital (b : UInt8) : F Γd 94 [.d (.int .u8 b.toNat)] (.d (.bool (isCapital b))) := by
  refine fn_of c94 rfl (by simp only [Env.of, List.zipIdx, List.map]; rfl) ?_
  repeat' (first | refine dr ?_ | (refine ds ?_ ?_ <;> intro hb) | ((with_reducible refine dbm ?_); first | exact db_nil | refine dbc ?_ ?_) | ((with_reducible refine natle ?_); first | assumption | omega | (simp; omega)))
  all_goals simp [isCapital_int, *]
theorem f_within (b : UInt8) : F Γd 91 [.d (.int .u8 b.toNat)] (.d (.bool (isPart b))) := by
  refine fn_of c91 rfl (by simp only [Env.of, List.zipIdx, List.map]; rfl) ?_
  repeat' (first | ((with_reducible refine wcm ?_); first | refine cF (f_small _) ?_ | refine cF (f_capital _) ?_ | refine cF (f_digit _) ?_) | refine dr ?_ | (refine ds ?_ ?_ <;> intro hb) | ((with_reducible refine dbm ?_); first | exact db_nil | refine dbc ?_ ?_) | ((with_reducible refine natle ?_); first | assumption | omega | (simp; omega)))
  all_goals simp [isPart_int, *]
end Go.Plane
end
section
set_option linter.unusedVariables false
set_option linter.unusedSimpArgs false
namespace Go.Plane
open Go Go.Proofs


theorem takeWhile_at {p : UInt8 → Bool} {s : List UInt8} {n : Nat} (h : ∀ b ∈ s.take n, p b = true) (hn : n ≤ s.length) (hs : ∀ b, s[n]? = some b → p b = false) : (s.takeWhile p).length = n := by
  induction s generalizing n with
  | nil => simp at hn; subst hn; rfl
  | cons b s ih =>
    cases n with
    | zero => have := hs b rfl; simp [this]
    | succ n =>
      have hb : p b = true := h b (by simp)
      rw [List.takeWhile_cons, if_pos hb, List.length_cons, ih (n := n) (fun c hc => h c (by simp [hc])) (by simpa using hn) (fun c hc => hs c (by simpa using hc))]

theorem f_run (s : List UInt8) (hs : s.length ≤ 4294967296) : F Γd 59 [.d (.str s)] (.d (.int .i64 (s.takeWhile isPart).length)) := by
  refine fn_of c59 rfl (by simp only [Env.of, List.zipIdx, List.map]; rfl) ?_
  repeat' (first | refine dr ?_ | (refine ds ?_ ?_ <;> intro hb) | ((with_reducible refine dbm ?_); first | exact db_nil | refine dbc ?_ ?_) | ((with_reducible refine natle ?_); first | assumption | omega | (simp; omega)))
  refine LP_ind (α := Nat) (fun n => s.length - n) (fun n => [(0, .d (.str s)), (3, .d (.int .i64 n))]) (fun _ => []) (fun n => n ≤ s.length ∧ ∀ b ∈ s.take n, isPart b = true) 0 rfl rfl ⟨Nat.zero_le _, by simp⟩ ?_
  rintro n ⟨h1, h2⟩ ih
  apply LP_go
  cases hx : s[n]? with
  | none =>
    have hn := List.getElem?_eq_none_iff.1 hx
    repeat' (first | refine dr ?_ | (refine ds ?_ ?_ <;> intro hb) | ((with_reducible refine dbm ?_); first | exact db_nil | refine dbc ?_ ?_) | ((with_reducible refine natle ?_); first | assumption | omega | (simp; omega)))
    rw [takeWhile_at h2 h1 (fun b hb => by rw [hx] at hb; cases hb)]
    exact ⟨rfl, rfl⟩
  | some b =>
    have hn : n < s.length := (List.getElem?_eq_some_iff.1 hx).1
    repeat' (first | ((with_reducible refine wcm ?_); first | refine cF (f_within _) ?_) | refine dr ?_ | (refine ds ?_ ?_ <;> intro hb) | ((with_reducible refine dbm ?_); first | exact db_nil | refine dbc ?_ ?_) | ((with_reducible refine natle ?_); first | assumption | omega | (simp; omega)))
    · refine LP_at ?_ rfl (ih (n + 1) ⟨hn, fun c hc => ?_⟩ (by omega))
      · (first | (simp [Env.shr, Env.get, PV.exp, PV.ids, PV.ids.idsL]; done) | simp [Env.shr, Env.get, PV.exp, PV.ids, PV.ids.idsL, *])
      · rw [List.take_add_one, List.mem_append] at hc
        rcases hc with hc | hc
        · exact h2 c hc
        · rw [hx] at hc; simp at hc; subst hc; exact hb
    · rw [takeWhile_at h2 h1 (fun c hc => by rw [hx] at hc; cases hc; exact hb)]
      exact ⟨rfl, rfl⟩
end Go.Plane
end
section
set_option linter.unusedVariables false
set_option linter.unusedSimpArgs false
namespace Go.Plane
open Go Go.Proofs

theorem f_only (g : FuncId) (p : UInt8 → Bool) (hp : ∀ b : UInt8, F Γd g [.d (.int .u8 b.toNat)] (.d (.bool (p b)))) (s : List UInt8) (hs : s.length ≤ 4294967296) :
    F Γd 92 [.d (.str s), .fn g [] []] (.d (.bool (s.all p))) := by
  refine fn_of c92 rfl (by simp only [Env.of, List.zipIdx, List.map]; rfl) ?_
  repeat' (first | refine dr ?_ | (refine ds ?_ ?_ <;> intro hb) | ((with_reducible refine dbm ?_); first | exact db_nil | refine dbc ?_ ?_) | ((with_reducible refine natle ?_); first | assumption | omega | (simp; omega)))
  refine LP_ind (α := Nat) (fun n => s.length - n) (fun n => [(0, .d (.str s)), (1, .fn g [] []), (7, .d (.int .i64 s.length)), (8, .d (.int .i64 n))]) (fun _ => []) (fun n => n ≤ s.length ∧ ∀ b ∈ s.take n, p b = true) 0 rfl rfl ⟨Nat.zero_le _, by simp⟩ ?_
  rintro n ⟨h1, h2⟩ ih
  apply LP_go
  cases hx : s[n]? with
  | none =>
    have hn : s.length ≤ n := List.getElem?_eq_none_iff.1 hx
    repeat' (first | refine dr ?_ | (refine ds ?_ ?_ <;> intro hb) | ((with_reducible refine dbm ?_); first | exact db_nil | refine dbc ?_ ?_) | ((with_reducible refine natle ?_); first | assumption | omega | (simp; omega)))
    obtain rfl : n = s.length := by omega
    rw [List.take_length] at h2
    rw [List.all_eq_true.2 h2]
    exact ⟨rfl, rfl⟩
  | some b =>
    have hn : n < s.length := (List.getElem?_eq_some_iff.1 hx).1
    have hb := hp b
    cases hpb : p b with
    | true =>
      rw [hpb] at hb
      repeat' (first | ((with_reducible refine wcm ?_); first | refine cF (hb) ?_) | refine dr ?_ | (refine ds ?_ ?_ <;> intro hb) | ((with_reducible refine dbm ?_); first | exact db_nil | refine dbc ?_ ?_) | ((with_reducible refine natle ?_); first | assumption | omega | (simp; omega)))
      refine LP_at ?_ rfl (ih (n + 1) ⟨hn, fun c hc => ?_⟩ (by omega))
      · (first | (simp [Env.shr, Env.get, PV.exp, PV.ids, PV.ids.idsL]; done) | simp [Env.shr, Env.get, PV.exp, PV.ids, PV.ids.idsL, *])
      · rw [List.take_add_one, List.mem_append] at hc
        rcases hc with hc | hc
        · exact h2 c hc
        · rw [hx] at hc; simp at hc; subst hc; exact hpb
    | false =>
      rw [hpb] at hb
      repeat' (first | ((with_reducible refine wcm ?_); first | refine cF (hb) ?_) | refine dr ?_ | (refine ds ?_ ?_ <;> intro hb) | ((with_reducible refine dbm ?_); first | exact db_nil | refine dbc ?_ ?_) | ((with_reducible refine natle ?_); first | assumption | omega | (simp; omega)))
      rw [show s.all p = false from by
        rw [Bool.eq_false_iff]
        intro h
        have := List.all_eq_true.1 h b (List.mem_of_getElem? hx)
        rw [hpb] at this; cases this]
      exact ⟨rfl, rfl⟩
end Go.Plane
end
