/- The facts that the engine asks of this program. -/
import Derived.Test.YtnjaagfhaooapaaE32
import Derived.Test.YtnjaagfhaooapaaProg
namespace Go.Proofs.Ytnjaagfhaooapaa.Eng
open Go
set_option linter.unusedVariables false
def mdA (f d : Nat) : Mode :=
  if f = 27 ∧ d = 34 then .vec else
  if f = 27 ∧ d = 36 then .vec else
  if f = 27 ∧ d = 57 then .tok else
  if f = 7 ∧ d = 10 then .heap else
  if f = 36 ∧ d = 72 then .tok else
  if f = 35 ∧ d = 5 then .tok else
  if f = 19 ∧ d = 57 then .tok else
  .dflt
def keepA (f : Nat) : Keep := if f = 7 then .all else if f = 27 then .hand else if f = 19 then .hand else if f = 14 then .hand else .drop
noncomputable def extA (f : Nat) : Option (List AV → List HObj → Option (AV × List HObj)) :=
  none
noncomputable def EA : Env := { P := Go.Proofs.Try.prog, md := mdA, keep := keepA, ext := extA }
@[go_sem] theorem ti3 : tinfo EA.P 3 = some { size := 1, agg := false, bytes := 8, zero := [Value.int IntKind.i64 0] } := by kernel_rfl
@[go_sem] theorem ti5 : tinfo EA.P 5 = some { size := 1, agg := false, bytes := 1, zero := [Value.int IntKind.u8 0] } := by kernel_rfl
@[go_sem] theorem ti9 : tinfo EA.P 9 = some { size := 1, agg := false, bytes := 16, zero := [Value.string { data := { toList := [] } }] } := by kernel_rfl
@[go_sem] theorem ti22 : tinfo EA.P 22 = some { size := 1, agg := false, bytes := 24, zero := [Value.slice none 0 0] } := by kernel_rfl
@[go_sem] theorem ti34 : tinfo EA.P 34 = some { size := 3, agg := true, bytes := 24, zero := [Value.int IntKind.i64 0, Value.int IntKind.i64 0, Value.int IntKind.i64 0] } := by kernel_rfl
@[go_sem] theorem ti36 : tinfo EA.P 36 = some { size := 4, agg := true, bytes := 32, zero := [Value.int IntKind.i64 0, Value.int IntKind.i64 0, Value.int IntKind.i64 0, Value.int IntKind.i64 0] } := by kernel_rfl
@[go_sem] theorem ti40 : tinfo EA.P 40 = some { size := 2, agg := true, bytes := 32, zero := [Value.slice none 0 0, Value.int IntKind.i64 0] } := by kernel_rfl
@[go_sem] theorem ti47 : tinfo EA.P 47 = some { size := 1, agg := false, bytes := 24, zero := [Value.slice none 0 0] } := by kernel_rfl
@[go_sem] theorem ti49 : tinfo EA.P 49 = some { size := 2, agg := true, bytes := 40, zero := [Value.string { data := { toList := [] } }, Value.slice none 0 0] } := by kernel_rfl
@[go_sem] theorem sl3 : sliceT EA.P 3 = none := by kernel_rfl
@[go_sem] theorem sl5 : sliceT EA.P 5 = none := by kernel_rfl
@[go_sem] theorem sl9 : sliceT EA.P 9 = none := by kernel_rfl
@[go_sem] theorem sl22 : sliceT EA.P 22 = some 5 := by kernel_rfl
@[go_sem] theorem sl23 : sliceT EA.P 23 = some 36 := by kernel_rfl
@[go_sem] theorem sl34 : sliceT EA.P 34 = none := by kernel_rfl
@[go_sem] theorem sl45 : sliceT EA.P 45 = some 3 := by kernel_rfl
@[go_sem] theorem sl47 : sliceT EA.P 47 = some 49 := by kernel_rfl
@[go_sem] theorem sl54 : sliceT EA.P 54 = some 9 := by kernel_rfl
@[go_sem] theorem ar9 : arrT EA.P 9 = none := by kernel_rfl
@[go_sem] theorem ar22 : arrT EA.P 22 = none := by kernel_rfl
@[go_sem] theorem ar23 : arrT EA.P 23 = none := by kernel_rfl
@[go_sem] theorem ar34 : arrT EA.P 34 = some (3, 3) := by kernel_rfl
@[go_sem] theorem ar36 : arrT EA.P 36 = none := by kernel_rfl
@[go_sem] theorem ar40 : arrT EA.P 40 = none := by kernel_rfl
@[go_sem] theorem ar45 : arrT EA.P 45 = none := by kernel_rfl
@[go_sem] theorem ar47 : arrT EA.P 47 = none := by kernel_rfl
@[go_sem] theorem ar49 : arrT EA.P 49 = none := by kernel_rfl
@[go_sem] theorem ar54 : arrT EA.P 54 = none := by kernel_rfl
@[go_sem] theorem st3 : isStrT EA.P 3 = false := by kernel_rfl
@[go_sem] theorem st9 : isStrT EA.P 9 = true := by kernel_rfl
@[go_sem] theorem st22 : isStrT EA.P 22 = false := by kernel_rfl
@[go_sem] theorem st23 : isStrT EA.P 23 = false := by kernel_rfl
@[go_sem] theorem st34 : isStrT EA.P 34 = false := by kernel_rfl
@[go_sem] theorem st45 : isStrT EA.P 45 = false := by kernel_rfl
@[go_sem] theorem st47 : isStrT EA.P 47 = false := by kernel_rfl
@[go_sem] theorem st54 : isStrT EA.P 54 = false := by kernel_rfl
@[go_sem] theorem sc34 : isStructT EA.P 34 = false := by kernel_rfl
@[go_sem] theorem sc36 : isStructT EA.P 36 = true := by kernel_rfl
@[go_sem] theorem sc40 : isStructT EA.P 40 = true := by kernel_rfl
@[go_sem] theorem sc49 : isStructT EA.P 49 = true := by kernel_rfl
@[go_sem] theorem ha5 : hasT EA.P 5 = true := by kernel_rfl
@[go_sem] theorem ki3 : kindT EA.P 3 = some IntKind.i64 := by kernel_rfl
@[go_sem] theorem pp3 : isPtrT EA.P 3 = false := by kernel_rfl
@[go_sem] theorem bo3 : isBoolT EA.P 3 = false := by kernel_rfl
@[go_sem] theorem pp4 : isPtrT EA.P 4 = false := by kernel_rfl
@[go_sem] theorem bo4 : isBoolT EA.P 4 = true := by kernel_rfl
@[go_sem] theorem pp5 : isPtrT EA.P 5 = false := by kernel_rfl
@[go_sem] theorem bo5 : isBoolT EA.P 5 = false := by kernel_rfl
@[go_sem] theorem pp9 : isPtrT EA.P 9 = false := by kernel_rfl
@[go_sem] theorem bo9 : isBoolT EA.P 9 = false := by kernel_rfl
@[go_sem] theorem pa36_0 : partAtT EA.P 36 0 = some (0, 1) := by kernel_rfl
@[go_sem] theorem pa36_1 : partAtT EA.P 36 1 = some (1, 1) := by kernel_rfl
@[go_sem] theorem pa36_2 : partAtT EA.P 36 2 = some (2, 1) := by kernel_rfl
@[go_sem] theorem pa36_3 : partAtT EA.P 36 3 = some (3, 1) := by kernel_rfl
@[go_sem] theorem pa36_4 : partAtT EA.P 36 4 = none := by kernel_rfl
@[go_sem] theorem pa36_5 : partAtT EA.P 36 5 = none := by kernel_rfl
@[go_sem] theorem pa36_6 : partAtT EA.P 36 6 = none := by kernel_rfl
@[go_sem] theorem pa36_7 : partAtT EA.P 36 7 = none := by kernel_rfl
@[go_sem] theorem pa40_0 : partAtT EA.P 40 0 = some (0, 1) := by kernel_rfl
@[go_sem] theorem pa40_1 : partAtT EA.P 40 1 = some (1, 1) := by kernel_rfl
@[go_sem] theorem pa40_2 : partAtT EA.P 40 2 = none := by kernel_rfl
@[go_sem] theorem pa40_3 : partAtT EA.P 40 3 = none := by kernel_rfl
@[go_sem] theorem pa40_4 : partAtT EA.P 40 4 = none := by kernel_rfl
@[go_sem] theorem pa40_5 : partAtT EA.P 40 5 = none := by kernel_rfl
@[go_sem] theorem pa40_6 : partAtT EA.P 40 6 = none := by kernel_rfl
@[go_sem] theorem pa40_7 : partAtT EA.P 40 7 = none := by kernel_rfl
@[go_sem] theorem pa49_0 : partAtT EA.P 49 0 = some (0, 1) := by kernel_rfl
@[go_sem] theorem pa49_1 : partAtT EA.P 49 1 = some (1, 1) := by kernel_rfl
@[go_sem] theorem pa49_2 : partAtT EA.P 49 2 = none := by kernel_rfl
@[go_sem] theorem pa49_3 : partAtT EA.P 49 3 = none := by kernel_rfl
@[go_sem] theorem pa49_4 : partAtT EA.P 49 4 = none := by kernel_rfl
@[go_sem] theorem pa49_5 : partAtT EA.P 49 5 = none := by kernel_rfl
@[go_sem] theorem pa49_6 : partAtT EA.P 49 6 = none := by kernel_rfl
@[go_sem] theorem pa49_7 : partAtT EA.P 49 7 = none := by kernel_rfl
@[go_sem] theorem md5_10 : EA.md 5 10 = .dflt := rfl
@[go_sem] theorem md5_15 : EA.md 5 15 = .dflt := rfl
@[go_sem] theorem md6_12 : EA.md 6 12 = .dflt := rfl
@[go_sem] theorem md7_10 : EA.md 7 10 = .heap := rfl
@[go_sem] theorem md8_14 : EA.md 8 14 = .dflt := rfl
@[go_sem] theorem md8_21 : EA.md 8 21 = .dflt := rfl
@[go_sem] theorem md8_22 : EA.md 8 22 = .dflt := rfl
@[go_sem] theorem md8_27 : EA.md 8 27 = .dflt := rfl
@[go_sem] theorem md8_28 : EA.md 8 28 = .dflt := rfl
@[go_sem] theorem md8_32 : EA.md 8 32 = .dflt := rfl
@[go_sem] theorem md10_4 : EA.md 10 4 = .dflt := rfl
@[go_sem] theorem md10_42 : EA.md 10 42 = .dflt := rfl
@[go_sem] theorem md11_4 : EA.md 11 4 = .dflt := rfl
@[go_sem] theorem md14_4 : EA.md 14 4 = .dflt := rfl
@[go_sem] theorem md14_15 : EA.md 14 15 = .dflt := rfl
@[go_sem] theorem md14_23 : EA.md 14 23 = .dflt := rfl
@[go_sem] theorem md15_13 : EA.md 15 13 = .dflt := rfl
@[go_sem] theorem md15_21 : EA.md 15 21 = .dflt := rfl
@[go_sem] theorem md16_2 : EA.md 16 2 = .dflt := rfl
@[go_sem] theorem md16_3 : EA.md 16 3 = .dflt := rfl
@[go_sem] theorem md16_20 : EA.md 16 20 = .dflt := rfl
@[go_sem] theorem md17_2 : EA.md 17 2 = .dflt := rfl
@[go_sem] theorem md17_3 : EA.md 17 3 = .dflt := rfl
@[go_sem] theorem md18_2 : EA.md 18 2 = .dflt := rfl
@[go_sem] theorem md18_4 : EA.md 18 4 = .dflt := rfl
@[go_sem] theorem md19_1 : EA.md 19 1 = .dflt := rfl
@[go_sem] theorem md19_17 : EA.md 19 17 = .dflt := rfl
@[go_sem] theorem md19_21 : EA.md 19 21 = .dflt := rfl
@[go_sem] theorem md19_25 : EA.md 19 25 = .dflt := rfl
@[go_sem] theorem md19_29 : EA.md 19 29 = .dflt := rfl
@[go_sem] theorem md19_33 : EA.md 19 33 = .dflt := rfl
@[go_sem] theorem md19_57 : EA.md 19 57 = .tok := rfl
@[go_sem] theorem md19_63 : EA.md 19 63 = .dflt := rfl
@[go_sem] theorem md21_8 : EA.md 21 8 = .dflt := rfl
@[go_sem] theorem md21_19 : EA.md 21 19 = .dflt := rfl
@[go_sem] theorem md21_22 : EA.md 21 22 = .dflt := rfl
@[go_sem] theorem md24_2 : EA.md 24 2 = .dflt := rfl
@[go_sem] theorem md24_4 : EA.md 24 4 = .dflt := rfl
@[go_sem] theorem md25_1 : EA.md 25 1 = .dflt := rfl
@[go_sem] theorem md26_1 : EA.md 26 1 = .dflt := rfl
@[go_sem] theorem md27_3 : EA.md 27 3 = .dflt := rfl
@[go_sem] theorem md27_34 : EA.md 27 34 = .vec := rfl
@[go_sem] theorem md27_36 : EA.md 27 36 = .vec := rfl
@[go_sem] theorem md27_57 : EA.md 27 57 = .tok := rfl
@[go_sem] theorem md27_61 : EA.md 27 61 = .dflt := rfl
@[go_sem] theorem md27_63 : EA.md 27 63 = .dflt := rfl
@[go_sem] theorem md27_64 : EA.md 27 64 = .dflt := rfl
@[go_sem] theorem md27_68 : EA.md 27 68 = .dflt := rfl
@[go_sem] theorem md29_4 : EA.md 29 4 = .dflt := rfl
@[go_sem] theorem md30_32 : EA.md 30 32 = .dflt := rfl
@[go_sem] theorem md30_69 : EA.md 30 69 = .dflt := rfl
@[go_sem] theorem md32_2 : EA.md 32 2 = .dflt := rfl
@[go_sem] theorem md32_4 : EA.md 32 4 = .dflt := rfl
@[go_sem] theorem md33_1 : EA.md 33 1 = .dflt := rfl
@[go_sem] theorem md34_1 : EA.md 34 1 = .dflt := rfl
@[go_sem] theorem md35_5 : EA.md 35 5 = .tok := rfl
@[go_sem] theorem md35_7 : EA.md 35 7 = .dflt := rfl
@[go_sem] theorem md35_9 : EA.md 35 9 = .dflt := rfl
@[go_sem] theorem md35_10 : EA.md 35 10 = .dflt := rfl
@[go_sem] theorem md36_6 : EA.md 36 6 = .dflt := rfl
@[go_sem] theorem md36_8 : EA.md 36 8 = .dflt := rfl
@[go_sem] theorem md36_10 : EA.md 36 10 = .dflt := rfl
@[go_sem] theorem md36_71 : EA.md 36 71 = .dflt := rfl
@[go_sem] theorem md36_72 : EA.md 36 72 = .tok := rfl
@[go_sem] theorem kp3 : EA.keep 3 = .drop := rfl
@[go_sem] theorem nt3 : Go.Proofs.Try.f3.ntmps = 87 := rfl
@[go_sem] theorem rs3 : Go.Proofs.Try.f3.results.toList = [.tmp 2] := rfl
@[go_sem] theorem kp4 : EA.keep 4 = .drop := rfl
@[go_sem] theorem nt4 : Go.Proofs.Try.f4.ntmps = 33 := rfl
@[go_sem] theorem rs4 : Go.Proofs.Try.f4.results.toList = [.tmp 2, .tmp 3, .tmp 4, .tmp 5] := rfl
@[go_sem] theorem kp5 : EA.keep 5 = .drop := rfl
@[go_sem] theorem nt5 : Go.Proofs.Try.f5.ntmps = 88 := rfl
@[go_sem] theorem rs5 : Go.Proofs.Try.f5.results.toList = [.tmp 8, .tmp 9] := rfl
@[go_sem] theorem kp6 : EA.keep 6 = .drop := rfl
@[go_sem] theorem nt6 : Go.Proofs.Try.f6.ntmps = 85 := rfl
@[go_sem] theorem rs6 : Go.Proofs.Try.f6.results.toList = [.tmp 8, .tmp 9] := rfl
@[go_sem] theorem kp7 : EA.keep 7 = .all := rfl
@[go_sem] theorem nt7 : Go.Proofs.Try.f7.ntmps = 11 := rfl
@[go_sem] theorem rs7 : Go.Proofs.Try.f7.results.toList = [.tmp 2] := rfl
@[go_sem] theorem kp8 : EA.keep 8 = .drop := rfl
@[go_sem] theorem nt8 : Go.Proofs.Try.f8.ntmps = 34 := rfl
@[go_sem] theorem rs8 : Go.Proofs.Try.f8.results.toList = [.tmp 2] := rfl
@[go_sem] theorem kp9 : EA.keep 9 = .drop := rfl
@[go_sem] theorem nt9 : Go.Proofs.Try.f9.ntmps = 99 := rfl
@[go_sem] theorem rs9 : Go.Proofs.Try.f9.results.toList = [.tmp 4] := rfl
@[go_sem] theorem kp10 : EA.keep 10 = .drop := rfl
@[go_sem] theorem nt10 : Go.Proofs.Try.f10.ntmps = 59 := rfl
@[go_sem] theorem rs10 : Go.Proofs.Try.f10.results.toList = [.tmp 2] := rfl
@[go_sem] theorem kp11 : EA.keep 11 = .drop := rfl
@[go_sem] theorem nt11 : Go.Proofs.Try.f11.ntmps = 52 := rfl
@[go_sem] theorem rs11 : Go.Proofs.Try.f11.results.toList = [.tmp 2] := rfl
@[go_sem] theorem kp12 : EA.keep 12 = .drop := rfl
@[go_sem] theorem nt12 : Go.Proofs.Try.f12.ntmps = 15 := rfl
@[go_sem] theorem rs12 : Go.Proofs.Try.f12.results.toList = [.tmp 6] := rfl
@[go_sem] theorem kp13 : EA.keep 13 = .drop := rfl
@[go_sem] theorem nt13 : Go.Proofs.Try.f13.ntmps = 26 := rfl
@[go_sem] theorem rs13 : Go.Proofs.Try.f13.results.toList = [.tmp 6] := rfl
@[go_sem] theorem kp14 : EA.keep 14 = .hand := rfl
@[go_sem] theorem nt14 : Go.Proofs.Try.f14.ntmps = 25 := rfl
@[go_sem] theorem rs14 : Go.Proofs.Try.f14.results.toList = [.tmp 2, .tmp 3] := rfl
@[go_sem] theorem kp15 : EA.keep 15 = .drop := rfl
@[go_sem] theorem nt15 : Go.Proofs.Try.f15.ntmps = 35 := rfl
@[go_sem] theorem rs15 : Go.Proofs.Try.f15.results.toList = [.tmp 4] := rfl
@[go_sem] theorem kp16 : EA.keep 16 = .drop := rfl
@[go_sem] theorem nt16 : Go.Proofs.Try.f16.ntmps = 22 := rfl
@[go_sem] theorem rs16 : Go.Proofs.Try.f16.results.toList = [.tmp 4] := rfl
@[go_sem] theorem kp17 : EA.keep 17 = .drop := rfl
@[go_sem] theorem nt17 : Go.Proofs.Try.f17.ntmps = 30 := rfl
@[go_sem] theorem rs17 : Go.Proofs.Try.f17.results.toList = [.tmp 4] := rfl
@[go_sem] theorem kp18 : EA.keep 18 = .drop := rfl
@[go_sem] theorem nt18 : Go.Proofs.Try.f18.ntmps = 17 := rfl
@[go_sem] theorem rs18 : Go.Proofs.Try.f18.results.toList = [.cell 2 49, .tmp 3] := rfl
@[go_sem] theorem kp19 : EA.keep 19 = .hand := rfl
@[go_sem] theorem nt19 : Go.Proofs.Try.f19.ntmps = 143 := rfl
@[go_sem] theorem rs19 : Go.Proofs.Try.f19.results.toList = [.tmp 2, .tmp 3] := rfl
@[go_sem] theorem kp20 : EA.keep 20 = .drop := rfl
@[go_sem] theorem nt20 : Go.Proofs.Try.f20.ntmps = 12 := rfl
@[go_sem] theorem rs20 : Go.Proofs.Try.f20.results.toList = [.tmp 4] := rfl
@[go_sem] theorem kp21 : EA.keep 21 = .drop := rfl
@[go_sem] theorem nt21 : Go.Proofs.Try.f21.ntmps = 24 := rfl
@[go_sem] theorem rs21 : Go.Proofs.Try.f21.results.toList = [.tmp 2] := rfl
@[go_sem] theorem kp22 : EA.keep 22 = .drop := rfl
@[go_sem] theorem nt22 : Go.Proofs.Try.f22.ntmps = 18 := rfl
@[go_sem] theorem rs22 : Go.Proofs.Try.f22.results.toList = [.tmp 2] := rfl
@[go_sem] theorem kp23 : EA.keep 23 = .drop := rfl
@[go_sem] theorem nt23 : Go.Proofs.Try.f23.ntmps = 20 := rfl
@[go_sem] theorem rs23 : Go.Proofs.Try.f23.results.toList = [.tmp 4] := rfl
@[go_sem] theorem kp24 : EA.keep 24 = .drop := rfl
@[go_sem] theorem nt24 : Go.Proofs.Try.f24.ntmps = 22 := rfl
@[go_sem] theorem rs24 : Go.Proofs.Try.f24.results.toList = [.cell 2 49, .tmp 3] := rfl
@[go_sem] theorem kp25 : EA.keep 25 = .drop := rfl
@[go_sem] theorem nt25 : Go.Proofs.Try.f25.ntmps = 46 := rfl
@[go_sem] theorem rs25 : Go.Proofs.Try.f25.results.toList = [.tmp 2] := rfl
@[go_sem] theorem kp26 : EA.keep 26 = .drop := rfl
@[go_sem] theorem nt26 : Go.Proofs.Try.f26.ntmps = 17 := rfl
@[go_sem] theorem rs26 : Go.Proofs.Try.f26.results.toList = [.tmp 2] := rfl
@[go_sem] theorem kp27 : EA.keep 27 = .hand := rfl
@[go_sem] theorem nt27 : Go.Proofs.Try.f27.ntmps = 69 := rfl
@[go_sem] theorem rs27 : Go.Proofs.Try.f27.results.toList = [.tmp 4] := rfl
@[go_sem] theorem kp28 : EA.keep 28 = .drop := rfl
@[go_sem] theorem nt28 : Go.Proofs.Try.f28.ntmps = 19 := rfl
@[go_sem] theorem rs28 : Go.Proofs.Try.f28.results.toList = [.tmp 2] := rfl
@[go_sem] theorem kp29 : EA.keep 29 = .drop := rfl
@[go_sem] theorem nt29 : Go.Proofs.Try.f29.ntmps = 6 := rfl
@[go_sem] theorem rs29 : Go.Proofs.Try.f29.results.toList = [.tmp 2] := rfl
@[go_sem] theorem kp30 : EA.keep 30 = .drop := rfl
@[go_sem] theorem nt30 : Go.Proofs.Try.f30.ntmps = 82 := rfl
@[go_sem] theorem rs30 : Go.Proofs.Try.f30.results.toList = [.tmp 6] := rfl
@[go_sem] theorem kp31 : EA.keep 31 = .drop := rfl
@[go_sem] theorem nt31 : Go.Proofs.Try.f31.ntmps = 6 := rfl
@[go_sem] theorem rs31 : Go.Proofs.Try.f31.results.toList = [.tmp 2] := rfl
@[go_sem] theorem kp32 : EA.keep 32 = .drop := rfl
@[go_sem] theorem nt32 : Go.Proofs.Try.f32.ntmps = 20 := rfl
@[go_sem] theorem rs32 : Go.Proofs.Try.f32.results.toList = [.cell 2 49, .tmp 3] := rfl
@[go_sem] theorem kp33 : EA.keep 33 = .drop := rfl
@[go_sem] theorem nt33 : Go.Proofs.Try.f33.ntmps = 60 := rfl
@[go_sem] theorem rs33 : Go.Proofs.Try.f33.results.toList = [.tmp 2] := rfl
@[go_sem] theorem kp34 : EA.keep 34 = .drop := rfl
@[go_sem] theorem nt34 : Go.Proofs.Try.f34.ntmps = 24 := rfl
@[go_sem] theorem rs34 : Go.Proofs.Try.f34.results.toList = [.tmp 2] := rfl
@[go_sem] theorem kp35 : EA.keep 35 = .drop := rfl
@[go_sem] theorem nt35 : Go.Proofs.Try.f35.ntmps = 11 := rfl
@[go_sem] theorem rs35 : Go.Proofs.Try.f35.results.toList = [.tmp 4] := rfl
@[go_sem] theorem kp36 : EA.keep 36 = .drop := rfl
@[go_sem] theorem nt36 : Go.Proofs.Try.f36.ntmps = 87 := rfl
@[go_sem] theorem rs36 : Go.Proofs.Try.f36.results.toList = [.cell 6 49, .tmp 7] := rfl
@[go_sem] theorem kp37 : EA.keep 37 = .drop := rfl
@[go_sem] theorem nt37 : Go.Proofs.Try.f37.ntmps = 5 := rfl
@[go_sem] theorem rs37 : Go.Proofs.Try.f37.results.toList = [.tmp 2] := rfl
@[go_sem] theorem kp38 : EA.keep 38 = .drop := rfl
@[go_sem] theorem nt38 : Go.Proofs.Try.f38.ntmps = 5 := rfl
@[go_sem] theorem rs38 : Go.Proofs.Try.f38.results.toList = [.tmp 2] := rfl
@[go_sem] theorem kp39 : EA.keep 39 = .drop := rfl
@[go_sem] theorem nt39 : Go.Proofs.Try.f39.ntmps = 25 := rfl
@[go_sem] theorem rs39 : Go.Proofs.Try.f39.results.toList = [.tmp 2] := rfl
@[go_sem] theorem kp40 : EA.keep 40 = .drop := rfl
@[go_sem] theorem nt40 : Go.Proofs.Try.f40.ntmps = 40 := rfl
@[go_sem] theorem rs40 : Go.Proofs.Try.f40.results.toList = [.tmp 6] := rfl
@[go_sem] theorem pr6_9 : pairsAt EA.P 6 9 = some [(2, 5), (2, 9), (5, 9), (6, 9), (2, 13), (5, 13), (6, 13), (9, 13), (10, 13)] := by kernel_rfl
@[go_sem] theorem pr9_7 : pairsAt EA.P 9 7 = some [(3, 8), (3, 18), (8, 18), (11, 18), (12, 18), (3, 25), (8, 25), (11, 25), (12, 25), (18, 25), (3, 28), (8, 28), (11, 28), (12, 28), (3, 29), (8, 29), (11, 29), (12, 29), (3, 40), (8, 40), (11, 40), (12, 40), (18, 40), (25, 40), (28, 40), (29, 40)] := by kernel_rfl
@[go_sem] theorem pr10_4 : pairsAt EA.P 10 4 = some [(15, 17), (16, 17)] := by kernel_rfl
@[go_sem] theorem pr11_7 : pairsAt EA.P 11 7 = some [(6, 8), (7, 8)] := by kernel_rfl
@[go_sem] theorem pr16_1 : pairsAt EA.P 16 1 = some [(1, 3), (1, 6), (3, 6), (4, 6), (1, 8), (3, 8), (4, 8), (6, 8), (1, 11), (3, 11), (4, 11), (6, 11), (8, 11), (9, 11), (1, 13), (3, 13), (4, 13), (6, 13), (8, 13), (9, 13), (11, 13)] := by kernel_rfl
@[go_sem] theorem pr18_2 : pairsAt EA.P 18 2 = some [(0, 3), (0, 4)] := by kernel_rfl
@[go_sem] theorem pr19_30 : pairsAt EA.P 19 30 = some [(2, 7), (4, 7), (2, 9), (4, 9)] := by kernel_rfl
@[go_sem] theorem pr19_31 : pairsAt EA.P 19 31 = some [(4, 9), (6, 9), (4, 11), (6, 11), (4, 15), (6, 15), (9, 15), (11, 15), (4, 17), (6, 17), (9, 17), (11, 17), (4, 20), (6, 20), (9, 20), (11, 20), (15, 20), (17, 20), (4, 22), (6, 22), (9, 22), (11, 22), (15, 22), (17, 22), (4, 26), (6, 26), (9, 26), (11, 26), (15, 26), (17, 26), (20, 26), (22, 26), (4, 28), (6, 28), (9, 28), (11, 28), (15, 28), (17, 28), (20, 28), (22, 28), (4, 31), (6, 31), (9, 31), (11, 31), (15, 31), (17, 31), (20, 31), (22, 31), (26, 31), (28, 31), (4, 33), (6, 33), (9, 33), (11, 33), (15, 33), (17, 33), (20, 33), (22, 33), (26, 33), (28, 33)] := by kernel_rfl
@[go_sem] theorem pr24_2 : pairsAt EA.P 24 2 = some [(0, 3), (0, 4), (0, 7), (0, 8)] := by kernel_rfl
@[go_sem] theorem pr27_2 : pairsAt EA.P 27 2 = some [(7, 9), (8, 9)] := by kernel_rfl
@[go_sem] theorem pr27_4 : pairsAt EA.P 27 4 = some [(5, 8), (5, 9)] := by kernel_rfl
@[go_sem] theorem pr27_6 : pairsAt EA.P 27 6 = some [(4, 8), (6, 8), (4, 12), (6, 12), (8, 12), (4, 14), (6, 14), (8, 14), (12, 14), (4, 16), (6, 16), (8, 16), (12, 16), (14, 16)] := by kernel_rfl
@[go_sem] theorem pr27_8 : pairsAt EA.P 27 8 = some [(0, 5), (4, 5), (0, 6), (4, 6)] := by kernel_rfl
end Go.Proofs.Ytnjaagfhaooapaa.Eng
