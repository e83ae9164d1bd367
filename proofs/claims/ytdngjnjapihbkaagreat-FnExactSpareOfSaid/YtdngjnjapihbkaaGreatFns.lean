/- The functions: their numbers, bodies, temporaries, results. Plain theorems, no condition. -/
import Derived.Test.YtdngjnjapihbkaaGreatTab
namespace Go.Proofs.YtdngjnjapihbkaaGreat
open Go.Fw
noncomputable abbrev PP : Program := Tryz.prog
theorem tab : TabOK PP T := T_ok
abbrev n_gosem_cut_init : Nat := 2
theorem fn_gosem_cut_init : FnAt PP 2 (Tryz.f2.body.getD .skip) 1 [] := FnAt.of (fn := Tryz.f2) (by kernel_rfl) (by kernel_rfl) (by kernel_rfl) (by kernel_rfl) (by kernel_rfl) (by decide)
abbrev n_laws_FnExactNeedersOf : Nat := 3
theorem fn_laws_FnExactNeedersOf : FnAt PP 3 (Tryz.f3.body.getD .skip) 95 [.tmp 6] := FnAt.of (fn := Tryz.f3) (by kernel_rfl) (by kernel_rfl) (by kernel_rfl) (by kernel_rfl) (by kernel_rfl) (by decide)
abbrev n_laws_FnExactOrphansOf : Nat := 4
theorem fn_laws_FnExactOrphansOf : FnAt PP 4 (Tryz.f4.body.getD .skip) 113 [.tmp 6] := FnAt.of (fn := Tryz.f4) (by kernel_rfl) (by kernel_rfl) (by kernel_rfl) (by kernel_rfl) (by kernel_rfl) (by decide)
abbrev n_laws_FnExactSpareOf : Nat := 5
theorem fn_laws_FnExactSpareOf : FnAt PP 5 (Tryz.f5.body.getD .skip) 113 [.tmp 6] := FnAt.of (fn := Tryz.f5) (by kernel_rfl) (by kernel_rfl) (by kernel_rfl) (by kernel_rfl) (by kernel_rfl) (by decide)
abbrev n_laws_szPackS : Nat := 6
theorem fn_laws_szPackS : FnAt PP 6 (Tryz.f6.body.getD .skip) 27 [.tmp 4] := FnAt.of (fn := Tryz.f6) (by kernel_rfl) (by kernel_rfl) (by kernel_rfl) (by kernel_rfl) (by kernel_rfl) (by decide)
abbrev n_spec_NeedersOf : Nat := 7
theorem fn_spec_NeedersOf : FnAt PP 7 (Tryz.f7.body.getD .skip) 46 [.cell 6 26] := FnAt.of (fn := Tryz.f7) (by kernel_rfl) (by kernel_rfl) (by kernel_rfl) (by kernel_rfl) (by kernel_rfl) (by decide)
abbrev n_laws_toPackS : Nat := 8
theorem fn_laws_toPackS : FnAt PP 8 (Tryz.f8.body.getD .skip) 23 [.tmp 2] := FnAt.of (fn := Tryz.f8) (by kernel_rfl) (by kernel_rfl) (by kernel_rfl) (by kernel_rfl) (by kernel_rfl) (by decide)
abbrev n_laws_toInt64S : Nat := 9
theorem fn_laws_toInt64S : FnAt PP 9 (Tryz.f9.body.getD .skip) 22 [.tmp 2] := FnAt.of (fn := Tryz.f9) (by kernel_rfl) (by kernel_rfl) (by kernel_rfl) (by kernel_rfl) (by kernel_rfl) (by decide)
abbrev n_impl_NeedersOf : Nat := 10
theorem fn_impl_NeedersOf : FnAt PP 10 (Tryz.f10.body.getD .skip) 27 [.cell 6 26] := FnAt.of (fn := Tryz.f10) (by kernel_rfl) (by kernel_rfl) (by kernel_rfl) (by kernel_rfl) (by kernel_rfl) (by decide)
abbrev n_laws_eqSetResult : Nat := 11
theorem fn_laws_eqSetResult : FnAt PP 11 (Tryz.f11.body.getD .skip) 21 [.tmp 4] := FnAt.of (fn := Tryz.f11) (by kernel_rfl) (by kernel_rfl) (by kernel_rfl) (by kernel_rfl) (by kernel_rfl) (by decide)
abbrev n_laws_eqPackS : Nat := 12
theorem fn_laws_eqPackS : FnAt PP 12 (Tryz.f12.body.getD .skip) 27 [.tmp 4] := FnAt.of (fn := Tryz.f12) (by kernel_rfl) (by kernel_rfl) (by kernel_rfl) (by kernel_rfl) (by kernel_rfl) (by decide)
abbrev n_laws_eqInt64S : Nat := 13
theorem fn_laws_eqInt64S : FnAt PP 13 (Tryz.f13.body.getD .skip) 26 [.tmp 4] := FnAt.of (fn := Tryz.f13) (by kernel_rfl) (by kernel_rfl) (by kernel_rfl) (by kernel_rfl) (by kernel_rfl) (by decide)
abbrev n_laws_markPackS : Nat := 14
theorem fn_laws_markPackS : FnAt PP 14 (Tryz.f14.body.getD .skip) 73 [.tmp 4] := FnAt.of (fn := Tryz.f14) (by kernel_rfl) (by kernel_rfl) (by kernel_rfl) (by kernel_rfl) (by kernel_rfl) (by decide)
abbrev n_laws_markInt64S : Nat := 15
theorem fn_laws_markInt64S : FnAt PP 15 (Tryz.f15.body.getD .skip) 19 [.tmp 4] := FnAt.of (fn := Tryz.f15) (by kernel_rfl) (by kernel_rfl) (by kernel_rfl) (by kernel_rfl) (by kernel_rfl) (by decide)
abbrev n_laws_markSetResult : Nat := 16
theorem fn_laws_markSetResult : FnAt PP 16 (Tryz.f16.body.getD .skip) 10 [.tmp 4] := FnAt.of (fn := Tryz.f16) (by kernel_rfl) (by kernel_rfl) (by kernel_rfl) (by kernel_rfl) (by kernel_rfl) (by decide)
abbrev n_laws_heldSetResult : Nat := 17
theorem fn_laws_heldSetResult : FnAt PP 17 (Tryz.f17.body.getD .skip) 12 [.tmp 4] := FnAt.of (fn := Tryz.f17) (by kernel_rfl) (by kernel_rfl) (by kernel_rfl) (by kernel_rfl) (by kernel_rfl) (by decide)
abbrev n_laws_szTermS : Nat := 18
theorem fn_laws_szTermS : FnAt PP 18 (Tryz.f18.body.getD .skip) 27 [.tmp 4] := FnAt.of (fn := Tryz.f18) (by kernel_rfl) (by kernel_rfl) (by kernel_rfl) (by kernel_rfl) (by kernel_rfl) (by decide)
abbrev n_spec_OrphansOf : Nat := 19
theorem fn_spec_OrphansOf : FnAt PP 19 (Tryz.f19.body.getD .skip) 45 [.cell 6 26] := FnAt.of (fn := Tryz.f19) (by kernel_rfl) (by kernel_rfl) (by kernel_rfl) (by kernel_rfl) (by kernel_rfl) (by decide)
abbrev n_laws_toTermS : Nat := 20
theorem fn_laws_toTermS : FnAt PP 20 (Tryz.f20.body.getD .skip) 23 [.tmp 2] := FnAt.of (fn := Tryz.f20) (by kernel_rfl) (by kernel_rfl) (by kernel_rfl) (by kernel_rfl) (by kernel_rfl) (by decide)
abbrev n_impl_OrphansOf : Nat := 21
theorem fn_impl_OrphansOf : FnAt PP 21 (Tryz.f21.body.getD .skip) 25 [.cell 6 26] := FnAt.of (fn := Tryz.f21) (by kernel_rfl) (by kernel_rfl) (by kernel_rfl) (by kernel_rfl) (by kernel_rfl) (by decide)
abbrev n_laws_eqTermS : Nat := 22
theorem fn_laws_eqTermS : FnAt PP 22 (Tryz.f22.body.getD .skip) 27 [.tmp 4] := FnAt.of (fn := Tryz.f22) (by kernel_rfl) (by kernel_rfl) (by kernel_rfl) (by kernel_rfl) (by kernel_rfl) (by decide)
abbrev n_laws_markTermS : Nat := 23
theorem fn_laws_markTermS : FnAt PP 23 (Tryz.f23.body.getD .skip) 69 [.tmp 4] := FnAt.of (fn := Tryz.f23) (by kernel_rfl) (by kernel_rfl) (by kernel_rfl) (by kernel_rfl) (by kernel_rfl) (by decide)
abbrev n_spec_SpareOf : Nat := 24
theorem fn_spec_SpareOf : FnAt PP 24 (Tryz.f24.body.getD .skip) 67 [.cell 6 26] := FnAt.of (fn := Tryz.f24) (by kernel_rfl) (by kernel_rfl) (by kernel_rfl) (by kernel_rfl) (by kernel_rfl) (by decide)
abbrev n_impl_SpareOf : Nat := 25
theorem fn_impl_SpareOf : FnAt PP 25 (Tryz.f25.body.getD .skip) 26 [.cell 6 26] := FnAt.of (fn := Tryz.f25) (by kernel_rfl) (by kernel_rfl) (by kernel_rfl) (by kernel_rfl) (by kernel_rfl) (by decide)
abbrev n_laws_szPack : Nat := 26
theorem fn_laws_szPack : FnAt PP 26 (Tryz.f26.body.getD .skip) 31 [.tmp 4] := FnAt.of (fn := Tryz.f26) (by kernel_rfl) (by kernel_rfl) (by kernel_rfl) (by kernel_rfl) (by kernel_rfl) (by decide)
abbrev n_spec_SetFault : Nat := 27
theorem fn_spec_SetFault : FnAt PP 27 (Tryz.f27.body.getD .skip) 15 [.tmp 4] := FnAt.of (fn := Tryz.f27) (by kernel_rfl) (by kernel_rfl) (by kernel_rfl) (by kernel_rfl) (by kernel_rfl) (by decide)
abbrev n_spec_l1Has : Nat := 28
theorem fn_spec_l1Has : FnAt PP 28 (Tryz.f28.body.getD .skip) 18 [.tmp 4] := FnAt.of (fn := Tryz.f28) (by kernel_rfl) (by kernel_rfl) (by kernel_rfl) (by kernel_rfl) (by kernel_rfl) (by decide)
abbrev n_spec_l13Leans : Nat := 29
theorem fn_spec_l13Leans : FnAt PP 29 (Tryz.f29.body.getD .skip) 45 [.tmp 6] := FnAt.of (fn := Tryz.f29) (by kernel_rfl) (by kernel_rfl) (by kernel_rfl) (by kernel_rfl) (by kernel_rfl) (by decide)
abbrev n_laws_toPack : Nat := 30
theorem fn_laws_toPack : FnAt PP 30 (Tryz.f30.body.getD .skip) 27 [.cell 2 59] := FnAt.of (fn := Tryz.f30) (by kernel_rfl) (by kernel_rfl) (by kernel_rfl) (by kernel_rfl) (by kernel_rfl) (by decide)
abbrev n_impl_SetFault : Nat := 31
theorem fn_impl_SetFault : FnAt PP 31 (Tryz.f31.body.getD .skip) 32 [.tmp 4] := FnAt.of (fn := Tryz.f31) (by kernel_rfl) (by kernel_rfl) (by kernel_rfl) (by kernel_rfl) (by kernel_rfl) (by decide)
abbrev n_slices_Contains_L_int64_int64 : Nat := 32
theorem fn_slices_Contains_L_int64_int64 : FnAt PP 32 (Tryz.f32.body.getD .skip) 9 [.tmp 4] := FnAt.of (fn := Tryz.f32) (by kernel_rfl) (by kernel_rfl) (by kernel_rfl) (by kernel_rfl) (by kernel_rfl) (by decide)
abbrev n_impl_those : Nat := 33
theorem fn_impl_those : FnAt PP 33 (Tryz.f33.body.getD .skip) 9 [.tmp 4] := FnAt.of (fn := Tryz.f33) (by kernel_rfl) (by kernel_rfl) (by kernel_rfl) (by kernel_rfl) (by kernel_rfl) (by decide)
abbrev n_impl_NeedersOf_1 : Nat := 34
theorem fn_impl_NeedersOf_1 : FnAt PP 34 (Tryz.f34.body.getD .skip) 9 [.tmp 4] := FnAt.of (fn := Tryz.f34) (by kernel_rfl) (by kernel_rfl) (by kernel_rfl) (by kernel_rfl) (by kernel_rfl) (by decide)
abbrev n_impl_leans : Nat := 35
theorem fn_impl_leans : FnAt PP 35 (Tryz.f35.body.getD .skip) 23 [.tmp 6] := FnAt.of (fn := Tryz.f35) (by kernel_rfl) (by kernel_rfl) (by kernel_rfl) (by kernel_rfl) (by kernel_rfl) (by decide)
abbrev n_laws_eqPack : Nat := 36
theorem fn_laws_eqPack : FnAt PP 36 (Tryz.f36.body.getD .skip) 39 [.tmp 4] := FnAt.of (fn := Tryz.f36) (by kernel_rfl) (by kernel_rfl) (by kernel_rfl) (by kernel_rfl) (by kernel_rfl) (by decide)
abbrev n_laws_markText : Nat := 37
theorem fn_laws_markText : FnAt PP 37 (Tryz.f37.body.getD .skip) 20 [.tmp 2] := FnAt.of (fn := Tryz.f37) (by kernel_rfl) (by kernel_rfl) (by kernel_rfl) (by kernel_rfl) (by kernel_rfl) (by decide)
abbrev n_laws_markStringS : Nat := 38
theorem fn_laws_markStringS : FnAt PP 38 (Tryz.f38.body.getD .skip) 20 [.tmp 4] := FnAt.of (fn := Tryz.f38) (by kernel_rfl) (by kernel_rfl) (by kernel_rfl) (by kernel_rfl) (by kernel_rfl) (by decide)
abbrev n_laws_markTermSS : Nat := 39
theorem fn_laws_markTermSS : FnAt PP 39 (Tryz.f39.body.getD .skip) 19 [.tmp 4] := FnAt.of (fn := Tryz.f39) (by kernel_rfl) (by kernel_rfl) (by kernel_rfl) (by kernel_rfl) (by kernel_rfl) (by decide)
abbrev n_laws_heldInt64S : Nat := 40
theorem fn_laws_heldInt64S : FnAt PP 40 (Tryz.f40.body.getD .skip) 21 [.tmp 4] := FnAt.of (fn := Tryz.f40) (by kernel_rfl) (by kernel_rfl) (by kernel_rfl) (by kernel_rfl) (by kernel_rfl) (by decide)
abbrev n_laws_szTerm : Nat := 41
theorem fn_laws_szTerm : FnAt PP 41 (Tryz.f41.body.getD .skip) 13 [.tmp 4] := FnAt.of (fn := Tryz.f41) (by kernel_rfl) (by kernel_rfl) (by kernel_rfl) (by kernel_rfl) (by kernel_rfl) (by decide)
abbrev n_spec_l13Asked : Nat := 42
theorem fn_spec_l13Asked : FnAt PP 42 (Tryz.f42.body.getD .skip) 19 [.tmp 6] := FnAt.of (fn := Tryz.f42) (by kernel_rfl) (by kernel_rfl) (by kernel_rfl) (by kernel_rfl) (by kernel_rfl) (by decide)
abbrev n_spec_l13Far : Nat := 43
theorem fn_spec_l13Far : FnAt PP 43 (Tryz.f43.body.getD .skip) 83 [.tmp 6] := FnAt.of (fn := Tryz.f43) (by kernel_rfl) (by kernel_rfl) (by kernel_rfl) (by kernel_rfl) (by kernel_rfl) (by decide)
abbrev n_laws_toTerm : Nat := 44
theorem fn_laws_toTerm : FnAt PP 44 (Tryz.f44.body.getD .skip) 16 [.cell 2 73] := FnAt.of (fn := Tryz.f44) (by kernel_rfl) (by kernel_rfl) (by kernel_rfl) (by kernel_rfl) (by kernel_rfl) (by decide)
abbrev n_impl_asksCode : Nat := 45
theorem fn_impl_asksCode : FnAt PP 45 (Tryz.f45.body.getD .skip) 23 [.tmp 6] := FnAt.of (fn := Tryz.f45) (by kernel_rfl) (by kernel_rfl) (by kernel_rfl) (by kernel_rfl) (by kernel_rfl) (by decide)
abbrev n_impl_ways : Nat := 46
theorem fn_impl_ways : FnAt PP 46 (Tryz.f46.body.getD .skip) 95 [.tmp 6] := FnAt.of (fn := Tryz.f46) (by kernel_rfl) (by kernel_rfl) (by kernel_rfl) (by kernel_rfl) (by kernel_rfl) (by decide)
abbrev n_impl_OrphansOf_1 : Nat := 47
theorem fn_impl_OrphansOf_1 : FnAt PP 47 (Tryz.f47.body.getD .skip) 9 [.tmp 3] := FnAt.of (fn := Tryz.f47) (by kernel_rfl) (by kernel_rfl) (by kernel_rfl) (by kernel_rfl) (by kernel_rfl) (by decide)
abbrev n_laws_eqTerm : Nat := 48
theorem fn_laws_eqTerm : FnAt PP 48 (Tryz.f48.body.getD .skip) 22 [.tmp 4] := FnAt.of (fn := Tryz.f48) (by kernel_rfl) (by kernel_rfl) (by kernel_rfl) (by kernel_rfl) (by kernel_rfl) (by decide)
abbrev n_spec_l3Good : Nat := 49
theorem fn_spec_l3Good : FnAt PP 49 (Tryz.f49.body.getD .skip) 10 [.tmp 4] := FnAt.of (fn := Tryz.f49) (by kernel_rfl) (by kernel_rfl) (by kernel_rfl) (by kernel_rfl) (by kernel_rfl) (by decide)
abbrev n_spec_l3Holds : Nat := 50
theorem fn_spec_l3Holds : FnAt PP 50 (Tryz.f50.body.getD .skip) 30 [.tmp 6] := FnAt.of (fn := Tryz.f50) (by kernel_rfl) (by kernel_rfl) (by kernel_rfl) (by kernel_rfl) (by kernel_rfl) (by decide)
abbrev n_impl_holds : Nat := 51
theorem fn_impl_holds : FnAt PP 51 (Tryz.f51.body.getD .skip) 16 [.tmp 6] := FnAt.of (fn := Tryz.f51) (by kernel_rfl) (by kernel_rfl) (by kernel_rfl) (by kernel_rfl) (by kernel_rfl) (by decide)
abbrev n_impl_SpareOf_1 : Nat := 52
theorem fn_impl_SpareOf_1 : FnAt PP 52 (Tryz.f52.body.getD .skip) 12 [.tmp 5] := FnAt.of (fn := Tryz.f52) (by kernel_rfl) (by kernel_rfl) (by kernel_rfl) (by kernel_rfl) (by kernel_rfl) (by decide)
abbrev n_impl_SpareOf_1_1 : Nat := 53
theorem fn_impl_SpareOf_1_1 : FnAt PP 53 (Tryz.f53.body.getD .skip) 7 [.tmp 3] := FnAt.of (fn := Tryz.f53) (by kernel_rfl) (by kernel_rfl) (by kernel_rfl) (by kernel_rfl) (by kernel_rfl) (by decide)
abbrev n_laws_szStringS : Nat := 54
theorem fn_laws_szStringS : FnAt PP 54 (Tryz.f54.body.getD .skip) 28 [.tmp 4] := FnAt.of (fn := Tryz.f54) (by kernel_rfl) (by kernel_rfl) (by kernel_rfl) (by kernel_rfl) (by kernel_rfl) (by decide)
abbrev n_laws_szTermSS : Nat := 55
theorem fn_laws_szTermSS : FnAt PP 55 (Tryz.f55.body.getD .skip) 27 [.tmp 4] := FnAt.of (fn := Tryz.f55) (by kernel_rfl) (by kernel_rfl) (by kernel_rfl) (by kernel_rfl) (by kernel_rfl) (by decide)
abbrev n_spec_CatalogFault : Nat := 56
theorem fn_spec_CatalogFault : FnAt PP 56 (Tryz.f56.body.getD .skip) 37 [.tmp 2] := FnAt.of (fn := Tryz.f56) (by kernel_rfl) (by kernel_rfl) (by kernel_rfl) (by kernel_rfl) (by kernel_rfl) (by decide)
abbrev n_spec_l3Set : Nat := 57
theorem fn_spec_l3Set : FnAt PP 57 (Tryz.f57.body.getD .skip) 37 [.tmp 4] := FnAt.of (fn := Tryz.f57) (by kernel_rfl) (by kernel_rfl) (by kernel_rfl) (by kernel_rfl) (by kernel_rfl) (by decide)
abbrev n_spec_l2Gives : Nat := 58
theorem fn_spec_l2Gives : FnAt PP 58 (Tryz.f58.body.getD .skip) 25 [.tmp 4] := FnAt.of (fn := Tryz.f58) (by kernel_rfl) (by kernel_rfl) (by kernel_rfl) (by kernel_rfl) (by kernel_rfl) (by decide)
abbrev n_laws_toVersion : Nat := 59
theorem fn_laws_toVersion : FnAt PP 59 (Tryz.f59.body.getD .skip) 14 [.cell 2 56] := FnAt.of (fn := Tryz.f59) (by kernel_rfl) (by kernel_rfl) (by kernel_rfl) (by kernel_rfl) (by kernel_rfl) (by decide)
abbrev n_laws_toStringS : Nat := 60
theorem fn_laws_toStringS : FnAt PP 60 (Tryz.f60.body.getD .skip) 22 [.tmp 2] := FnAt.of (fn := Tryz.f60) (by kernel_rfl) (by kernel_rfl) (by kernel_rfl) (by kernel_rfl) (by kernel_rfl) (by decide)
abbrev n_laws_toTermSS : Nat := 61
theorem fn_laws_toTermSS : FnAt PP 61 (Tryz.f61.body.getD .skip) 23 [.tmp 2] := FnAt.of (fn := Tryz.f61) (by kernel_rfl) (by kernel_rfl) (by kernel_rfl) (by kernel_rfl) (by kernel_rfl) (by decide)
abbrev n_impl_CatalogFault : Nat := 62
theorem fn_impl_CatalogFault : FnAt PP 62 (Tryz.f62.body.getD .skip) 31 [.tmp 2] := FnAt.of (fn := Tryz.f62) (by kernel_rfl) (by kernel_rfl) (by kernel_rfl) (by kernel_rfl) (by kernel_rfl) (by decide)
abbrev n_impl_arePlaces : Nat := 63
theorem fn_impl_arePlaces : FnAt PP 63 (Tryz.f63.body.getD .skip) 9 [.tmp 4] := FnAt.of (fn := Tryz.f63) (by kernel_rfl) (by kernel_rfl) (by kernel_rfl) (by kernel_rfl) (by kernel_rfl) (by decide)
abbrev n_slices_Index_L_int64_int64 : Nat := 64
theorem fn_slices_Index_L_int64_int64 : FnAt PP 64 (Tryz.f64.body.getD .skip) 19 [.tmp 4] := FnAt.of (fn := Tryz.f64) (by kernel_rfl) (by kernel_rfl) (by kernel_rfl) (by kernel_rfl) (by kernel_rfl) (by decide)
abbrev n_slices_DeleteFunc_L_int64_int64 : Nat := 65
theorem fn_slices_DeleteFunc_L_int64_int64 : FnAt PP 65 (Tryz.f65.body.getD .skip) 42 [.tmp 4] := FnAt.of (fn := Tryz.f65) (by kernel_rfl) (by kernel_rfl) (by kernel_rfl) (by kernel_rfl) (by kernel_rfl) (by decide)
abbrev n_slices_Clone_L_int64_int64 : Nat := 66
theorem fn_slices_Clone_L_int64_int64 : FnAt PP 66 (Tryz.f66.body.getD .skip) 8 [.tmp 2] := FnAt.of (fn := Tryz.f66) (by kernel_rfl) (by kernel_rfl) (by kernel_rfl) (by kernel_rfl) (by kernel_rfl) (by decide)
abbrev n_impl_those_1 : Nat := 67
theorem fn_impl_those_1 : FnAt PP 67 (Tryz.f67.body.getD .skip) 8 [.tmp 3] := FnAt.of (fn := Tryz.f67) (by kernel_rfl) (by kernel_rfl) (by kernel_rfl) (by kernel_rfl) (by kernel_rfl) (by decide)
abbrev n_slices_ContainsFunc_L_L_impl_Term_L_impl_Term : Nat := 68
theorem fn_slices_ContainsFunc_L_L_impl_Term_L_impl_Term : FnAt PP 68 (Tryz.f68.body.getD .skip) 9 [.tmp 4] := FnAt.of (fn := Tryz.f68) (by kernel_rfl) (by kernel_rfl) (by kernel_rfl) (by kernel_rfl) (by kernel_rfl) (by decide)
abbrev n_impl_Pack_givesOne : Nat := 69
theorem fn_impl_Pack_givesOne : FnAt PP 69 (Tryz.f69.body.getD .skip) 9 [.tmp 4] := FnAt.of (fn := Tryz.f69) (by kernel_rfl) (by kernel_rfl) (by kernel_rfl) (by kernel_rfl) (by kernel_rfl) (by decide)
abbrev n_laws_eqVersion : Nat := 70
theorem fn_laws_eqVersion : FnAt PP 70 (Tryz.f70.body.getD .skip) 20 [.tmp 4] := FnAt.of (fn := Tryz.f70) (by kernel_rfl) (by kernel_rfl) (by kernel_rfl) (by kernel_rfl) (by kernel_rfl) (by decide)
abbrev n_laws_eqStringS : Nat := 71
theorem fn_laws_eqStringS : FnAt PP 71 (Tryz.f71.body.getD .skip) 26 [.tmp 4] := FnAt.of (fn := Tryz.f71) (by kernel_rfl) (by kernel_rfl) (by kernel_rfl) (by kernel_rfl) (by kernel_rfl) (by decide)
abbrev n_laws_eqTermSS : Nat := 72
theorem fn_laws_eqTermSS : FnAt PP 72 (Tryz.f72.body.getD .skip) 27 [.tmp 4] := FnAt.of (fn := Tryz.f72) (by kernel_rfl) (by kernel_rfl) (by kernel_rfl) (by kernel_rfl) (by kernel_rfl) (by decide)
abbrev n_spec_l2Terms : Nat := 73
theorem fn_spec_l2Terms : FnAt PP 73 (Tryz.f73.body.getD .skip) 19 [.tmp 2] := FnAt.of (fn := Tryz.f73) (by kernel_rfl) (by kernel_rfl) (by kernel_rfl) (by kernel_rfl) (by kernel_rfl) (by decide)
abbrev n_spec_l13Asks : Nat := 74
theorem fn_spec_l13Asks : FnAt PP 74 (Tryz.f74.body.getD .skip) 23 [.tmp 6] := FnAt.of (fn := Tryz.f74) (by kernel_rfl) (by kernel_rfl) (by kernel_rfl) (by kernel_rfl) (by kernel_rfl) (by decide)
abbrev n_impl_termsFault : Nat := 75
theorem fn_impl_termsFault : FnAt PP 75 (Tryz.f75.body.getD .skip) 18 [.tmp 2] := FnAt.of (fn := Tryz.f75) (by kernel_rfl) (by kernel_rfl) (by kernel_rfl) (by kernel_rfl) (by kernel_rfl) (by decide)
abbrev n_spec_l3Faults : Nat := 76
theorem fn_spec_l3Faults : FnAt PP 76 (Tryz.f76.body.getD .skip) 103 [.tmp 4] := FnAt.of (fn := Tryz.f76) (by kernel_rfl) (by kernel_rfl) (by kernel_rfl) (by kernel_rfl) (by kernel_rfl) (by decide)
abbrev n_spec_TermFault : Nat := 77
theorem fn_spec_TermFault : FnAt PP 77 (Tryz.f77.body.getD .skip) 33 [.tmp 2] := FnAt.of (fn := Tryz.f77) (by kernel_rfl) (by kernel_rfl) (by kernel_rfl) (by kernel_rfl) (by kernel_rfl) (by decide)
abbrev n_spec_l3Given : Nat := 78
theorem fn_spec_l3Given : FnAt PP 78 (Tryz.f78.body.getD .skip) 33 [.tmp 8] := FnAt.of (fn := Tryz.f78) (by kernel_rfl) (by kernel_rfl) (by kernel_rfl) (by kernel_rfl) (by kernel_rfl) (by decide)
abbrev n_impl_consistent : Nat := 79
theorem fn_impl_consistent : FnAt PP 79 (Tryz.f79.body.getD .skip) 10 [.tmp 4] := FnAt.of (fn := Tryz.f79) (by kernel_rfl) (by kernel_rfl) (by kernel_rfl) (by kernel_rfl) (by kernel_rfl) (by decide)
abbrev n_slices_ContainsFunc_L_impl_Term_impl_Term : Nat := 80
theorem fn_slices_ContainsFunc_L_impl_Term_impl_Term : FnAt PP 80 (Tryz.f80.body.getD .skip) 9 [.tmp 4] := FnAt.of (fn := Tryz.f80) (by kernel_rfl) (by kernel_rfl) (by kernel_rfl) (by kernel_rfl) (by kernel_rfl) (by decide)
abbrev n_impl_holds_1 : Nat := 81
theorem fn_impl_holds_1 : FnAt PP 81 (Tryz.f81.body.getD .skip) 9 [.tmp 4] := FnAt.of (fn := Tryz.f81) (by kernel_rfl) (by kernel_rfl) (by kernel_rfl) (by kernel_rfl) (by kernel_rfl) (by decide)
abbrev n_slices_ContainsFunc_L_int64_int64 : Nat := 82
theorem fn_slices_ContainsFunc_L_int64_int64 : FnAt PP 82 (Tryz.f82.body.getD .skip) 9 [.tmp 4] := FnAt.of (fn := Tryz.f82) (by kernel_rfl) (by kernel_rfl) (by kernel_rfl) (by kernel_rfl) (by kernel_rfl) (by decide)
abbrev n_impl_holds_1_1 : Nat := 83
theorem fn_impl_holds_1_1 : FnAt PP 83 (Tryz.f83.body.getD .skip) 11 [.tmp 4] := FnAt.of (fn := Tryz.f83) (by kernel_rfl) (by kernel_rfl) (by kernel_rfl) (by kernel_rfl) (by kernel_rfl) (by decide)
abbrev n_impl_Pack_gives : Nat := 84
theorem fn_impl_Pack_gives : FnAt PP 84 (Tryz.f84.body.getD .skip) 9 [.tmp 4] := FnAt.of (fn := Tryz.f84) (by kernel_rfl) (by kernel_rfl) (by kernel_rfl) (by kernel_rfl) (by kernel_rfl) (by decide)
abbrev n_spec_PackFault : Nat := 85
theorem fn_spec_PackFault : FnAt PP 85 (Tryz.f85.body.getD .skip) 118 [.tmp 2] := FnAt.of (fn := Tryz.f85) (by kernel_rfl) (by kernel_rfl) (by kernel_rfl) (by kernel_rfl) (by kernel_rfl) (by decide)
abbrev n_spec_l2Find : Nat := 86
theorem fn_spec_l2Find : FnAt PP 86 (Tryz.f86.body.getD .skip) 32 [.tmp 6] := FnAt.of (fn := Tryz.f86) (by kernel_rfl) (by kernel_rfl) (by kernel_rfl) (by kernel_rfl) (by kernel_rfl) (by decide)
abbrev n_spec_l1In : Nat := 87
theorem fn_spec_l1In : FnAt PP 87 (Tryz.f87.body.getD .skip) 15 [.tmp 6] := FnAt.of (fn := Tryz.f87) (by kernel_rfl) (by kernel_rfl) (by kernel_rfl) (by kernel_rfl) (by kernel_rfl) (by decide)
abbrev n_spec_l2Holds : Nat := 88
theorem fn_spec_l2Holds : FnAt PP 88 (Tryz.f88.body.getD .skip) 18 [.tmp 4] := FnAt.of (fn := Tryz.f88) (by kernel_rfl) (by kernel_rfl) (by kernel_rfl) (by kernel_rfl) (by kernel_rfl) (by decide)
abbrev n_spec_l1InTerm : Nat := 89
theorem fn_spec_l1InTerm : FnAt PP 89 (Tryz.f89.body.getD .skip) 25 [.tmp 6] := FnAt.of (fn := Tryz.f89) (by kernel_rfl) (by kernel_rfl) (by kernel_rfl) (by kernel_rfl) (by kernel_rfl) (by decide)
abbrev n_impl_PackFault : Nat := 90
theorem fn_impl_PackFault : FnAt PP 90 (Tryz.f90.body.getD .skip) 93 [.tmp 2] := FnAt.of (fn := Tryz.f90) (by kernel_rfl) (by kernel_rfl) (by kernel_rfl) (by kernel_rfl) (by kernel_rfl) (by decide)
abbrev n_impl_find : Nat := 91
theorem fn_impl_find : FnAt PP 91 (Tryz.f91.body.getD .skip) 10 [.tmp 6] := FnAt.of (fn := Tryz.f91) (by kernel_rfl) (by kernel_rfl) (by kernel_rfl) (by kernel_rfl) (by kernel_rfl) (by decide)
abbrev n_impl_arePlaces_1 : Nat := 92
theorem fn_impl_arePlaces_1 : FnAt PP 92 (Tryz.f92.body.getD .skip) 10 [.tmp 3] := FnAt.of (fn := Tryz.f92) (by kernel_rfl) (by kernel_rfl) (by kernel_rfl) (by kernel_rfl) (by kernel_rfl) (by decide)
abbrev n_impl_within : Nat := 93
theorem fn_impl_within : FnAt PP 93 (Tryz.f93.body.getD .skip) 15 [.tmp 6] := FnAt.of (fn := Tryz.f93) (by kernel_rfl) (by kernel_rfl) (by kernel_rfl) (by kernel_rfl) (by kernel_rfl) (by decide)
abbrev n_slices_IndexFunc_L_int64_int64 : Nat := 94
theorem fn_slices_IndexFunc_L_int64_int64 : FnAt PP 94 (Tryz.f94.body.getD .skip) 19 [.tmp 4] := FnAt.of (fn := Tryz.f94) (by kernel_rfl) (by kernel_rfl) (by kernel_rfl) (by kernel_rfl) (by kernel_rfl) (by decide)
abbrev n_slices_IndexFunc_L_L_impl_Term_L_impl_Term : Nat := 95
theorem fn_slices_IndexFunc_L_L_impl_Term_L_impl_Term : FnAt PP 95 (Tryz.f95.body.getD .skip) 19 [.tmp 4] := FnAt.of (fn := Tryz.f95) (by kernel_rfl) (by kernel_rfl) (by kernel_rfl) (by kernel_rfl) (by kernel_rfl) (by decide)
abbrev n_impl_TermFault : Nat := 96
theorem fn_impl_TermFault : FnAt PP 96 (Tryz.f96.body.getD .skip) 35 [.tmp 2] := FnAt.of (fn := Tryz.f96) (by kernel_rfl) (by kernel_rfl) (by kernel_rfl) (by kernel_rfl) (by kernel_rfl) (by decide)
abbrev n_spec_l3Met : Nat := 97
theorem fn_spec_l3Met : FnAt PP 97 (Tryz.f97.body.getD .skip) 21 [.tmp 6] := FnAt.of (fn := Tryz.f97) (by kernel_rfl) (by kernel_rfl) (by kernel_rfl) (by kernel_rfl) (by kernel_rfl) (by decide)
abbrev n_spec_NameFault : Nat := 98
theorem fn_spec_NameFault : FnAt PP 98 (Tryz.f98.body.getD .skip) 29 [.tmp 2] := FnAt.of (fn := Tryz.f98) (by kernel_rfl) (by kernel_rfl) (by kernel_rfl) (by kernel_rfl) (by kernel_rfl) (by decide)
abbrev n_spec_VersionFault : Nat := 99
theorem fn_spec_VersionFault : FnAt PP 99 (Tryz.f99.body.getD .skip) 19 [.tmp 2] := FnAt.of (fn := Tryz.f99) (by kernel_rfl) (by kernel_rfl) (by kernel_rfl) (by kernel_rfl) (by kernel_rfl) (by decide)
abbrev n_spec_l1Top : Nat := 100
theorem fn_spec_l1Top : FnAt PP 100 (Tryz.f100.body.getD .skip) 2 [.cell 0 56] := FnAt.of (fn := Tryz.f100) (by kernel_rfl) (by kernel_rfl) (by kernel_rfl) (by kernel_rfl) (by kernel_rfl) (by decide)
abbrev n_spec_CompareVersions : Nat := 101
theorem fn_spec_CompareVersions : FnAt PP 101 (Tryz.f101.body.getD .skip) 28 [.tmp 4] := FnAt.of (fn := Tryz.f101) (by kernel_rfl) (by kernel_rfl) (by kernel_rfl) (by kernel_rfl) (by kernel_rfl) (by decide)
abbrev n_impl_faults : Nat := 102
theorem fn_impl_faults : FnAt PP 102 (Tryz.f102.body.getD .skip) 77 [.tmp 4] := FnAt.of (fn := Tryz.f102) (by kernel_rfl) (by kernel_rfl) (by kernel_rfl) (by kernel_rfl) (by kernel_rfl) (by decide)
abbrev n_slices_IndexFunc_L_impl_Term_impl_Term : Nat := 103
theorem fn_slices_IndexFunc_L_impl_Term_impl_Term : FnAt PP 103 (Tryz.f103.body.getD .skip) 19 [.tmp 4] := FnAt.of (fn := Tryz.f103) (by kernel_rfl) (by kernel_rfl) (by kernel_rfl) (by kernel_rfl) (by kernel_rfl) (by decide)
abbrev n_slices_ContainsFunc_L_string_string : Nat := 104
theorem fn_slices_ContainsFunc_L_string_string : FnAt PP 104 (Tryz.f104.body.getD .skip) 9 [.tmp 4] := FnAt.of (fn := Tryz.f104) (by kernel_rfl) (by kernel_rfl) (by kernel_rfl) (by kernel_rfl) (by kernel_rfl) (by decide)
abbrev n_impl_Pack_names : Nat := 105
theorem fn_impl_Pack_names : FnAt PP 105 (Tryz.f105.body.getD .skip) 9 [.tmp 2] := FnAt.of (fn := Tryz.f105) (by kernel_rfl) (by kernel_rfl) (by kernel_rfl) (by kernel_rfl) (by kernel_rfl) (by decide)
abbrev n_impl_Pack_gives_1 : Nat := 106
theorem fn_impl_Pack_gives_1 : FnAt PP 106 (Tryz.f106.body.getD .skip) 10 [.tmp 4] := FnAt.of (fn := Tryz.f106) (by kernel_rfl) (by kernel_rfl) (by kernel_rfl) (by kernel_rfl) (by kernel_rfl) (by decide)
abbrev n_impl_Term_has : Nat := 107
theorem fn_impl_Term_has : FnAt PP 107 (Tryz.f107.body.getD .skip) 25 [.tmp 6] := FnAt.of (fn := Tryz.f107) (by kernel_rfl) (by kernel_rfl) (by kernel_rfl) (by kernel_rfl) (by kernel_rfl) (by decide)
abbrev n_impl_firstCode : Nat := 108
theorem fn_impl_firstCode : FnAt PP 108 (Tryz.f108.body.getD .skip) 15 [.tmp 2] := FnAt.of (fn := Tryz.f108) (by kernel_rfl) (by kernel_rfl) (by kernel_rfl) (by kernel_rfl) (by kernel_rfl) (by decide)
abbrev n_impl_NameFault : Nat := 109
theorem fn_impl_NameFault : FnAt PP 109 (Tryz.f109.body.getD .skip) 33 [.tmp 2] := FnAt.of (fn := Tryz.f109) (by kernel_rfl) (by kernel_rfl) (by kernel_rfl) (by kernel_rfl) (by kernel_rfl) (by decide)
abbrev n_impl_VersionFault : Nat := 110
theorem fn_impl_VersionFault : FnAt PP 110 (Tryz.f110.body.getD .skip) 19 [.tmp 2] := FnAt.of (fn := Tryz.f110) (by kernel_rfl) (by kernel_rfl) (by kernel_rfl) (by kernel_rfl) (by kernel_rfl) (by decide)
abbrev n_impl_PackFault_1 : Nat := 111
theorem fn_impl_PackFault_1 : FnAt PP 111 (Tryz.f111.body.getD .skip) 6 [.tmp 2] := FnAt.of (fn := Tryz.f111) (by kernel_rfl) (by kernel_rfl) (by kernel_rfl) (by kernel_rfl) (by kernel_rfl) (by decide)
abbrev n_slices_Contains_L_string_string : Nat := 112
theorem fn_slices_Contains_L_string_string : FnAt PP 112 (Tryz.f112.body.getD .skip) 9 [.tmp 4] := FnAt.of (fn := Tryz.f112) (by kernel_rfl) (by kernel_rfl) (by kernel_rfl) (by kernel_rfl) (by kernel_rfl) (by decide)
abbrev n_slices_IndexFunc_L_impl_Pack_impl_Pack : Nat := 113
theorem fn_slices_IndexFunc_L_impl_Pack_impl_Pack : FnAt PP 113 (Tryz.f113.body.getD .skip) 19 [.tmp 4] := FnAt.of (fn := Tryz.f113) (by kernel_rfl) (by kernel_rfl) (by kernel_rfl) (by kernel_rfl) (by kernel_rfl) (by decide)
abbrev n_impl_find_1 : Nat := 114
theorem fn_impl_find_1 : FnAt PP 114 (Tryz.f114.body.getD .skip) 15 [.tmp 4] := FnAt.of (fn := Tryz.f114) (by kernel_rfl) (by kernel_rfl) (by kernel_rfl) (by kernel_rfl) (by kernel_rfl) (by decide)
abbrev n_impl_top : Nat := 115
theorem fn_impl_top : FnAt PP 115 (Tryz.f115.body.getD .skip) 2 [.cell 0 56] := FnAt.of (fn := Tryz.f115) (by kernel_rfl) (by kernel_rfl) (by kernel_rfl) (by kernel_rfl) (by kernel_rfl) (by decide)
abbrev n_impl_compare : Nat := 116
theorem fn_impl_compare : FnAt PP 116 (Tryz.f116.body.getD .skip) 22 [.tmp 4] := FnAt.of (fn := Tryz.f116) (by kernel_rfl) (by kernel_rfl) (by kernel_rfl) (by kernel_rfl) (by kernel_rfl) (by decide)
abbrev n_spec_l1Letter : Nat := 117
theorem fn_spec_l1Letter : FnAt PP 117 (Tryz.f117.body.getD .skip) 9 [.tmp 2] := FnAt.of (fn := Tryz.f117) (by kernel_rfl) (by kernel_rfl) (by kernel_rfl) (by kernel_rfl) (by kernel_rfl) (by decide)
abbrev n_spec_l1Name : Nat := 118
theorem fn_spec_l1Name : FnAt PP 118 (Tryz.f118.body.getD .skip) 13 [.tmp 2] := FnAt.of (fn := Tryz.f118) (by kernel_rfl) (by kernel_rfl) (by kernel_rfl) (by kernel_rfl) (by kernel_rfl) (by decide)
abbrev n_spec_l1Sign : Nat := 119
theorem fn_spec_l1Sign : FnAt PP 119 (Tryz.f119.body.getD .skip) 11 [.tmp 4] := FnAt.of (fn := Tryz.f119) (by kernel_rfl) (by kernel_rfl) (by kernel_rfl) (by kernel_rfl) (by kernel_rfl) (by decide)
abbrev n_impl_named : Nat := 120
theorem fn_impl_named : FnAt PP 120 (Tryz.f120.body.getD .skip) 24 [.tmp 6] := FnAt.of (fn := Tryz.f120) (by kernel_rfl) (by kernel_rfl) (by kernel_rfl) (by kernel_rfl) (by kernel_rfl) (by decide)
abbrev n_impl_faults_1 : Nat := 121
theorem fn_impl_faults_1 : FnAt PP 121 (Tryz.f121.body.getD .skip) 11 [.tmp 4] := FnAt.of (fn := Tryz.f121) (by kernel_rfl) (by kernel_rfl) (by kernel_rfl) (by kernel_rfl) (by kernel_rfl) (by decide)
abbrev n_impl_faults_2 : Nat := 122
theorem fn_impl_faults_2 : FnAt PP 122 (Tryz.f122.body.getD .skip) 17 [.tmp 5] := FnAt.of (fn := Tryz.f122) (by kernel_rfl) (by kernel_rfl) (by kernel_rfl) (by kernel_rfl) (by kernel_rfl) (by decide)
abbrev n_slices_IndexFunc_L_string_string : Nat := 123
theorem fn_slices_IndexFunc_L_string_string : FnAt PP 123 (Tryz.f123.body.getD .skip) 19 [.tmp 4] := FnAt.of (fn := Tryz.f123) (by kernel_rfl) (by kernel_rfl) (by kernel_rfl) (by kernel_rfl) (by kernel_rfl) (by decide)
abbrev n_impl_isNameByte : Nat := 124
theorem fn_impl_isNameByte : FnAt PP 124 (Tryz.f124.body.getD .skip) 21 [.tmp 2] := FnAt.of (fn := Tryz.f124) (by kernel_rfl) (by kernel_rfl) (by kernel_rfl) (by kernel_rfl) (by kernel_rfl) (by decide)
abbrev n_slices_Index_L_string_string : Nat := 125
theorem fn_slices_Index_L_string_string : FnAt PP 125 (Tryz.f125.body.getD .skip) 19 [.tmp 4] := FnAt.of (fn := Tryz.f125) (by kernel_rfl) (by kernel_rfl) (by kernel_rfl) (by kernel_rfl) (by kernel_rfl) (by decide)
abbrev n_cmp_Or_int : Nat := 126
theorem fn_cmp_Or_int : FnAt PP 126 (Tryz.f126.body.getD .skip) 18 [.tmp 2] := FnAt.of (fn := Tryz.f126) (by kernel_rfl) (by kernel_rfl) (by kernel_rfl) (by kernel_rfl) (by kernel_rfl) (by decide)
abbrev n_cmp_Compare_int64 : Nat := 127
theorem fn_cmp_Compare_int64 : FnAt PP 127 (Tryz.f127.body.getD .skip) 20 [.tmp 4] := FnAt.of (fn := Tryz.f127) (by kernel_rfl) (by kernel_rfl) (by kernel_rfl) (by kernel_rfl) (by kernel_rfl) (by decide)
abbrev n_spec_l1Digit : Nat := 128
theorem fn_spec_l1Digit : FnAt PP 128 (Tryz.f128.body.getD .skip) 9 [.tmp 2] := FnAt.of (fn := Tryz.f128) (by kernel_rfl) (by kernel_rfl) (by kernel_rfl) (by kernel_rfl) (by kernel_rfl) (by decide)
abbrev n_cmp_isNaN_int64 : Nat := 129
theorem fn_cmp_isNaN_int64 : FnAt PP 129 (Tryz.f129.body.getD .skip) 6 [.tmp 2] := FnAt.of (fn := Tryz.f129) (by kernel_rfl) (by kernel_rfl) (by kernel_rfl) (by kernel_rfl) (by kernel_rfl) (by decide)
end Go.Proofs.YtdngjnjapihbkaaGreat
