/- The functions: their numbers, bodies, temporaries, results. Plain theorems, no condition. -/
import Derived.Test.YtdngjnjapihbkaaTab
namespace Go.Proofs.Ytdngjnjapihbkaa
open Go.Fw
noncomputable abbrev PP : Program := Try.prog
theorem tab : TabOK PP T := T_ok
abbrev n_gosem_cut_init : Nat := 2
theorem fn_gosem_cut_init : FnAt PP 2 (Try.f2.body.getD .skip) 1 [] := FnAt.of (fn := Try.f2) (by kernel_rfl) (by kernel_rfl) (by kernel_rfl) (by kernel_rfl) (by kernel_rfl) (by decide)
abbrev n_laws_FnExactUndoChanges : Nat := 3
theorem fn_laws_FnExactUndoChanges : FnAt PP 3 (Try.f3.body.getD .skip) 69 [.tmp 2] := FnAt.of (fn := Try.f3) (by kernel_rfl) (by kernel_rfl) (by kernel_rfl) (by kernel_rfl) (by kernel_rfl) (by decide)
abbrev n_laws_FnBars : Nat := 4
theorem fn_laws_FnBars : FnAt PP 4 (Try.f4.body.getD .skip) 49 [.tmp 2] := FnAt.of (fn := Try.f4) (by kernel_rfl) (by kernel_rfl) (by kernel_rfl) (by kernel_rfl) (by kernel_rfl) (by decide)
abbrev n_laws_FnExactBarredBy : Nat := 5
theorem fn_laws_FnExactBarredBy : FnAt PP 5 (Try.f5.body.getD .skip) 95 [.tmp 6] := FnAt.of (fn := Try.f5) (by kernel_rfl) (by kernel_rfl) (by kernel_rfl) (by kernel_rfl) (by kernel_rfl) (by decide)
abbrev n_laws_szChangeS : Nat := 6
theorem fn_laws_szChangeS : FnAt PP 6 (Try.f6.body.getD .skip) 27 [.tmp 4] := FnAt.of (fn := Try.f6) (by kernel_rfl) (by kernel_rfl) (by kernel_rfl) (by kernel_rfl) (by kernel_rfl) (by decide)
abbrev n_spec_UndoChanges : Nat := 7
theorem fn_spec_UndoChanges : FnAt PP 7 (Try.f7.body.getD .skip) 47 [.tmp 2] := FnAt.of (fn := Try.f7) (by kernel_rfl) (by kernel_rfl) (by kernel_rfl) (by kernel_rfl) (by kernel_rfl) (by decide)
abbrev n_laws_toChangeS : Nat := 8
theorem fn_laws_toChangeS : FnAt PP 8 (Try.f8.body.getD .skip) 23 [.tmp 2] := FnAt.of (fn := Try.f8) (by kernel_rfl) (by kernel_rfl) (by kernel_rfl) (by kernel_rfl) (by kernel_rfl) (by decide)
abbrev n_impl_UndoChanges : Nat := 9
theorem fn_impl_UndoChanges : FnAt PP 9 (Try.f9.body.getD .skip) 47 [.tmp 2] := FnAt.of (fn := Try.f9) (by kernel_rfl) (by kernel_rfl) (by kernel_rfl) (by kernel_rfl) (by kernel_rfl) (by decide)
abbrev n_laws_eqChangeS : Nat := 10
theorem fn_laws_eqChangeS : FnAt PP 10 (Try.f10.body.getD .skip) 27 [.tmp 4] := FnAt.of (fn := Try.f10) (by kernel_rfl) (by kernel_rfl) (by kernel_rfl) (by kernel_rfl) (by kernel_rfl) (by decide)
abbrev n_laws_markChangeS : Nat := 11
theorem fn_laws_markChangeS : FnAt PP 11 (Try.f11.body.getD .skip) 76 [.tmp 4] := FnAt.of (fn := Try.f11) (by kernel_rfl) (by kernel_rfl) (by kernel_rfl) (by kernel_rfl) (by kernel_rfl) (by decide)
abbrev n_laws_heldChangeS : Nat := 12
theorem fn_laws_heldChangeS : FnAt PP 12 (Try.f12.body.getD .skip) 92 [.tmp 4] := FnAt.of (fn := Try.f12) (by kernel_rfl) (by kernel_rfl) (by kernel_rfl) (by kernel_rfl) (by kernel_rfl) (by decide)
abbrev n_laws_lwBig : Nat := 13
theorem fn_laws_lwBig : FnAt PP 13 (Try.f13.body.getD .skip) 6 [.tmp 2] := FnAt.of (fn := Try.f13) (by kernel_rfl) (by kernel_rfl) (by kernel_rfl) (by kernel_rfl) (by kernel_rfl) (by decide)
abbrev n_spec_DrawConsistent : Nat := 14
theorem fn_spec_DrawConsistent : FnAt PP 14 (Try.f14.body.getD .skip) 8 [.tmp 2, .tmp 3] := FnAt.of (fn := Try.f14) (by kernel_rfl) (by kernel_rfl) (by kernel_rfl) (by kernel_rfl) (by kernel_rfl) (by decide)
abbrev n_impl_Consistent : Nat := 15
theorem fn_impl_Consistent : FnAt PP 15 (Try.f15.body.getD .skip) 14 [.tmp 4] := FnAt.of (fn := Try.f15) (by kernel_rfl) (by kernel_rfl) (by kernel_rfl) (by kernel_rfl) (by kernel_rfl) (by decide)
abbrev n_spec_Consistent : Nat := 16
theorem fn_spec_Consistent : FnAt PP 16 (Try.f16.body.getD .skip) 14 [.tmp 4] := FnAt.of (fn := Try.f16) (by kernel_rfl) (by kernel_rfl) (by kernel_rfl) (by kernel_rfl) (by kernel_rfl) (by decide)
abbrev n_impl_BarredBy : Nat := 17
theorem fn_impl_BarredBy : FnAt PP 17 (Try.f17.body.getD .skip) 28 [.cell 6 38] := FnAt.of (fn := Try.f17) (by kernel_rfl) (by kernel_rfl) (by kernel_rfl) (by kernel_rfl) (by kernel_rfl) (by decide)
abbrev n_laws_szPackS : Nat := 18
theorem fn_laws_szPackS : FnAt PP 18 (Try.f18.body.getD .skip) 27 [.tmp 4] := FnAt.of (fn := Try.f18) (by kernel_rfl) (by kernel_rfl) (by kernel_rfl) (by kernel_rfl) (by kernel_rfl) (by decide)
abbrev n_spec_BarredBy : Nat := 19
theorem fn_spec_BarredBy : FnAt PP 19 (Try.f19.body.getD .skip) 73 [.cell 6 38] := FnAt.of (fn := Try.f19) (by kernel_rfl) (by kernel_rfl) (by kernel_rfl) (by kernel_rfl) (by kernel_rfl) (by decide)
abbrev n_laws_toPackS : Nat := 20
theorem fn_laws_toPackS : FnAt PP 20 (Try.f20.body.getD .skip) 23 [.tmp 2] := FnAt.of (fn := Try.f20) (by kernel_rfl) (by kernel_rfl) (by kernel_rfl) (by kernel_rfl) (by kernel_rfl) (by decide)
abbrev n_laws_toInt64S : Nat := 21
theorem fn_laws_toInt64S : FnAt PP 21 (Try.f21.body.getD .skip) 22 [.tmp 2] := FnAt.of (fn := Try.f21) (by kernel_rfl) (by kernel_rfl) (by kernel_rfl) (by kernel_rfl) (by kernel_rfl) (by decide)
abbrev n_laws_eqSetResult : Nat := 22
theorem fn_laws_eqSetResult : FnAt PP 22 (Try.f22.body.getD .skip) 21 [.tmp 4] := FnAt.of (fn := Try.f22) (by kernel_rfl) (by kernel_rfl) (by kernel_rfl) (by kernel_rfl) (by kernel_rfl) (by decide)
abbrev n_laws_eqPackS : Nat := 23
theorem fn_laws_eqPackS : FnAt PP 23 (Try.f23.body.getD .skip) 27 [.tmp 4] := FnAt.of (fn := Try.f23) (by kernel_rfl) (by kernel_rfl) (by kernel_rfl) (by kernel_rfl) (by kernel_rfl) (by decide)
abbrev n_laws_eqInt64S : Nat := 24
theorem fn_laws_eqInt64S : FnAt PP 24 (Try.f24.body.getD .skip) 26 [.tmp 4] := FnAt.of (fn := Try.f24) (by kernel_rfl) (by kernel_rfl) (by kernel_rfl) (by kernel_rfl) (by kernel_rfl) (by decide)
abbrev n_laws_markPackS : Nat := 25
theorem fn_laws_markPackS : FnAt PP 25 (Try.f25.body.getD .skip) 73 [.tmp 4] := FnAt.of (fn := Try.f25) (by kernel_rfl) (by kernel_rfl) (by kernel_rfl) (by kernel_rfl) (by kernel_rfl) (by decide)
abbrev n_laws_markInt64S : Nat := 26
theorem fn_laws_markInt64S : FnAt PP 26 (Try.f26.body.getD .skip) 19 [.tmp 4] := FnAt.of (fn := Try.f26) (by kernel_rfl) (by kernel_rfl) (by kernel_rfl) (by kernel_rfl) (by kernel_rfl) (by decide)
abbrev n_laws_markSetResult : Nat := 27
theorem fn_laws_markSetResult : FnAt PP 27 (Try.f27.body.getD .skip) 10 [.tmp 4] := FnAt.of (fn := Try.f27) (by kernel_rfl) (by kernel_rfl) (by kernel_rfl) (by kernel_rfl) (by kernel_rfl) (by decide)
abbrev n_laws_heldSetResult : Nat := 28
theorem fn_laws_heldSetResult : FnAt PP 28 (Try.f28.body.getD .skip) 12 [.tmp 4] := FnAt.of (fn := Try.f28) (by kernel_rfl) (by kernel_rfl) (by kernel_rfl) (by kernel_rfl) (by kernel_rfl) (by decide)
abbrev n_laws_szChange : Nat := 29
theorem fn_laws_szChange : FnAt PP 29 (Try.f29.body.getD .skip) 13 [.tmp 4] := FnAt.of (fn := Try.f29) (by kernel_rfl) (by kernel_rfl) (by kernel_rfl) (by kernel_rfl) (by kernel_rfl) (by decide)
abbrev n_spec_l1In : Nat := 30
theorem fn_spec_l1In : FnAt PP 30 (Try.f30.body.getD .skip) 15 [.tmp 6] := FnAt.of (fn := Try.f30) (by kernel_rfl) (by kernel_rfl) (by kernel_rfl) (by kernel_rfl) (by kernel_rfl) (by decide)
abbrev n_laws_toChange : Nat := 31
theorem fn_laws_toChange : FnAt PP 31 (Try.f31.body.getD .skip) 19 [.cell 2 58] := FnAt.of (fn := Try.f31) (by kernel_rfl) (by kernel_rfl) (by kernel_rfl) (by kernel_rfl) (by kernel_rfl) (by decide)
abbrev n_laws_eqChange : Nat := 32
theorem fn_laws_eqChange : FnAt PP 32 (Try.f32.body.getD .skip) 27 [.tmp 4] := FnAt.of (fn := Try.f32) (by kernel_rfl) (by kernel_rfl) (by kernel_rfl) (by kernel_rfl) (by kernel_rfl) (by decide)
abbrev n_laws_markText : Nat := 33
theorem fn_laws_markText : FnAt PP 33 (Try.f33.body.getD .skip) 20 [.tmp 2] := FnAt.of (fn := Try.f33) (by kernel_rfl) (by kernel_rfl) (by kernel_rfl) (by kernel_rfl) (by kernel_rfl) (by decide)
abbrev n_spec_DrawSetFault : Nat := 34
theorem fn_spec_DrawSetFault : FnAt PP 34 (Try.f34.body.getD .skip) 15 [.tmp 2, .tmp 3] := FnAt.of (fn := Try.f34) (by kernel_rfl) (by kernel_rfl) (by kernel_rfl) (by kernel_rfl) (by kernel_rfl) (by decide)
abbrev n_impl_SetFault : Nat := 35
theorem fn_impl_SetFault : FnAt PP 35 (Try.f35.body.getD .skip) 32 [.tmp 4] := FnAt.of (fn := Try.f35) (by kernel_rfl) (by kernel_rfl) (by kernel_rfl) (by kernel_rfl) (by kernel_rfl) (by decide)
abbrev n_impl_consistent : Nat := 36
theorem fn_impl_consistent : FnAt PP 36 (Try.f36.body.getD .skip) 10 [.tmp 4] := FnAt.of (fn := Try.f36) (by kernel_rfl) (by kernel_rfl) (by kernel_rfl) (by kernel_rfl) (by kernel_rfl) (by decide)
abbrev n_spec_SetFault : Nat := 37
theorem fn_spec_SetFault : FnAt PP 37 (Try.f37.body.getD .skip) 15 [.tmp 4] := FnAt.of (fn := Try.f37) (by kernel_rfl) (by kernel_rfl) (by kernel_rfl) (by kernel_rfl) (by kernel_rfl) (by decide)
abbrev n_spec_l3Good : Nat := 38
theorem fn_spec_l3Good : FnAt PP 38 (Try.f38.body.getD .skip) 10 [.tmp 4] := FnAt.of (fn := Try.f38) (by kernel_rfl) (by kernel_rfl) (by kernel_rfl) (by kernel_rfl) (by kernel_rfl) (by decide)
abbrev n_impl_arePlaces : Nat := 39
theorem fn_impl_arePlaces : FnAt PP 39 (Try.f39.body.getD .skip) 9 [.tmp 4] := FnAt.of (fn := Try.f39) (by kernel_rfl) (by kernel_rfl) (by kernel_rfl) (by kernel_rfl) (by kernel_rfl) (by decide)
abbrev n_impl_those : Nat := 40
theorem fn_impl_those : FnAt PP 40 (Try.f40.body.getD .skip) 9 [.tmp 4] := FnAt.of (fn := Try.f40) (by kernel_rfl) (by kernel_rfl) (by kernel_rfl) (by kernel_rfl) (by kernel_rfl) (by decide)
abbrev n_impl_BarredBy_1 : Nat := 41
theorem fn_impl_BarredBy_1 : FnAt PP 41 (Try.f41.body.getD .skip) 32 [.tmp 4] := FnAt.of (fn := Try.f41) (by kernel_rfl) (by kernel_rfl) (by kernel_rfl) (by kernel_rfl) (by kernel_rfl) (by decide)
abbrev n_impl_Pack_givesOne : Nat := 42
theorem fn_impl_Pack_givesOne : FnAt PP 42 (Try.f42.body.getD .skip) 9 [.tmp 4] := FnAt.of (fn := Try.f42) (by kernel_rfl) (by kernel_rfl) (by kernel_rfl) (by kernel_rfl) (by kernel_rfl) (by decide)
abbrev n_laws_szPack : Nat := 43
theorem fn_laws_szPack : FnAt PP 43 (Try.f43.body.getD .skip) 31 [.tmp 4] := FnAt.of (fn := Try.f43) (by kernel_rfl) (by kernel_rfl) (by kernel_rfl) (by kernel_rfl) (by kernel_rfl) (by decide)
abbrev n_spec_l4BarsOne : Nat := 44
theorem fn_spec_l4BarsOne : FnAt PP 44 (Try.f44.body.getD .skip) 23 [.tmp 6] := FnAt.of (fn := Try.f44) (by kernel_rfl) (by kernel_rfl) (by kernel_rfl) (by kernel_rfl) (by kernel_rfl) (by decide)
abbrev n_laws_toPack : Nat := 45
theorem fn_laws_toPack : FnAt PP 45 (Try.f45.body.getD .skip) 27 [.cell 2 69] := FnAt.of (fn := Try.f45) (by kernel_rfl) (by kernel_rfl) (by kernel_rfl) (by kernel_rfl) (by kernel_rfl) (by decide)
abbrev n_laws_eqPack : Nat := 46
theorem fn_laws_eqPack : FnAt PP 46 (Try.f46.body.getD .skip) 39 [.tmp 4] := FnAt.of (fn := Try.f46) (by kernel_rfl) (by kernel_rfl) (by kernel_rfl) (by kernel_rfl) (by kernel_rfl) (by decide)
abbrev n_laws_markStringS : Nat := 47
theorem fn_laws_markStringS : FnAt PP 47 (Try.f47.body.getD .skip) 20 [.tmp 4] := FnAt.of (fn := Try.f47) (by kernel_rfl) (by kernel_rfl) (by kernel_rfl) (by kernel_rfl) (by kernel_rfl) (by decide)
abbrev n_laws_markTermSS : Nat := 48
theorem fn_laws_markTermSS : FnAt PP 48 (Try.f48.body.getD .skip) 19 [.tmp 4] := FnAt.of (fn := Try.f48) (by kernel_rfl) (by kernel_rfl) (by kernel_rfl) (by kernel_rfl) (by kernel_rfl) (by decide)
abbrev n_laws_markTermS : Nat := 49
theorem fn_laws_markTermS : FnAt PP 49 (Try.f49.body.getD .skip) 69 [.tmp 4] := FnAt.of (fn := Try.f49) (by kernel_rfl) (by kernel_rfl) (by kernel_rfl) (by kernel_rfl) (by kernel_rfl) (by decide)
abbrev n_laws_heldInt64S : Nat := 50
theorem fn_laws_heldInt64S : FnAt PP 50 (Try.f50.body.getD .skip) 21 [.tmp 4] := FnAt.of (fn := Try.f50) (by kernel_rfl) (by kernel_rfl) (by kernel_rfl) (by kernel_rfl) (by kernel_rfl) (by decide)
abbrev n_laws_toVersion : Nat := 51
theorem fn_laws_toVersion : FnAt PP 51 (Try.f51.body.getD .skip) 14 [.cell 2 56] := FnAt.of (fn := Try.f51) (by kernel_rfl) (by kernel_rfl) (by kernel_rfl) (by kernel_rfl) (by kernel_rfl) (by decide)
abbrev n_laws_eqVersion : Nat := 52
theorem fn_laws_eqVersion : FnAt PP 52 (Try.f52.body.getD .skip) 20 [.tmp 4] := FnAt.of (fn := Try.f52) (by kernel_rfl) (by kernel_rfl) (by kernel_rfl) (by kernel_rfl) (by kernel_rfl) (by decide)
abbrev n_spec_l3Both : Nat := 53
theorem fn_spec_l3Both : FnAt PP 53 (Try.f53.body.getD .skip) 16 [.tmp 2, .tmp 3, .tmp 4] := FnAt.of (fn := Try.f53) (by kernel_rfl) (by kernel_rfl) (by kernel_rfl) (by kernel_rfl) (by kernel_rfl) (by decide)
abbrev n_impl_CatalogFault : Nat := 54
theorem fn_impl_CatalogFault : FnAt PP 54 (Try.f54.body.getD .skip) 31 [.tmp 2] := FnAt.of (fn := Try.f54) (by kernel_rfl) (by kernel_rfl) (by kernel_rfl) (by kernel_rfl) (by kernel_rfl) (by decide)
abbrev n_impl_faults : Nat := 55
theorem fn_impl_faults : FnAt PP 55 (Try.f55.body.getD .skip) 77 [.tmp 4] := FnAt.of (fn := Try.f55) (by kernel_rfl) (by kernel_rfl) (by kernel_rfl) (by kernel_rfl) (by kernel_rfl) (by decide)
abbrev n_spec_CatalogFault : Nat := 56
theorem fn_spec_CatalogFault : FnAt PP 56 (Try.f56.body.getD .skip) 37 [.tmp 2] := FnAt.of (fn := Try.f56) (by kernel_rfl) (by kernel_rfl) (by kernel_rfl) (by kernel_rfl) (by kernel_rfl) (by decide)
abbrev n_spec_l3Set : Nat := 57
theorem fn_spec_l3Set : FnAt PP 57 (Try.f57.body.getD .skip) 37 [.tmp 4] := FnAt.of (fn := Try.f57) (by kernel_rfl) (by kernel_rfl) (by kernel_rfl) (by kernel_rfl) (by kernel_rfl) (by decide)
abbrev n_spec_l3Faults : Nat := 58
theorem fn_spec_l3Faults : FnAt PP 58 (Try.f58.body.getD .skip) 103 [.tmp 4] := FnAt.of (fn := Try.f58) (by kernel_rfl) (by kernel_rfl) (by kernel_rfl) (by kernel_rfl) (by kernel_rfl) (by decide)
abbrev n_slices_ContainsFunc_L_int64_int64 : Nat := 59
theorem fn_slices_ContainsFunc_L_int64_int64 : FnAt PP 59 (Try.f59.body.getD .skip) 9 [.tmp 4] := FnAt.of (fn := Try.f59) (by kernel_rfl) (by kernel_rfl) (by kernel_rfl) (by kernel_rfl) (by kernel_rfl) (by decide)
abbrev n_impl_arePlaces_1 : Nat := 60
theorem fn_impl_arePlaces_1 : FnAt PP 60 (Try.f60.body.getD .skip) 10 [.tmp 3] := FnAt.of (fn := Try.f60) (by kernel_rfl) (by kernel_rfl) (by kernel_rfl) (by kernel_rfl) (by kernel_rfl) (by decide)
abbrev n_impl_within : Nat := 61
theorem fn_impl_within : FnAt PP 61 (Try.f61.body.getD .skip) 15 [.tmp 6] := FnAt.of (fn := Try.f61) (by kernel_rfl) (by kernel_rfl) (by kernel_rfl) (by kernel_rfl) (by kernel_rfl) (by decide)
abbrev n_slices_DeleteFunc_L_int64_int64 : Nat := 62
theorem fn_slices_DeleteFunc_L_int64_int64 : FnAt PP 62 (Try.f62.body.getD .skip) 42 [.tmp 4] := FnAt.of (fn := Try.f62) (by kernel_rfl) (by kernel_rfl) (by kernel_rfl) (by kernel_rfl) (by kernel_rfl) (by decide)
abbrev n_slices_Clone_L_int64_int64 : Nat := 63
theorem fn_slices_Clone_L_int64_int64 : FnAt PP 63 (Try.f63.body.getD .skip) 8 [.tmp 2] := FnAt.of (fn := Try.f63) (by kernel_rfl) (by kernel_rfl) (by kernel_rfl) (by kernel_rfl) (by kernel_rfl) (by decide)
abbrev n_impl_those_1 : Nat := 64
theorem fn_impl_those_1 : FnAt PP 64 (Try.f64.body.getD .skip) 8 [.tmp 3] := FnAt.of (fn := Try.f64) (by kernel_rfl) (by kernel_rfl) (by kernel_rfl) (by kernel_rfl) (by kernel_rfl) (by decide)
abbrev n_slices_ContainsFunc_L_impl_Term_impl_Term : Nat := 65
theorem fn_slices_ContainsFunc_L_impl_Term_impl_Term : FnAt PP 65 (Try.f65.body.getD .skip) 9 [.tmp 4] := FnAt.of (fn := Try.f65) (by kernel_rfl) (by kernel_rfl) (by kernel_rfl) (by kernel_rfl) (by kernel_rfl) (by decide)
abbrev n_impl_Pack_gives : Nat := 66
theorem fn_impl_Pack_gives : FnAt PP 66 (Try.f66.body.getD .skip) 9 [.tmp 4] := FnAt.of (fn := Try.f66) (by kernel_rfl) (by kernel_rfl) (by kernel_rfl) (by kernel_rfl) (by kernel_rfl) (by decide)
abbrev n_laws_szStringS : Nat := 67
theorem fn_laws_szStringS : FnAt PP 67 (Try.f67.body.getD .skip) 28 [.tmp 4] := FnAt.of (fn := Try.f67) (by kernel_rfl) (by kernel_rfl) (by kernel_rfl) (by kernel_rfl) (by kernel_rfl) (by decide)
abbrev n_laws_szTermSS : Nat := 68
theorem fn_laws_szTermSS : FnAt PP 68 (Try.f68.body.getD .skip) 27 [.tmp 4] := FnAt.of (fn := Try.f68) (by kernel_rfl) (by kernel_rfl) (by kernel_rfl) (by kernel_rfl) (by kernel_rfl) (by decide)
abbrev n_laws_szTermS : Nat := 69
theorem fn_laws_szTermS : FnAt PP 69 (Try.f69.body.getD .skip) 27 [.tmp 4] := FnAt.of (fn := Try.f69) (by kernel_rfl) (by kernel_rfl) (by kernel_rfl) (by kernel_rfl) (by kernel_rfl) (by decide)
abbrev n_spec_l2Gives : Nat := 70
theorem fn_spec_l2Gives : FnAt PP 70 (Try.f70.body.getD .skip) 25 [.tmp 4] := FnAt.of (fn := Try.f70) (by kernel_rfl) (by kernel_rfl) (by kernel_rfl) (by kernel_rfl) (by kernel_rfl) (by decide)
abbrev n_laws_toStringS : Nat := 71
theorem fn_laws_toStringS : FnAt PP 71 (Try.f71.body.getD .skip) 22 [.tmp 2] := FnAt.of (fn := Try.f71) (by kernel_rfl) (by kernel_rfl) (by kernel_rfl) (by kernel_rfl) (by kernel_rfl) (by decide)
abbrev n_laws_toTermSS : Nat := 72
theorem fn_laws_toTermSS : FnAt PP 72 (Try.f72.body.getD .skip) 23 [.tmp 2] := FnAt.of (fn := Try.f72) (by kernel_rfl) (by kernel_rfl) (by kernel_rfl) (by kernel_rfl) (by kernel_rfl) (by decide)
abbrev n_laws_toTermS : Nat := 73
theorem fn_laws_toTermS : FnAt PP 73 (Try.f73.body.getD .skip) 23 [.tmp 2] := FnAt.of (fn := Try.f73) (by kernel_rfl) (by kernel_rfl) (by kernel_rfl) (by kernel_rfl) (by kernel_rfl) (by decide)
abbrev n_laws_eqStringS : Nat := 74
theorem fn_laws_eqStringS : FnAt PP 74 (Try.f74.body.getD .skip) 26 [.tmp 4] := FnAt.of (fn := Try.f74) (by kernel_rfl) (by kernel_rfl) (by kernel_rfl) (by kernel_rfl) (by kernel_rfl) (by decide)
abbrev n_laws_eqTermSS : Nat := 75
theorem fn_laws_eqTermSS : FnAt PP 75 (Try.f75.body.getD .skip) 27 [.tmp 4] := FnAt.of (fn := Try.f75) (by kernel_rfl) (by kernel_rfl) (by kernel_rfl) (by kernel_rfl) (by kernel_rfl) (by decide)
abbrev n_laws_eqTermS : Nat := 76
theorem fn_laws_eqTermS : FnAt PP 76 (Try.f76.body.getD .skip) 27 [.tmp 4] := FnAt.of (fn := Try.f76) (by kernel_rfl) (by kernel_rfl) (by kernel_rfl) (by kernel_rfl) (by kernel_rfl) (by decide)
abbrev n_spec_l1Source : Nat := 77
theorem fn_spec_l1Source : FnAt PP 77 (Try.f77.body.getD .skip) 6 [.tmp 2] := FnAt.of (fn := Try.f77) (by kernel_rfl) (by kernel_rfl) (by kernel_rfl) (by kernel_rfl) (by kernel_rfl) (by decide)
abbrev n_spec_l2Catalog : Nat := 78
theorem fn_spec_l2Catalog : FnAt PP 78 (Try.f78.body.getD .skip) 53 [.tmp 2] := FnAt.of (fn := Try.f78) (by kernel_rfl) (by kernel_rfl) (by kernel_rfl) (by kernel_rfl) (by kernel_rfl) (by decide)
abbrev n_spec_l3DrawSet : Nat := 79
theorem fn_spec_l3DrawSet : FnAt PP 79 (Try.f79.body.getD .skip) 73 [.tmp 4] := FnAt.of (fn := Try.f79) (by kernel_rfl) (by kernel_rfl) (by kernel_rfl) (by kernel_rfl) (by kernel_rfl) (by decide)
abbrev n_impl_PackFault : Nat := 80
theorem fn_impl_PackFault : FnAt PP 80 (Try.f80.body.getD .skip) 93 [.tmp 2] := FnAt.of (fn := Try.f80) (by kernel_rfl) (by kernel_rfl) (by kernel_rfl) (by kernel_rfl) (by kernel_rfl) (by decide)
abbrev n_impl_find : Nat := 81
theorem fn_impl_find : FnAt PP 81 (Try.f81.body.getD .skip) 10 [.tmp 6] := FnAt.of (fn := Try.f81) (by kernel_rfl) (by kernel_rfl) (by kernel_rfl) (by kernel_rfl) (by kernel_rfl) (by decide)
abbrev n_impl_named : Nat := 82
theorem fn_impl_named : FnAt PP 82 (Try.f82.body.getD .skip) 24 [.tmp 6] := FnAt.of (fn := Try.f82) (by kernel_rfl) (by kernel_rfl) (by kernel_rfl) (by kernel_rfl) (by kernel_rfl) (by decide)
abbrev n_impl_faults_1 : Nat := 83
theorem fn_impl_faults_1 : FnAt PP 83 (Try.f83.body.getD .skip) 11 [.tmp 4] := FnAt.of (fn := Try.f83) (by kernel_rfl) (by kernel_rfl) (by kernel_rfl) (by kernel_rfl) (by kernel_rfl) (by decide)
abbrev n_impl_faults_2 : Nat := 84
theorem fn_impl_faults_2 : FnAt PP 84 (Try.f84.body.getD .skip) 17 [.tmp 5] := FnAt.of (fn := Try.f84) (by kernel_rfl) (by kernel_rfl) (by kernel_rfl) (by kernel_rfl) (by kernel_rfl) (by decide)
abbrev n_spec_PackFault : Nat := 85
theorem fn_spec_PackFault : FnAt PP 85 (Try.f85.body.getD .skip) 118 [.tmp 2] := FnAt.of (fn := Try.f85) (by kernel_rfl) (by kernel_rfl) (by kernel_rfl) (by kernel_rfl) (by kernel_rfl) (by decide)
abbrev n_spec_l2Find : Nat := 86
theorem fn_spec_l2Find : FnAt PP 86 (Try.f86.body.getD .skip) 32 [.tmp 6] := FnAt.of (fn := Try.f86) (by kernel_rfl) (by kernel_rfl) (by kernel_rfl) (by kernel_rfl) (by kernel_rfl) (by decide)
abbrev n_spec_l3Met : Nat := 87
theorem fn_spec_l3Met : FnAt PP 87 (Try.f87.body.getD .skip) 21 [.tmp 6] := FnAt.of (fn := Try.f87) (by kernel_rfl) (by kernel_rfl) (by kernel_rfl) (by kernel_rfl) (by kernel_rfl) (by decide)
abbrev n_spec_l3Given : Nat := 88
theorem fn_spec_l3Given : FnAt PP 88 (Try.f88.body.getD .skip) 33 [.tmp 8] := FnAt.of (fn := Try.f88) (by kernel_rfl) (by kernel_rfl) (by kernel_rfl) (by kernel_rfl) (by kernel_rfl) (by decide)
abbrev n_slices_IndexFunc_L_int64_int64 : Nat := 89
theorem fn_slices_IndexFunc_L_int64_int64 : FnAt PP 89 (Try.f89.body.getD .skip) 19 [.tmp 4] := FnAt.of (fn := Try.f89) (by kernel_rfl) (by kernel_rfl) (by kernel_rfl) (by kernel_rfl) (by kernel_rfl) (by decide)
abbrev n_slices_IndexFunc_L_impl_Term_impl_Term : Nat := 90
theorem fn_slices_IndexFunc_L_impl_Term_impl_Term : FnAt PP 90 (Try.f90.body.getD .skip) 19 [.tmp 4] := FnAt.of (fn := Try.f90) (by kernel_rfl) (by kernel_rfl) (by kernel_rfl) (by kernel_rfl) (by kernel_rfl) (by decide)
abbrev n_slices_ContainsFunc_L_string_string : Nat := 91
theorem fn_slices_ContainsFunc_L_string_string : FnAt PP 91 (Try.f91.body.getD .skip) 9 [.tmp 4] := FnAt.of (fn := Try.f91) (by kernel_rfl) (by kernel_rfl) (by kernel_rfl) (by kernel_rfl) (by kernel_rfl) (by decide)
abbrev n_impl_Pack_names : Nat := 92
theorem fn_impl_Pack_names : FnAt PP 92 (Try.f92.body.getD .skip) 9 [.tmp 2] := FnAt.of (fn := Try.f92) (by kernel_rfl) (by kernel_rfl) (by kernel_rfl) (by kernel_rfl) (by kernel_rfl) (by decide)
abbrev n_impl_Pack_gives_1 : Nat := 93
theorem fn_impl_Pack_gives_1 : FnAt PP 93 (Try.f93.body.getD .skip) 10 [.tmp 4] := FnAt.of (fn := Try.f93) (by kernel_rfl) (by kernel_rfl) (by kernel_rfl) (by kernel_rfl) (by kernel_rfl) (by decide)
abbrev n_impl_Term_has : Nat := 94
theorem fn_impl_Term_has : FnAt PP 94 (Try.f94.body.getD .skip) 25 [.tmp 6] := FnAt.of (fn := Try.f94) (by kernel_rfl) (by kernel_rfl) (by kernel_rfl) (by kernel_rfl) (by kernel_rfl) (by decide)
abbrev n_laws_szTerm : Nat := 95
theorem fn_laws_szTerm : FnAt PP 95 (Try.f95.body.getD .skip) 13 [.tmp 4] := FnAt.of (fn := Try.f95) (by kernel_rfl) (by kernel_rfl) (by kernel_rfl) (by kernel_rfl) (by kernel_rfl) (by decide)
abbrev n_spec_l2Holds : Nat := 96
theorem fn_spec_l2Holds : FnAt PP 96 (Try.f96.body.getD .skip) 18 [.tmp 4] := FnAt.of (fn := Try.f96) (by kernel_rfl) (by kernel_rfl) (by kernel_rfl) (by kernel_rfl) (by kernel_rfl) (by decide)
abbrev n_spec_l1InTerm : Nat := 97
theorem fn_spec_l1InTerm : FnAt PP 97 (Try.f97.body.getD .skip) 25 [.tmp 6] := FnAt.of (fn := Try.f97) (by kernel_rfl) (by kernel_rfl) (by kernel_rfl) (by kernel_rfl) (by kernel_rfl) (by decide)
abbrev n_laws_toTerm : Nat := 98
theorem fn_laws_toTerm : FnAt PP 98 (Try.f98.body.getD .skip) 16 [.cell 2 94] := FnAt.of (fn := Try.f98) (by kernel_rfl) (by kernel_rfl) (by kernel_rfl) (by kernel_rfl) (by kernel_rfl) (by decide)
abbrev n_laws_eqTerm : Nat := 99
theorem fn_laws_eqTerm : FnAt PP 99 (Try.f99.body.getD .skip) 22 [.tmp 4] := FnAt.of (fn := Try.f99) (by kernel_rfl) (by kernel_rfl) (by kernel_rfl) (by kernel_rfl) (by kernel_rfl) (by decide)
abbrev n_spec_l1Pick : Nat := 100
theorem fn_spec_l1Pick : FnAt PP 100 (Try.f100.body.getD .skip) 12 [.tmp 4] := FnAt.of (fn := Try.f100) (by kernel_rfl) (by kernel_rfl) (by kernel_rfl) (by kernel_rfl) (by kernel_rfl) (by decide)
abbrev n_spec_l1Next : Nat := 101
theorem fn_spec_l1Next : FnAt PP 101 (Try.f101.body.getD .skip) 71 [.tmp 4] := FnAt.of (fn := Try.f101) (by kernel_rfl) (by kernel_rfl) (by kernel_rfl) (by kernel_rfl) (by kernel_rfl) (by decide)
abbrev n_spec_l2Pack : Nat := 102
theorem fn_spec_l2Pack : FnAt PP 102 (Try.f102.body.getD .skip) 63 [.cell 2 69] := FnAt.of (fn := Try.f102) (by kernel_rfl) (by kernel_rfl) (by kernel_rfl) (by kernel_rfl) (by kernel_rfl) (by decide)
abbrev n_spec_l2BentPack : Nat := 103
theorem fn_spec_l2BentPack : FnAt PP 103 (Try.f103.body.getD .skip) 76 [.cell 2 69] := FnAt.of (fn := Try.f103) (by kernel_rfl) (by kernel_rfl) (by kernel_rfl) (by kernel_rfl) (by kernel_rfl) (by decide)
abbrev n_spec_l1Chance : Nat := 104
theorem fn_spec_l1Chance : FnAt PP 104 (Try.f104.body.getD .skip) 9 [.tmp 4] := FnAt.of (fn := Try.f104) (by kernel_rfl) (by kernel_rfl) (by kernel_rfl) (by kernel_rfl) (by kernel_rfl) (by decide)
abbrev n_impl_firstCode : Nat := 105
theorem fn_impl_firstCode : FnAt PP 105 (Try.f105.body.getD .skip) 15 [.tmp 2] := FnAt.of (fn := Try.f105) (by kernel_rfl) (by kernel_rfl) (by kernel_rfl) (by kernel_rfl) (by kernel_rfl) (by decide)
abbrev n_impl_NameFault : Nat := 106
theorem fn_impl_NameFault : FnAt PP 106 (Try.f106.body.getD .skip) 33 [.tmp 2] := FnAt.of (fn := Try.f106) (by kernel_rfl) (by kernel_rfl) (by kernel_rfl) (by kernel_rfl) (by kernel_rfl) (by decide)
abbrev n_impl_VersionFault : Nat := 107
theorem fn_impl_VersionFault : FnAt PP 107 (Try.f107.body.getD .skip) 19 [.tmp 2] := FnAt.of (fn := Try.f107) (by kernel_rfl) (by kernel_rfl) (by kernel_rfl) (by kernel_rfl) (by kernel_rfl) (by decide)
abbrev n_slices_ContainsFunc_L_L_impl_Term_L_impl_Term : Nat := 108
theorem fn_slices_ContainsFunc_L_L_impl_Term_L_impl_Term : FnAt PP 108 (Try.f108.body.getD .skip) 9 [.tmp 4] := FnAt.of (fn := Try.f108) (by kernel_rfl) (by kernel_rfl) (by kernel_rfl) (by kernel_rfl) (by kernel_rfl) (by decide)
abbrev n_impl_PackFault_1 : Nat := 109
theorem fn_impl_PackFault_1 : FnAt PP 109 (Try.f109.body.getD .skip) 6 [.tmp 2] := FnAt.of (fn := Try.f109) (by kernel_rfl) (by kernel_rfl) (by kernel_rfl) (by kernel_rfl) (by kernel_rfl) (by decide)
abbrev n_slices_Contains_L_string_string : Nat := 110
theorem fn_slices_Contains_L_string_string : FnAt PP 110 (Try.f110.body.getD .skip) 9 [.tmp 4] := FnAt.of (fn := Try.f110) (by kernel_rfl) (by kernel_rfl) (by kernel_rfl) (by kernel_rfl) (by kernel_rfl) (by decide)
abbrev n_impl_termsFault : Nat := 111
theorem fn_impl_termsFault : FnAt PP 111 (Try.f111.body.getD .skip) 18 [.tmp 2] := FnAt.of (fn := Try.f111) (by kernel_rfl) (by kernel_rfl) (by kernel_rfl) (by kernel_rfl) (by kernel_rfl) (by decide)
abbrev n_slices_IndexFunc_L_impl_Pack_impl_Pack : Nat := 112
theorem fn_slices_IndexFunc_L_impl_Pack_impl_Pack : FnAt PP 112 (Try.f112.body.getD .skip) 19 [.tmp 4] := FnAt.of (fn := Try.f112) (by kernel_rfl) (by kernel_rfl) (by kernel_rfl) (by kernel_rfl) (by kernel_rfl) (by decide)
abbrev n_impl_find_1 : Nat := 113
theorem fn_impl_find_1 : FnAt PP 113 (Try.f113.body.getD .skip) 15 [.tmp 4] := FnAt.of (fn := Try.f113) (by kernel_rfl) (by kernel_rfl) (by kernel_rfl) (by kernel_rfl) (by kernel_rfl) (by decide)
abbrev n_spec_NameFault : Nat := 114
theorem fn_spec_NameFault : FnAt PP 114 (Try.f114.body.getD .skip) 29 [.tmp 2] := FnAt.of (fn := Try.f114) (by kernel_rfl) (by kernel_rfl) (by kernel_rfl) (by kernel_rfl) (by kernel_rfl) (by decide)
abbrev n_spec_VersionFault : Nat := 115
theorem fn_spec_VersionFault : FnAt PP 115 (Try.f115.body.getD .skip) 19 [.tmp 2] := FnAt.of (fn := Try.f115) (by kernel_rfl) (by kernel_rfl) (by kernel_rfl) (by kernel_rfl) (by kernel_rfl) (by decide)
abbrev n_spec_l2Terms : Nat := 116
theorem fn_spec_l2Terms : FnAt PP 116 (Try.f116.body.getD .skip) 19 [.tmp 2] := FnAt.of (fn := Try.f116) (by kernel_rfl) (by kernel_rfl) (by kernel_rfl) (by kernel_rfl) (by kernel_rfl) (by decide)
abbrev n_spec_CompareVersions : Nat := 117
theorem fn_spec_CompareVersions : FnAt PP 117 (Try.f117.body.getD .skip) 28 [.tmp 4] := FnAt.of (fn := Try.f117) (by kernel_rfl) (by kernel_rfl) (by kernel_rfl) (by kernel_rfl) (by kernel_rfl) (by decide)
abbrev n_slices_IndexFunc_L_string_string : Nat := 118
theorem fn_slices_IndexFunc_L_string_string : FnAt PP 118 (Try.f118.body.getD .skip) 19 [.tmp 4] := FnAt.of (fn := Try.f118) (by kernel_rfl) (by kernel_rfl) (by kernel_rfl) (by kernel_rfl) (by kernel_rfl) (by decide)
abbrev n_impl_compare : Nat := 119
theorem fn_impl_compare : FnAt PP 119 (Try.f119.body.getD .skip) 22 [.tmp 4] := FnAt.of (fn := Try.f119) (by kernel_rfl) (by kernel_rfl) (by kernel_rfl) (by kernel_rfl) (by kernel_rfl) (by decide)
abbrev n_spec_l1DrawName : Nat := 120
theorem fn_spec_l1DrawName : FnAt PP 120 (Try.f120.body.getD .skip) 8 [.tmp 2] := FnAt.of (fn := Try.f120) (by kernel_rfl) (by kernel_rfl) (by kernel_rfl) (by kernel_rfl) (by kernel_rfl) (by decide)
abbrev n_spec_l1Term : Nat := 121
theorem fn_spec_l1Term : FnAt PP 121 (Try.f121.body.getD .skip) 24 [.cell 2 94] := FnAt.of (fn := Try.f121) (by kernel_rfl) (by kernel_rfl) (by kernel_rfl) (by kernel_rfl) (by kernel_rfl) (by decide)
abbrev n_spec_AnyTerm : Nat := 122
theorem fn_spec_AnyTerm : FnAt PP 122 (Try.f122.body.getD .skip) 6 [.cell 2 94] := FnAt.of (fn := Try.f122) (by kernel_rfl) (by kernel_rfl) (by kernel_rfl) (by kernel_rfl) (by kernel_rfl) (by decide)
abbrev n_spec_l1BentName : Nat := 123
theorem fn_spec_l1BentName : FnAt PP 123 (Try.f123.body.getD .skip) 12 [.tmp 2] := FnAt.of (fn := Try.f123) (by kernel_rfl) (by kernel_rfl) (by kernel_rfl) (by kernel_rfl) (by kernel_rfl) (by decide)
abbrev n_spec_l1BentVersion : Nat := 124
theorem fn_spec_l1BentVersion : FnAt PP 124 (Try.f124.body.getD .skip) 27 [.cell 2 56] := FnAt.of (fn := Try.f124) (by kernel_rfl) (by kernel_rfl) (by kernel_rfl) (by kernel_rfl) (by kernel_rfl) (by decide)
abbrev n_spec_l1BentTerm : Nat := 125
theorem fn_spec_l1BentTerm : FnAt PP 125 (Try.f125.body.getD .skip) 29 [.cell 2 94] := FnAt.of (fn := Try.f125) (by kernel_rfl) (by kernel_rfl) (by kernel_rfl) (by kernel_rfl) (by kernel_rfl) (by decide)
abbrev n_impl_isNameByte : Nat := 126
theorem fn_impl_isNameByte : FnAt PP 126 (Try.f126.body.getD .skip) 21 [.tmp 2] := FnAt.of (fn := Try.f126) (by kernel_rfl) (by kernel_rfl) (by kernel_rfl) (by kernel_rfl) (by kernel_rfl) (by decide)
abbrev n_slices_IndexFunc_L_L_impl_Term_L_impl_Term : Nat := 127
theorem fn_slices_IndexFunc_L_L_impl_Term_L_impl_Term : FnAt PP 127 (Try.f127.body.getD .skip) 19 [.tmp 4] := FnAt.of (fn := Try.f127) (by kernel_rfl) (by kernel_rfl) (by kernel_rfl) (by kernel_rfl) (by kernel_rfl) (by decide)
abbrev n_slices_Index_L_string_string : Nat := 128
theorem fn_slices_Index_L_string_string : FnAt PP 128 (Try.f128.body.getD .skip) 19 [.tmp 4] := FnAt.of (fn := Try.f128) (by kernel_rfl) (by kernel_rfl) (by kernel_rfl) (by kernel_rfl) (by kernel_rfl) (by decide)
abbrev n_impl_TermFault : Nat := 129
theorem fn_impl_TermFault : FnAt PP 129 (Try.f129.body.getD .skip) 35 [.tmp 2] := FnAt.of (fn := Try.f129) (by kernel_rfl) (by kernel_rfl) (by kernel_rfl) (by kernel_rfl) (by kernel_rfl) (by decide)
abbrev n_spec_l1Letter : Nat := 130
theorem fn_spec_l1Letter : FnAt PP 130 (Try.f130.body.getD .skip) 9 [.tmp 2] := FnAt.of (fn := Try.f130) (by kernel_rfl) (by kernel_rfl) (by kernel_rfl) (by kernel_rfl) (by kernel_rfl) (by decide)
abbrev n_spec_l1Name : Nat := 131
theorem fn_spec_l1Name : FnAt PP 131 (Try.f131.body.getD .skip) 13 [.tmp 2] := FnAt.of (fn := Try.f131) (by kernel_rfl) (by kernel_rfl) (by kernel_rfl) (by kernel_rfl) (by kernel_rfl) (by decide)
abbrev n_spec_TermFault : Nat := 132
theorem fn_spec_TermFault : FnAt PP 132 (Try.f132.body.getD .skip) 33 [.tmp 2] := FnAt.of (fn := Try.f132) (by kernel_rfl) (by kernel_rfl) (by kernel_rfl) (by kernel_rfl) (by kernel_rfl) (by decide)
abbrev n_spec_l1Sign : Nat := 133
theorem fn_spec_l1Sign : FnAt PP 133 (Try.f133.body.getD .skip) 11 [.tmp 4] := FnAt.of (fn := Try.f133) (by kernel_rfl) (by kernel_rfl) (by kernel_rfl) (by kernel_rfl) (by kernel_rfl) (by decide)
abbrev n_cmp_Or_int : Nat := 134
theorem fn_cmp_Or_int : FnAt PP 134 (Try.f134.body.getD .skip) 18 [.tmp 2] := FnAt.of (fn := Try.f134) (by kernel_rfl) (by kernel_rfl) (by kernel_rfl) (by kernel_rfl) (by kernel_rfl) (by decide)
abbrev n_cmp_Compare_int64 : Nat := 135
theorem fn_cmp_Compare_int64 : FnAt PP 135 (Try.f135.body.getD .skip) 20 [.tmp 4] := FnAt.of (fn := Try.f135) (by kernel_rfl) (by kernel_rfl) (by kernel_rfl) (by kernel_rfl) (by kernel_rfl) (by decide)
abbrev n_spec_l1Version : Nat := 136
theorem fn_spec_l1Version : FnAt PP 136 (Try.f136.body.getD .skip) 16 [.cell 2 56] := FnAt.of (fn := Try.f136) (by kernel_rfl) (by kernel_rfl) (by kernel_rfl) (by kernel_rfl) (by kernel_rfl) (by decide)
abbrev n_spec_l1Top : Nat := 137
theorem fn_spec_l1Top : FnAt PP 137 (Try.f137.body.getD .skip) 2 [.cell 0 56] := FnAt.of (fn := Try.f137) (by kernel_rfl) (by kernel_rfl) (by kernel_rfl) (by kernel_rfl) (by kernel_rfl) (by decide)
abbrev n_impl_top : Nat := 138
theorem fn_impl_top : FnAt PP 138 (Try.f138.body.getD .skip) 2 [.cell 0 56] := FnAt.of (fn := Try.f138) (by kernel_rfl) (by kernel_rfl) (by kernel_rfl) (by kernel_rfl) (by kernel_rfl) (by decide)
abbrev n_spec_l1Digit : Nat := 139
theorem fn_spec_l1Digit : FnAt PP 139 (Try.f139.body.getD .skip) 9 [.tmp 2] := FnAt.of (fn := Try.f139) (by kernel_rfl) (by kernel_rfl) (by kernel_rfl) (by kernel_rfl) (by kernel_rfl) (by decide)
abbrev n_cmp_isNaN_int64 : Nat := 140
theorem fn_cmp_isNaN_int64 : FnAt PP 140 (Try.f140.body.getD .skip) 6 [.tmp 2] := FnAt.of (fn := Try.f140) (by kernel_rfl) (by kernel_rfl) (by kernel_rfl) (by kernel_rfl) (by kernel_rfl) (by decide)
end Go.Proofs.Ytdngjnjapihbkaa
