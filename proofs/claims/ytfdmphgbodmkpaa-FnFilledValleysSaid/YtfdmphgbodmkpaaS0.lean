/- The S-forms of this seat's functions, printed by a program (gen.py) and held against the code by the kernel. -/
import Derived.Test.YtfdmphgbodmkpaaPrim6
import Derived.Test.YtfdmphgbodmkpaaChecked
import Derived.KernelRfl
set_option linter.unusedVariables false
set_option linter.unusedSimpArgs false
namespace Go.Proofs.Ytfdmphgbodmkpaa
open Go Go.SL
set_option maxRecDepth 100000
noncomputable abbrev Pg : Program := Try.prog
theorem mixed : Pg.follows .mixedOrders = true := by kernel_rfl
abbrev ty_int64 : TypeId := 2
abbrev ty_int : TypeId := 3
abbrev ty_bool : TypeId := 4
abbrev ty_uint8 : TypeId := 5
abbrev ty_abi_BoundsErrorCode : TypeId := 6
abbrev ty_runtime_boundsError : TypeId := 8
abbrev ty_string : TypeId := 9
abbrev ty_runtime_errorString : TypeId := 10
abbrev ty_runtime_plainError : TypeId := 11
abbrev ty_uintptr : TypeId := 12
abbrev ty_runtime_errorAddressString : TypeId := 14
abbrev ty_Pruntime_TypeAssertionError : TypeId := 15
abbrev ty_Pruntime_PanicNilError : TypeId := 16
abbrev ty_Pabi_Type : TypeId := 17
abbrev ty_maps_unhashableTypeError : TypeId := 19
abbrev ty_int32 : TypeId := 21
abbrev ty_Suint8 : TypeId := 22
abbrev ty_SSint64 : TypeId := 24
abbrev ty_impl_Grey : TypeId := 26
abbrev ty_Sint64 : TypeId := 34
abbrev ty_impl_Spot : TypeId := 39
abbrev ty_laws_Grey : TypeId := 44
abbrev ty_Pspec_l00Src : TypeId := 52
abbrev ty_SPimpl_valley : TypeId := 60
abbrev ty_Pimpl_valley : TypeId := 62
abbrev ty_Simpl_Spot : TypeId := 63
abbrev ty_impl_valley : TypeId := 65
abbrev ty_Pimpl_Grey : TypeId := 71
abbrev ty_Sspec_l09Valley : TypeId := 76
abbrev ty_spec_l09Valley : TypeId := 80
abbrev ty_uint64 : TypeId := 83
abbrev ty_spec_l00Src : TypeId := 85
abbrev ty_Pimpl_image : TypeId := 91
abbrev ty_M_impl_Spot_Pimpl_valley : TypeId := 97
abbrev ty_M_Pimpl_valley_int : TypeId := 98
abbrev ty_M_impl_Spot_int64 : TypeId := 104
abbrev ty_uint : TypeId := 112
abbrev ty_Sbool : TypeId := 116
abbrev ty_impl_image : TypeId := 118
abbrev ty_M_impl_Spot_bool : TypeId := 127
abbrev ty_slices_sortedHint : TypeId := 135
abbrev ty_uint32 : TypeId := 143
abbrev ty_slices_xorshift : TypeId := 145
abbrev ty_Pint : TypeId := 149
abbrev ty_Pslices_xorshift : TypeId := 151
abbrev ty_runtime_TypeAssertionError : TypeId := 156
abbrev ty_0_Pruntime_PanicNilError : TypeId := 157
abbrev ty_runtime_PanicNilError : TypeId := 159
abbrev ty_abi_TFlag : TypeId := 161
abbrev ty_abi_Kind : TypeId := 162
abbrev ty_Puint8 : TypeId := 164
abbrev ty_abi_NameOff : TypeId := 165
abbrev ty_abi_TypeOff : TypeId := 166
abbrev ty_abi_Type : TypeId := 168
abbrev ty_unsafe_Pointer : TypeId := 170
abbrev n_main_main : FuncId := 0
abbrev n_gosem_cut : FuncId := 1
abbrev n_gosem_cut_init : FuncId := 2
abbrev n_laws_FnFilledValleys : FuncId := 3
abbrev n_laws_FnValleys : FuncId := 4
abbrev n_laws_FnExactValleysOf : FuncId := 5
abbrev n_laws_FnExactSameValleys : FuncId := 6
abbrev n_laws_FnExactFillValleys : FuncId := 7
abbrev n_laws_b10Long : FuncId := 8
abbrev n_spec_B10Grey : FuncId := 9
abbrev n_laws_b10At : FuncId := 10
abbrev n_impl_FillValleys : FuncId := 11
abbrev n_impl_ValleysOf : FuncId := 12
abbrev n_laws_b10Tables : FuncId := 13
abbrev n_laws_b10Shape : FuncId := 14
abbrev n_laws_b10Nums : FuncId := 15
abbrev n_impl_DepthAt : FuncId := 16
abbrev n_impl_LevelCounts : FuncId := 17
abbrev n_impl_SameValleys : FuncId := 18
abbrev n_impl_CountBelow : FuncId := 19
abbrev n_laws_szGrey : FuncId := 20
abbrev n_spec_ValleysOf : FuncId := 21
abbrev n_laws_toGrey : FuncId := 22
abbrev n_laws_eqInt64SS : FuncId := 23
abbrev n_laws_eqGrey : FuncId := 24
abbrev n_laws_markGrey : FuncId := 25
abbrev n_laws_markInt64SS : FuncId := 26
abbrev n_laws_heldInt64SS : FuncId := 27
abbrev n_spec_SameValleys : FuncId := 28
abbrev n_spec_FillValleys : FuncId := 29
abbrev n_laws_heldGrey : FuncId := 30
abbrev n_l00From : FuncId := 31
abbrev n_l00Src_pick : FuncId := 32
abbrev n_l07DrawSized : FuncId := 33
abbrev n_impl_ValidGrey : FuncId := 34
abbrev n_in : FuncId := 35
abbrev n_Grey_remade : FuncId := 36
abbrev n_Grey_at : FuncId := 37
abbrev n_Grey_valleys : FuncId := 38
abbrev n_Grey_lasting : FuncId := 39
abbrev n_Grey_has : FuncId := 40
abbrev n_Grey_heights : FuncId := 41
abbrev n_Grey_spots : FuncId := 42
abbrev n_Grey_below : FuncId := 43
abbrev n_sameLists : FuncId := 44
abbrev n_laws_szInt64SS : FuncId := 45
abbrev n_l07Is : FuncId := 46
abbrev n_l09Pairs : FuncId := 47
abbrev n_laws_toInt64SS : FuncId := 48
abbrev n_laws_eqInt64S : FuncId := 49
abbrev n_laws_markInt64S : FuncId := 50
abbrev n_laws_heldInt64S : FuncId := 51
abbrev n_l00Same : FuncId := 52
abbrev n_l00In : FuncId := 53
abbrev n_l07List : FuncId := 54
abbrev n_l09Valleys : FuncId := 55
abbrev n_l07Width : FuncId := 56
abbrev n_l00Max : FuncId := 57
abbrev n_l07Rows : FuncId := 58
abbrev n_l00Src_next : FuncId := 59
abbrev n_l00Src_one : FuncId := 60
abbrev n_rowsOk : FuncId := 61
abbrev n_Grey_sizes : FuncId := 62
abbrev n_blank : FuncId := 63
abbrev n_image_grid : FuncId := 64
abbrev n_Grey_remade_1 : FuncId := 65
abbrev n_slices_SortStableFunc_impl_Spot_impl_Spot : FuncId := 66
abbrev n_Grey_valleys_1 : FuncId := 67
abbrev n_cmp_Compare_int64 : FuncId := 68
abbrev n_around : FuncId := 69
abbrev n_slices_Contains_impl_valley_impl_valley : FuncId := 70
abbrev n_Grey_place : FuncId := 71
abbrev n_slices_SortFunc_impl_valley_impl_valley : FuncId := 72
abbrev n_Grey_valleys_2 : FuncId := 73
abbrev n_cmp_Compare_int : FuncId := 74
abbrev n_Grey_heights_1 : FuncId := 75
abbrev n_made : FuncId := 76
abbrev n_Grey_below_1 : FuncId := 77
abbrev n_image_labels : FuncId := 78
abbrev n_slices_EqualFunc_int64_int64_int64_int64 : FuncId := 79
abbrev n_sameLists_1 : FuncId := 80
abbrev n_slices_Equal_int64_int64 : FuncId := 81
abbrev n_laws_szInt64S : FuncId := 82
abbrev n_l07Table : FuncId := 83
abbrev n_laws_toInt64S : FuncId := 84
abbrev n_l09Near : FuncId := 85
abbrev n_l00Own : FuncId := 86
abbrev n_sizeOk : FuncId := 87
abbrev n_slices_ContainsFunc_int64_int64 : FuncId := 88
abbrev n_rowsOk_1 : FuncId := 89
abbrev n_slices_ContainsFunc_int64_int64_90 : FuncId := 90
abbrev n_rowsOk_1_1 : FuncId := 91
abbrev n_slices_stableCmpFunc_impl_Spot : FuncId := 92
abbrev n_cmp_isNaN_int64 : FuncId := 93
abbrev n_slices_Index_impl_valley_impl_valley : FuncId := 94
abbrev n_slices_pdqsortCmpFunc_impl_valley : FuncId := 95
abbrev n_math_bits_Len : FuncId := 96
abbrev n_cmp_isNaN_int : FuncId := 97
abbrev n_image_each : FuncId := 98
abbrev n_made_1 : FuncId := 99
abbrev n_image_set : FuncId := 100
abbrev n_image_spots : FuncId := 101
abbrev n_spread : FuncId := 102
abbrev n_image_labels_1 : FuncId := 103
abbrev n_image_get : FuncId := 104
abbrev n_l01Side : FuncId := 105
abbrev n_l03Steps : FuncId := 106
abbrev n_slices_IndexFunc_int64_int64 : FuncId := 107
abbrev n_slices_IndexFunc_int64_int64_108 : FuncId := 108
abbrev n_slices_insertionSortCmpFunc_impl_Spot : FuncId := 109
abbrev n_slices_symMergeCmpFunc_impl_Spot : FuncId := 110
abbrev n_slices_insertionSortCmpFunc_impl_valley : FuncId := 111
abbrev n_slices_heapSortCmpFunc_impl_valley : FuncId := 112
abbrev n_slices_breakPatternsCmpFunc_impl_valley : FuncId := 113
abbrev n_slices_choosePivotCmpFunc_impl_valley : FuncId := 114
abbrev n_slices_reverseRangeCmpFunc_impl_valley : FuncId := 115
abbrev n_slices_partialInsertionSortCmpFunc_impl_valley : FuncId := 116
abbrev n_slices_partitionEqualCmpFunc_impl_valley : FuncId := 117
abbrev n_slices_partitionCmpFunc_impl_valley : FuncId := 118
abbrev n_math_bits_Len32 : FuncId := 119
abbrev n_math_bits_Len64 : FuncId := 120
abbrev n_image_spots_1 : FuncId := 121
abbrev n_image_has : FuncId := 122
abbrev n_slices_rotateCmpFunc_impl_Spot : FuncId := 123
abbrev n_slices_siftDownCmpFunc_impl_valley : FuncId := 124
abbrev n_slices_nextPowerOfTwo : FuncId := 125
abbrev n_xorshift_Next : FuncId := 126
abbrev n_slices_medianAdjacentCmpFunc_impl_valley : FuncId := 127
abbrev n_slices_medianCmpFunc_impl_valley : FuncId := 128
abbrev n_slices_swapRangeCmpFunc_impl_Spot : FuncId := 129
abbrev n_slices_order2CmpFunc_impl_valley : FuncId := 130
abbrev n_boundsError_Error : FuncId := 131
abbrev n_boundsError_RuntimeError : FuncId := 132
abbrev n_errorString_Error : FuncId := 133
abbrev n_errorString_RuntimeError : FuncId := 134
abbrev n_plainError_Error : FuncId := 135
abbrev n_plainError_RuntimeError : FuncId := 136
abbrev n_errorAddressString_Error : FuncId := 137
abbrev n_errorAddressString_RuntimeError : FuncId := 138
abbrev n_TypeAssertionError_Error : FuncId := 139
abbrev n_TypeAssertionError_RuntimeError : FuncId := 140
abbrev n_PanicNilError_Error : FuncId := 141
abbrev n_PanicNilError_RuntimeError : FuncId := 142
abbrev n_Type_Align : FuncId := 143
abbrev n_unhashableTypeError_Error : FuncId := 144
abbrev n_unhashableTypeError_RuntimeError : FuncId := 145
abbrev n_Spot_plus : FuncId := 146
abbrev n_Grey_greys : FuncId := 147
abbrev n_image_count : FuncId := 148
abbrev n_Kind_String : FuncId := 149
-- loop.example/g01165/laws.FnFilledValleys
def ann_laws_FnFilledValleys : Ann :=
  (.seq none (.reg [⟨none, [], [0]⟩] [])
  (.seq none (.seq none (.reg [⟨none, [], [0, 1, 2]⟩] [])
  (.cond (.seq none (.reg [⟨none, [], [0]⟩] [])
  .leaf)
  .leaf))
  (.seq none (.reg [⟨none, [], [0, 1, 2, 3]⟩] [])
  (.seq none (.reg [⟨none, [], [0, 1, 2]⟩] [])
  (.seq none (.reg [⟨none, [], [0, 1, 2, 3, 4, 5, 6, 7, 8]⟩] [])
  (.seq none (.reg [⟨none, [], [0, 1, 2, 3, 4, 5, 6, 7, 8]⟩] [])
  (.seq none (.reg [⟨none, [], [0, 1, 2, 3, 4, 5, 6]⟩] [])
  (.seq none (.reg [⟨none, [], [0, 1, 2, 3, 4, 5, 6]⟩] [])
  (.seq none (.seq none (.reg [⟨none, [], [0, 1, 2]⟩, ⟨some (2, false), [57], [3, 4]⟩, ⟨none, [], [5, 6]⟩, ⟨some (6, false), [61], [7, 8]⟩, ⟨none, [], [9, 10]⟩, ⟨some (10, false), [65], [11, 12]⟩, ⟨none, [], [13, 14]⟩, ⟨some (14, false), [73], [15, 16, 17, 18, 19, 20]⟩, ⟨none, [], [21, 22]⟩, ⟨some (22, false), [81], [23, 24, 25, 26, 27, 28]⟩, ⟨none, [], [29]⟩] [])
  (.cond (.seq none (.reg [⟨none, [], [0]⟩] [])
  .leaf)
  .leaf))
  (.seq none (.seq none (.reg [⟨none, [], [0]⟩] [])
  (.sub (.loop [15] [83, 84, 85, 86, 87, 16, 90, 91, 92, 93, 94, 95, 96, 97, 100, 101, 102, 103, 104, 105, 106, 107, 108, 109, 110, 111, 112, 113, 114, 115, 116, 4, 98, 99, 88, 89, 15]
  (.seq none (.seq none (.reg [⟨none, [], [0, 1, 2, 3, 4]⟩] [])
  (.cond .leaf
  .leaf))
  (.seq none (.sub (.seq none (.reg [⟨none, [], [0]⟩] [])
  (.sub (.loop [16] [90, 91, 92, 93, 94, 95, 96, 97, 100, 101, 102, 103, 104, 105, 106, 107, 108, 109, 110, 111, 112, 113, 114, 115, 116, 4, 98, 99, 16]
  (.seq none (.seq none (.reg [⟨none, [], [0, 1, 2, 3, 4, 5, 6, 7]⟩] [])
  (.cond .leaf
  .leaf))
  (.seq none (.sub (.seq none (.reg [⟨none, [], [0, 1, 2, 3, 4, 5, 6, 7, 8, 9, 10, 11, 12, 13, 14, 15, 16]⟩] [])
  (.cond (.seq none (.reg [⟨none, [], [0]⟩] [])
  .leaf)
  .leaf)))
  (.reg [⟨none, [], [0, 1, 2]⟩] [])))))))
  (.reg [⟨none, [], [0, 1, 2]⟩] []))))))
  (.seq none (.reg [⟨none, [], [0]⟩] [])
  (.seq none (.reg [⟨none, [], [0, 1, 2, 3, 4, 5]⟩] [])
  (.seq none (.reg [⟨none, [], [0, 1, 2, 3, 4, 5]⟩] [])
  (.seq none (.seq none (.reg [⟨none, [], [0]⟩] [])
  (.sub (.loop [17, 20] [127, 128, 129, 130, 133, 134, 135, 136, 21, 137, 138, 139, 140, 141, 142, 143, 144, 145, 146, 147, 148, 149, 150, 151, 152, 153, 154, 155, 156, 157, 158, 159, 160, 161, 162, 163, 164, 4, 165, 166, 17, 168, 169, 170, 171, 172, 173, 174, 175, 176, 177, 178, 179, 180, 167, 181, 182, 22, 23, 183, 184, 185, 186, 187, 188, 189, 190, 191, 192, 193, 194, 195, 196, 197, 198, 199, 200, 201, 202, 203, 204, 205, 206, 207, 208, 209, 131, 132, 20]
  (.seq none (.seq none (.reg [⟨none, [], [0, 1, 2, 3]⟩] [])
  (.cond .leaf
  .leaf))
  (.seq none (.sub (.seq none (.reg [⟨none, [], [0, 1, 2, 3, 4]⟩] [])
  (.seq (some ([17], [137, 138, 139, 140, 141, 142, 143, 144, 145, 146, 147, 148, 149, 150, 151, 152, 153, 154, 155, 156, 157, 158, 159, 160, 161, 162, 163, 164, 4, 165, 166, 17])) (.seq none (.reg [⟨none, [], [0, 1, 2, 3, 4]⟩, ⟨some (4, false), [150], [5, 6, 7, 8, 9, 10, 11, 12, 13]⟩, ⟨none, [], [14]⟩] [])
  (.cond (.seq none (.seq none (.reg [⟨none, [], [0, 1, 2, 3, 4]⟩, ⟨some (4, false), [163], [5, 6, 7, 8, 9, 10, 11]⟩, ⟨none, [], [12]⟩] [])
  (.cond (.seq none (.reg [⟨none, [], [0]⟩] [])
  .leaf)
  .leaf))
  (.reg [⟨none, [], [0, 1, 2]⟩] []))
  .leaf))
  (.seq none (.reg [⟨none, [], [0, 1, 2, 3, 4, 5, 6, 7, 8, 9, 10, 11, 12, 13, 14, 15, 16, 17]⟩] [])
  (.seq none (.reg [⟨none, [], [0, 1, 2, 3, 4, 5, 6, 7]⟩, ⟨some (7, false), [192], [8, 9]⟩, ⟨some (9, true), [196], [10, 11, 12, 13]⟩, ⟨some (7, false), [198], [14, 15]⟩, ⟨some (15, true), [207], [16, 17, 18, 19, 20, 21, 22, 23, 24]⟩, ⟨some (7, false), [208], [25]⟩, ⟨none, [], [26]⟩] [])
  (.cond (.seq none (.reg [⟨none, [], [0]⟩] [])
  .leaf)
  .leaf))))))
  (.reg [⟨none, [], [0, 1, 2]⟩] []))))))
  (.seq none (.reg [⟨none, [], [0, 1, 2, 3, 4]⟩] [])
  .leaf)))))))))))))))
def S_laws_FnFilledValleys (a0 a1 : Value) (w : World) (K : Value → World → Prop) : Prop :=
  callS Pg n_laws_b10Long #[a0, a1] w fun t26_1 w =>
  ifB t26_1 (K (Go.Value.bool Bool.true) w)
  (callS Pg n_spec_B10Grey #[a0] w fun t28_2 w =>
  eff Pg (Instr.alloc 26 true (.tuple #[])) w fun t5_3 w =>
  effU Pg (Instr.storeAt 26 t5_3 t28_2) w fun w =>
  callS Pg n_laws_b10At #[a1, (Go.Value.int Go.IntKind.i64 0), (Go.Value.int Go.IntKind.i64 8)] w fun t30_4 w =>
  rd Pg (Instr.loadAt 26 t5_3) w fun t32_5 =>
  callS Pg n_impl_FillValleys #[t32_5, t30_4] w fun t34_6 w =>
  pur Pg (Instr.extract t34_6 0) fun t35_7 =>
  pur Pg (Instr.extract t34_6 1) fun t36_8 =>
  eff Pg (Instr.alloc 26 true (.tuple #[])) w fun t7_9 w =>
  effU Pg (Instr.storeAt 26 t7_9 t35_7) w fun w =>
  rd Pg (Instr.loadAt 26 t7_9) w fun t38_10 =>
  callS Pg n_impl_FillValleys #[t38_10, t30_4] w fun t40_11 w =>
  pur Pg (Instr.extract t40_11 0) fun t41_12 =>
  pur Pg (Instr.extract t40_11 1) fun t42_13 =>
  eff Pg (Instr.alloc 26 true (.tuple #[])) w fun t9_14 w =>
  effU Pg (Instr.storeAt 26 t9_14 t41_12) w fun w =>
  rd Pg (Instr.loadAt 26 t5_3) w fun t44_15 =>
  callS Pg n_impl_ValleysOf #[t44_15] w fun t45_16 w =>
  pur Pg (Instr.extract t45_16 0) fun t46_17 =>
  pur Pg (Instr.extract t45_16 1) fun t47_18 =>
  rd Pg (Instr.loadAt 26 t7_9) w fun t49_19 =>
  callS Pg n_impl_ValleysOf #[t49_19] w fun t50_20 w =>
  pur Pg (Instr.extract t50_20 0) fun t51_21 =>
  pur Pg (Instr.extract t50_20 1) fun t52_22 =>
  pur Pg (Op.unary Go.UnOp.not t36_8) fun t54_23 =>
  joinS (fun g24 s25 w =>
  pickS t54_23 (Go.Value.bool Bool.true) (nth s25 0) fun t58_27 =>
  joinS (fun g28 s29 w =>
  pickS t58_27 (Go.Value.bool Bool.true) (nth s29 0) fun t62_31 =>
  joinS (fun g32 s33 w =>
  pickS t62_31 (Go.Value.bool Bool.true) (nth s33 0) fun t66_35 =>
  joinS (fun g36 s37 w =>
  pickS t66_35 (Go.Value.bool Bool.true) (nth s37 0) fun t74_39 =>
  joinS (fun g40 s41 w =>
  pickS t74_39 (Go.Value.bool Bool.true) (nth s41 0) fun t82_43 =>
  ifB t82_43 (K (Go.Value.bool Bool.false) w)
  (loopS (fun N44 g45 s46 w =>
  pur Pg (Instr.fieldAt 26 t5_3 0) fun t84_47 =>
  rd Pg (Instr.loadAt 24 t84_47) w fun t85_48 =>
  rd Pg (Builtin.len_ #[24] 3 #[t85_48]) w fun t86_49 =>
  pur Pg (binOp Go.BinOp.lss 3 (nth s46 0) t86_49) fun t87_50 =>
  ifB t87_50 (loopS (fun N51 g52 s53 w =>
  pur Pg (Instr.fieldAt 26 t5_3 0) fun t91_54 =>
  rd Pg (Instr.loadAt 24 t91_54) w fun t92_55 =>
  pur Pg (Instr.indexAt 24 t92_55 (nth s46 0)) fun t94_56 =>
  rd Pg (Instr.loadAt 34 t94_56) w fun t95_57 =>
  rd Pg (Builtin.len_ #[34] 3 #[t95_57]) w fun t96_58 =>
  pur Pg (binOp Go.BinOp.lss 3 (nth s53 0) t96_58) fun t97_59 =>
  ifB t97_59 (drawS w fun w =>
  pur Pg (Instr.fieldAt 26 t7_9 0) fun t100_60 =>
  rd Pg (Instr.loadAt 24 t100_60) w fun t101_61 =>
  pur Pg (Instr.indexAt 24 t101_61 (nth s46 0)) fun t103_62 =>
  rd Pg (Instr.loadAt 34 t103_62) w fun t104_63 =>
  pur Pg (Instr.indexAt 34 t104_63 (nth s53 0)) fun t106_64 =>
  rd Pg (Instr.loadAt 2 t106_64) w fun t107_65 =>
  pur Pg (Instr.fieldAt 26 t5_3 0) fun t108_66 =>
  rd Pg (Instr.loadAt 24 t108_66) w fun t109_67 =>
  pur Pg (Instr.indexAt 24 t109_67 (nth s46 0)) fun t111_68 =>
  rd Pg (Instr.loadAt 34 t111_68) w fun t112_69 =>
  pur Pg (Instr.indexAt 34 t112_69 (nth s53 0)) fun t114_70 =>
  rd Pg (Instr.loadAt 2 t114_70) w fun t115_71 =>
  pur Pg (binOp Go.BinOp.lss 2 t107_65 t115_71) fun t116_72 =>
  ifB t116_72 (K (Go.Value.bool Bool.false) w)
  (pur Pg (binOp Go.BinOp.add 3 (nth s53 0) (Go.Value.int Go.IntKind.i64 1)) fun t99_73 =>
  N51 [t99_73] w))
  (pur Pg (binOp Go.BinOp.add 3 (nth s46 0) (Go.Value.int Go.IntKind.i64 1)) fun t89_74 =>
  N44 [t89_74] w)) [(Go.Value.int Go.IntKind.i64 0)] w)
  (pur Pg (Instr.indexAt 24 t46_17 (Go.Value.int Go.IntKind.i64 0)) fun t118_75 =>
  rd Pg (Instr.loadAt 34 t118_75) w fun t119_76 =>
  pur Pg (Instr.indexAt 34 t119_76 (Go.Value.int Go.IntKind.i64 0)) fun t120_77 =>
  rd Pg (Instr.loadAt 2 t120_77) w fun t121_78 =>
  pur Pg (Instr.fieldAt 26 t5_3 0) fun t122_79 =>
  rd Pg (Instr.loadAt 24 t122_79) w fun t123_80 =>
  pur Pg (Instr.indexAt 24 t123_80 (Go.Value.int Go.IntKind.i64 0)) fun t124_81 =>
  rd Pg (Instr.loadAt 34 t124_81) w fun t125_82 =>
  rd Pg (Builtin.len_ #[34] 3 #[t125_82]) w fun t126_83 =>
  loopS (fun N84 g85 s86 w =>
  rd Pg (Builtin.len_ #[24] 3 #[t46_17]) w fun t129_87 =>
  pur Pg (binOp Go.BinOp.lss 3 (nth s86 1) t129_87) fun t130_88 =>
  ifB t130_88 (pur Pg (Instr.indexAt 24 t46_17 (nth s86 1)) fun t135_89 =>
  rd Pg (Instr.loadAt 34 t135_89) w fun t136_90 =>
  joinS (fun g91 s92 w =>
  drawS w fun w =>
  rd Pg (Instr.loadAt 26 t5_3) w fun t168_94 =>
  pur Pg (Instr.indexAt 34 t136_90 (Go.Value.int Go.IntKind.i64 1)) fun t170_95 =>
  rd Pg (Instr.loadAt 2 t170_95) w fun t171_96 =>
  pur Pg (binOp Go.BinOp.rem 2 t171_96 t126_83) fun t173_97 =>
  pur Pg (Instr.indexAt 34 t136_90 (Go.Value.int Go.IntKind.i64 1)) fun t175_98 =>
  rd Pg (Instr.loadAt 2 t175_98) w fun t176_99 =>
  pur Pg (binOp Go.BinOp.quo 2 t176_99 t126_83) fun t178_100 =>
  pur Pg (Instr.build 39 #[(0, t173_97), (1, t178_100)]) fun t179_101 =>
  callS Pg n_impl_DepthAt #[t168_94, t179_101] w fun t180_102 w =>
  pur Pg (Instr.extract t180_102 0) fun t181_103 =>
  pur Pg (Instr.extract t180_102 1) fun t182_104 =>
  drawS w fun w =>
  pur Pg (Instr.indexAt 34 t136_90 (Go.Value.int Go.IntKind.i64 0)) fun t185_105 =>
  rd Pg (Instr.loadAt 2 t185_105) w fun t186_106 =>
  pur Pg (binOp Go.BinOp.gtr 2 t186_106 t121_78) fun t188_107 =>
  rd Pg (binSem Go.BinOp.neq 4 (Go.Operand.tmp 183) (Go.Operand.tmp 188) t182_104 t188_107) w fun t189_108 =>
  joinS (fun g109 s110 w =>
  joinS (fun g112 s113 w =>
  joinS (fun g115 s116 w =>
  joinS (fun g118 s119 w =>
  joinS (fun g121 s122 w =>
  pickS t189_108 (Go.Value.bool Bool.true) (nth s122 0) fun t209_124 =>
  ifB t209_124 (K (Go.Value.bool Bool.false) w)
  (pur Pg (binOp Go.BinOp.add 3 (nth s86 1) (Go.Value.int Go.IntKind.i64 1)) fun t132_125 =>
  N84 [(nth s92 0), t132_125] w)) fun J123 =>
  ifG t189_108 false (pickS (nth s116 0) (nth s119 0) (Go.Value.bool Bool.false) fun t208_126 =>
  J123 [t208_126] w)
  (J123 [undef] w)) fun J120 =>
  ifG (nth s116 0) true (pur Pg (Instr.indexAt 34 t136_90 (Go.Value.int Go.IntKind.i64 2)) fun t201_127 =>
  rd Pg (Instr.loadAt 2 t201_127) w fun t202_128 =>
  pur Pg (Instr.indexAt 34 t136_90 (Go.Value.int Go.IntKind.i64 0)) fun t204_129 =>
  rd Pg (Instr.loadAt 2 t204_129) w fun t205_130 =>
  pur Pg (binOp Go.BinOp.sub 2 t202_128 t205_130) fun t206_131 =>
  pur Pg (binOp Go.BinOp.lss 2 t181_103 t206_131) fun t207_132 =>
  J120 [t207_132] w)
  (J120 [undef] w)) fun J117 =>
  ifG t189_108 false (pickS (nth s110 0) (nth s113 0) (Go.Value.bool Bool.false) fun t197_133 =>
  J117 [t197_133] w)
  (J117 [undef] w)) fun J114 =>
  ifG (nth s110 0) true (pur Pg (Instr.indexAt 34 t136_90 (Go.Value.int Go.IntKind.i64 2)) fun t194_134 =>
  rd Pg (Instr.loadAt 2 t194_134) w fun t195_135 =>
  pur Pg (binOp Go.BinOp.geq 2 t195_135 (Go.Value.int Go.IntKind.i64 0)) fun t196_136 =>
  J114 [t196_136] w)
  (J114 [undef] w)) fun J111 =>
  ifG t189_108 false (J111 [t182_104] w)
  (J111 [undef] w)) fun J93 =>
  drawS w fun w =>
  pur Pg (Instr.indexAt 34 t136_90 (Go.Value.int Go.IntKind.i64 2)) fun t138_137 =>
  rd Pg (Instr.loadAt 2 t138_137) w fun t139_138 =>
  rd Pg (binSem Go.BinOp.eql 2 (Go.Operand.tmp 139) (Go.Operand.const (Go.Value.int Go.IntKind.i64 (-1))) t139_138 (Go.Value.int Go.IntKind.i64 (-1))) w fun t140_139 =>
  joinS (fun g140 s141 w =>
  pickS t140_139 (Go.Value.bool Bool.true) (nth s141 0) fun t151_143 =>
  ifB t151_143 (rd Pg (Builtin.len_ #[24] 3 #[t51_21]) w fun t154_144 =>
  pur Pg (binOp Go.BinOp.geq 3 (nth s86 0) t154_144) fun t155_145 =>
  joinS (fun g146 s147 w =>
  pickS t155_145 (Go.Value.bool Bool.true) (nth s147 0) fun t164_149 =>
  ifB t164_149 (K (Go.Value.bool Bool.false) w)
  (pur Pg (binOp Go.BinOp.add 3 (nth s86 0) (Go.Value.int Go.IntKind.i64 1)) fun t166_150 =>
  J93 [t166_150] w)) fun J148 =>
  ifG t155_145 false (pur Pg (Instr.indexAt 24 t51_21 (nth s86 0)) fun t159_151 =>
  rd Pg (Instr.loadAt 34 t159_151) w fun t160_152 =>
  callS Pg n_laws_b10Nums #[t160_152, t136_90] w fun t162_153 w =>
  pur Pg (Op.unary Go.UnOp.not t162_153) fun t163_154 =>
  J148 [t163_154] w)
  (J148 [undef] w))
  (J93 [(nth s86 0)] w)) fun J142 =>
  ifG t140_139 false (pur Pg (Instr.indexAt 34 t136_90 (Go.Value.int Go.IntKind.i64 2)) fun t143_155 =>
  rd Pg (Instr.loadAt 2 t143_155) w fun t144_156 =>
  pur Pg (Instr.indexAt 34 t136_90 (Go.Value.int Go.IntKind.i64 0)) fun t146_157 =>
  rd Pg (Instr.loadAt 2 t146_157) w fun t147_158 =>
  pur Pg (binOp Go.BinOp.sub 2 t144_156 t147_158) fun t148_159 =>
  pur Pg (binOp Go.BinOp.geq 2 t148_159 t30_4) fun t150_160 =>
  J142 [t150_160] w)
  (J142 [undef] w))
  (rd Pg (Builtin.len_ #[24] 3 #[t51_21]) w fun t212_161 =>
  rd Pg (binSem Go.BinOp.eql 3 (Go.Operand.tmp 210) (Go.Operand.tmp 212) (nth s86 0) t212_161) w fun t213_162 =>
  K t213_162 w)) [(Go.Value.int Go.IntKind.i64 0), (Go.Value.int Go.IntKind.i64 0)] w)) [(Go.Value.int Go.IntKind.i64 0)] w)) fun J42 =>
  ifG t74_39 false (pur Pg (Instr.fieldAt 26 t7_9 0) fun t76_163 =>
  rd Pg (Instr.loadAt 24 t76_163) w fun t77_164 =>
  pur Pg (Instr.fieldAt 26 t5_3 0) fun t78_165 =>
  rd Pg (Instr.loadAt 24 t78_165) w fun t79_166 =>
  callS Pg n_laws_b10Shape #[t77_164, t79_166] w fun t80_167 w =>
  pur Pg (Op.unary Go.UnOp.not t80_167) fun t81_168 =>
  J42 [t81_168] w)
  (J42 [undef] w)) fun J38 =>
  ifG t66_35 false (pur Pg (Instr.fieldAt 26 t9_14 0) fun t68_169 =>
  rd Pg (Instr.loadAt 24 t68_169) w fun t69_170 =>
  pur Pg (Instr.fieldAt 26 t7_9 0) fun t70_171 =>
  rd Pg (Instr.loadAt 24 t70_171) w fun t71_172 =>
  callS Pg n_laws_b10Tables #[t69_170, t71_172] w fun t72_173 w =>
  pur Pg (Op.unary Go.UnOp.not t72_173) fun t73_174 =>
  J38 [t73_174] w)
  (J38 [undef] w)) fun J34 =>
  ifG t62_31 false (pur Pg (Op.unary Go.UnOp.not t52_22) fun t65_175 =>
  J34 [t65_175] w)
  (J34 [undef] w)) fun J30 =>
  ifG t58_27 false (pur Pg (Op.unary Go.UnOp.not t47_18) fun t61_176 =>
  J30 [t61_176] w)
  (J30 [undef] w)) fun J26 =>
  ifG t54_23 false (pur Pg (Op.unary Go.UnOp.not t42_13) fun t57_177 =>
  J26 [t57_177] w)
  (J26 [undef] w))
theorem eq_laws_FnFilledValleys : ∀ (a0 a1 : Value) (w : World) (K : Value → World → Prop), S_laws_FnFilledValleys a0 a1 w K = codeS Pg (Try.f3.body.getD .skip) ann_laws_FnFilledValleys (topX Pg Try.f3.results K) (fun t => Array.getD #[a0, a1] t undef) w := by
  intro a0 a1 w K
  kernel_rfl
theorem call_laws_FnFilledValleys (a0 a1 : Value) (w : World) (K : Value → World → Prop) (h : S_laws_FnFilledValleys a0 a1 w K) : callS Pg n_laws_FnFilledValleys #[a0, a1] w K :=
  callS_of mixed Try.func3 (c := Try.f3.body.getD .skip) (by kernel_rfl) (by kernel_rfl) (ann := ann_laws_FnFilledValleys) (by kernel_rfl) (Nat.le_of_ble_eq_true (by kernel_rfl)) (by rw [← eq_laws_FnFilledValleys]; exact h)

-- loop.example/g01165/laws.FnValleys
def ann_laws_FnValleys : Ann :=
  (.seq none (.reg [⟨none, [], [0]⟩] [])
  (.seq none (.seq none (.reg [⟨none, [], [0, 1, 2]⟩] [])
  (.cond (.seq none (.reg [⟨none, [], [0]⟩] [])
  .leaf)
  .leaf))
  (.seq none (.reg [⟨none, [], [0, 1, 2, 3]⟩] [])
  (.seq none (.reg [⟨none, [], [0, 1, 2, 3, 4, 5, 6]⟩] [])
  (.seq none (.reg [⟨none, [], [0, 1, 2, 3, 4, 5, 6]⟩] [])
  (.seq none (.seq none (.reg [⟨none, [], [0, 1, 2]⟩, ⟨some (2, false), [36], [3, 4]⟩, ⟨none, [], [5, 6]⟩, ⟨some (6, false), [41], [7, 8, 9]⟩, ⟨none, [], [10, 11]⟩, ⟨some (11, false), [46], [12, 13, 14]⟩, ⟨none, [], [15, 16]⟩, ⟨some (16, false), [52], [17, 18, 19, 20]⟩, ⟨none, [], [21]⟩] [])
  (.cond (.seq none (.reg [⟨none, [], [0]⟩] [])
  .leaf)
  .leaf))
  (.seq none (.seq none (.reg [⟨none, [], [0]⟩] [])
  (.sub (.loop [10] [54, 55, 56, 57, 60, 61, 62, 63, 64, 65, 66, 67, 68, 69, 70, 71, 72, 73, 74, 75, 76, 77, 78, 79, 80, 81, 82, 83, 84, 85, 86, 87, 88, 89, 90, 91, 92, 4, 93, 94, 95, 96, 97, 11, 98, 99, 100, 101, 102, 103, 104, 105, 106, 107, 108, 109, 110, 111, 112, 113, 114, 115, 116, 117, 118, 119, 120, 121, 122, 123, 124, 125, 126, 127, 128, 129, 130, 131, 132, 133, 134, 135, 136, 137, 138, 139, 140, 141, 142, 143, 144, 145, 146, 147, 148, 149, 150, 151, 152, 153, 154, 155, 156, 157, 58, 59, 10]
  (.seq none (.seq none (.reg [⟨none, [], [0, 1, 2, 3]⟩] [])
  (.cond .leaf
  .leaf))
  (.seq none (.sub (.seq none (.seq none (.reg [⟨none, [], [0, 1, 2, 3, 4, 5, 6]⟩, ⟨some (6, false), [73], [7, 8, 9, 10, 11, 12, 13]⟩, ⟨none, [], [14, 15]⟩, ⟨some (15, false), [91], [16, 17, 18, 19, 20, 21, 22, 23, 24, 25, 26, 27, 28, 29, 30, 31]⟩, ⟨none, [], [32]⟩] [])
  (.cond (.seq none (.reg [⟨none, [], [0]⟩] [])
  .leaf)
  .leaf))
  (.seq none (.reg [⟨none, [], [0, 1, 2, 3, 4, 5]⟩] [])
  (.seq none (.reg [⟨none, [], [0, 1, 2, 3, 4, 5, 6, 7, 8, 9, 10, 11, 12, 13, 14, 15, 16, 17, 18, 19, 20, 21, 22, 23, 24, 25, 26, 27, 28, 29]⟩, ⟨some (29, false), [137], [30, 31, 32, 33, 34, 35, 36, 37, 38, 39]⟩, ⟨none, [], [40, 41]⟩, ⟨some (41, false), [142], [42, 43, 44]⟩, ⟨some (44, true), [155], [45, 46, 47, 48, 49, 50, 51, 52, 53, 54, 55, 56, 57]⟩, ⟨some (41, false), [156], [58]⟩, ⟨none, [], [59]⟩] [])
  (.cond (.seq none (.reg [⟨none, [], [0]⟩] [])
  .leaf)
  .leaf)))))
  (.reg [⟨none, [], [0, 1, 2]⟩] []))))))
  (.seq none (.seq none (.reg [⟨none, [], [0]⟩] [])
  (.sub (.loop [12] [158, 159, 163, 164, 165, 162, 166, 167, 13, 14, 15, 16, 168, 169, 170, 171, 174, 175, 176, 177, 178, 179, 180, 181, 182, 183, 184, 185, 186, 187, 188, 189, 190, 191, 192, 193, 194, 195, 196, 197, 198, 199, 200, 201, 202, 172, 173, 203, 204, 205, 206, 207, 208, 209, 210, 211, 212, 213, 214, 215, 216, 217, 4, 160, 161, 12]
  (.seq none (.seq none (.reg [⟨none, [], [0, 1]⟩] [])
  (.cond .leaf
  .leaf))
  (.seq none (.sub (.seq none (.reg [⟨none, [], [0, 1, 2, 3, 4, 5, 6, 7]⟩] [])
  (.seq none (.reg [⟨none, [], [0]⟩] [])
  (.seq none (.seq none (.reg [⟨none, [], [0]⟩] [])
  (.sub (.loop [15, 16] [168, 169, 170, 171, 174, 175, 176, 177, 178, 179, 180, 181, 182, 183, 184, 185, 186, 187, 188, 189, 190, 191, 192, 193, 194, 195, 196, 197, 198, 199, 200, 201, 202, 15, 172, 173, 16]
  (.seq none (.seq none (.reg [⟨none, [], [0, 1, 2, 3]⟩] [])
  (.cond .leaf
  .leaf))
  (.seq (some ([15], [174, 175, 176, 177, 178, 179, 180, 181, 182, 183, 184, 185, 186, 187, 188, 189, 190, 191, 192, 193, 194, 195, 196, 197, 198, 199, 200, 201, 202, 15])) (.sub (.seq none (.reg [⟨none, [], [0, 1, 2, 3, 4, 5, 6, 7, 8]⟩, ⟨some (8, true), [190], [9, 10, 11, 12, 13, 14, 15, 16]⟩, ⟨some (16, false), [198], [17, 18, 19, 20, 21, 22, 23, 24]⟩, ⟨some (8, true), [199], [25]⟩, ⟨none, [], [26]⟩] [])
  (.cond (.reg [⟨none, [], [0, 1, 2]⟩] [])
  .leaf)))
  (.reg [⟨none, [], [0, 1, 2]⟩] []))))))
  (.seq none (.reg [⟨none, [], [0, 1, 2]⟩, ⟨some (2, false), [208], [3, 4, 5]⟩, ⟨none, [], [6, 7]⟩, ⟨some (7, false), [216], [8, 9, 10, 11, 12, 13]⟩, ⟨none, [], [14]⟩] [])
  (.cond (.seq none (.reg [⟨none, [], [0]⟩] [])
  .leaf)
  .leaf))))))
  (.reg [⟨none, [], [0, 1, 2]⟩] []))))))
  (.seq none (.reg [⟨none, [], [0, 1, 2, 3, 4]⟩] [])
  .leaf)))))))))
def S_laws_FnValleys (a0 a1 : Value) (w : World) (K : Value → World → Prop) : Prop :=
  callS Pg n_laws_b10Long #[a0, a1] w fun t19_1 w =>
  ifB t19_1 (K (Go.Value.bool Bool.true) w)
  (callS Pg n_spec_B10Grey #[a0] w fun t21_2 w =>
  eff Pg (Instr.alloc 26 true (.tuple #[])) w fun t5_3 w =>
  effU Pg (Instr.storeAt 26 t5_3 t21_2) w fun w =>
  rd Pg (Instr.loadAt 26 t5_3) w fun t23_4 =>
  callS Pg n_impl_ValleysOf #[t23_4] w fun t24_5 w =>
  pur Pg (Instr.extract t24_5 0) fun t25_6 =>
  pur Pg (Instr.extract t24_5 1) fun t26_7 =>
  rd Pg (Instr.loadAt 26 t5_3) w fun t28_8 =>
  callS Pg n_impl_LevelCounts #[t28_8] w fun t29_9 w =>
  pur Pg (Instr.extract t29_9 0) fun t30_10 =>
  pur Pg (Instr.extract t29_9 1) fun t31_11 =>
  pur Pg (Op.unary Go.UnOp.not t26_7) fun t33_12 =>
  joinS (fun g13 s14 w =>
  pickS t33_12 (Go.Value.bool Bool.true) (nth s14 0) fun t37_16 =>
  joinS (fun g17 s18 w =>
  pickS t37_16 (Go.Value.bool Bool.true) (nth s18 0) fun t42_20 =>
  joinS (fun g21 s22 w =>
  pickS t42_20 (Go.Value.bool Bool.true) (nth s22 0) fun t47_24 =>
  joinS (fun g25 s26 w =>
  pickS t47_24 (Go.Value.bool Bool.true) (nth s26 0) fun t53_28 =>
  ifB t53_28 (K (Go.Value.bool Bool.false) w)
  (loopS (fun N29 g30 s31 w =>
  rd Pg (Builtin.len_ #[24] 3 #[t25_6]) w fun t56_32 =>
  pur Pg (binOp Go.BinOp.lss 3 (nth s31 0) t56_32) fun t57_33 =>
  ifB t57_33 (drawS w fun w =>
  pur Pg (Instr.indexAt 24 t25_6 (nth s31 0)) fun t62_34 =>
  rd Pg (Instr.loadAt 34 t62_34) w fun t63_35 =>
  rd Pg (Builtin.len_ #[34] 3 #[t63_35]) w fun t64_36 =>
  rd Pg (binSem Go.BinOp.neq 3 (Go.Operand.tmp 64) (Go.Operand.const (Go.Value.int Go.IntKind.i64 3)) t64_36 (Go.Value.int Go.IntKind.i64 3)) w fun t65_37 =>
  joinS (fun g38 s39 w =>
  pickS t65_37 (Go.Value.bool Bool.true) (nth s39 0) fun t74_41 =>
  joinS (fun g42 s43 w =>
  pickS t74_41 (Go.Value.bool Bool.true) (nth s43 0) fun t92_45 =>
  ifB t92_45 (K (Go.Value.bool Bool.false) w)
  (pur Pg (Instr.fieldAt 26 t5_3 0) fun t93_46 =>
  rd Pg (Instr.loadAt 24 t93_46) w fun t94_47 =>
  pur Pg (Instr.indexAt 24 t94_47 (Go.Value.int Go.IntKind.i64 0)) fun t95_48 =>
  rd Pg (Instr.loadAt 34 t95_48) w fun t96_49 =>
  rd Pg (Builtin.len_ #[34] 3 #[t96_49]) w fun t97_50 =>
  drawS w fun w =>
  pur Pg (Instr.fieldAt 26 t5_3 0) fun t98_51 =>
  rd Pg (Instr.loadAt 24 t98_51) w fun t99_52 =>
  pur Pg (Instr.indexAt 24 t25_6 (nth s31 0)) fun t102_53 =>
  rd Pg (Instr.loadAt 34 t102_53) w fun t103_54 =>
  pur Pg (Instr.indexAt 34 t103_54 (Go.Value.int Go.IntKind.i64 1)) fun t104_55 =>
  rd Pg (Instr.loadAt 2 t104_55) w fun t105_56 =>
  pur Pg (binOp Go.BinOp.quo 2 t105_56 t97_50) fun t107_57 =>
  pur Pg (Instr.indexAt 24 t99_52 t107_57) fun t108_58 =>
  rd Pg (Instr.loadAt 34 t108_58) w fun t109_59 =>
  pur Pg (Instr.indexAt 24 t25_6 (nth s31 0)) fun t112_60 =>
  rd Pg (Instr.loadAt 34 t112_60) w fun t113_61 =>
  pur Pg (Instr.indexAt 34 t113_61 (Go.Value.int Go.IntKind.i64 1)) fun t114_62 =>
  rd Pg (Instr.loadAt 2 t114_62) w fun t115_63 =>
  pur Pg (binOp Go.BinOp.rem 2 t115_63 t97_50) fun t117_64 =>
  pur Pg (Instr.indexAt 34 t109_59 t117_64) fun t118_65 =>
  rd Pg (Instr.loadAt 2 t118_65) w fun t119_66 =>
  pur Pg (Instr.indexAt 24 t25_6 (nth s31 0)) fun t122_67 =>
  rd Pg (Instr.loadAt 34 t122_67) w fun t123_68 =>
  pur Pg (Instr.indexAt 34 t123_68 (Go.Value.int Go.IntKind.i64 0)) fun t124_69 =>
  rd Pg (Instr.loadAt 2 t124_69) w fun t125_70 =>
  rd Pg (binSem Go.BinOp.neq 2 (Go.Operand.tmp 119) (Go.Operand.tmp 125) t119_66 t125_70) w fun t126_71 =>
  joinS (fun g72 s73 w =>
  pickS t126_71 (Go.Value.bool Bool.true) (nth s73 0) fun t138_75 =>
  joinS (fun g76 s77 w =>
  joinS (fun g79 s80 w =>
  joinS (fun g82 s83 w =>
  pickS t138_75 (Go.Value.bool Bool.true) (nth s83 0) fun t157_85 =>
  ifB t157_85 (K (Go.Value.bool Bool.false) w)
  (pur Pg (binOp Go.BinOp.add 3 (nth s31 0) (Go.Value.int Go.IntKind.i64 1)) fun t59_86 =>
  N29 [t59_86] w)) fun J84 =>
  ifG t138_75 false (pickS (nth s77 0) (nth s80 0) (Go.Value.bool Bool.false) fun t156_87 =>
  J84 [t156_87] w)
  (J84 [undef] w)) fun J81 =>
  ifG (nth s77 0) true (pur Pg (Instr.indexAt 24 t25_6 (nth s31 0)) fun t145_88 =>
  rd Pg (Instr.loadAt 34 t145_88) w fun t146_89 =>
  pur Pg (Instr.indexAt 34 t146_89 (Go.Value.int Go.IntKind.i64 2)) fun t147_90 =>
  rd Pg (Instr.loadAt 2 t147_90) w fun t148_91 =>
  pur Pg (Instr.indexAt 24 t25_6 (nth s31 0)) fun t151_92 =>
  rd Pg (Instr.loadAt 34 t151_92) w fun t152_93 =>
  pur Pg (Instr.indexAt 34 t152_93 (Go.Value.int Go.IntKind.i64 0)) fun t153_94 =>
  rd Pg (Instr.loadAt 2 t153_94) w fun t154_95 =>
  pur Pg (binOp Go.BinOp.leq 2 t148_91 t154_95) fun t155_96 =>
  J81 [t155_96] w)
  (J81 [undef] w)) fun J78 =>
  ifG t138_75 false (pur Pg (binOp Go.BinOp.gtr 3 (nth s31 0) (Go.Value.int Go.IntKind.i64 0)) fun t141_97 =>
  J78 [t141_97] w)
  (J78 [undef] w)) fun J74 =>
  ifG t126_71 false (rd Pg (binSem Go.BinOp.eql 3 (Go.Operand.tmp 128) (Go.Operand.const (Go.Value.int Go.IntKind.i64 0)) (nth s31 0) (Go.Value.int Go.IntKind.i64 0)) w fun t129_98 =>
  pur Pg (Instr.indexAt 24 t25_6 (nth s31 0)) fun t132_99 =>
  rd Pg (Instr.loadAt 34 t132_99) w fun t133_100 =>
  pur Pg (Instr.indexAt 34 t133_100 (Go.Value.int Go.IntKind.i64 2)) fun t134_101 =>
  rd Pg (Instr.loadAt 2 t134_101) w fun t135_102 =>
  rd Pg (binSem Go.BinOp.eql 2 (Go.Operand.tmp 135) (Go.Operand.const (Go.Value.int Go.IntKind.i64 (-1))) t135_102 (Go.Value.int Go.IntKind.i64 (-1))) w fun t136_103 =>
  rd Pg (binSem Go.BinOp.neq 4 (Go.Operand.tmp 129) (Go.Operand.tmp 136) t129_98 t136_103) w fun t137_104 =>
  J74 [t137_104] w)
  (J74 [undef] w))) fun J44 =>
  ifG t74_41 false (pur Pg (Instr.indexAt 24 t25_6 (nth s31 0)) fun t78_105 =>
  rd Pg (Instr.loadAt 34 t78_105) w fun t79_106 =>
  pur Pg (Instr.indexAt 34 t79_106 (Go.Value.int Go.IntKind.i64 1)) fun t80_107 =>
  rd Pg (Instr.loadAt 2 t80_107) w fun t81_108 =>
  pur Pg (Instr.fieldAt 26 t5_3 0) fun t82_109 =>
  rd Pg (Instr.loadAt 24 t82_109) w fun t83_110 =>
  rd Pg (Builtin.len_ #[24] 3 #[t83_110]) w fun t84_111 =>
  pur Pg (Instr.fieldAt 26 t5_3 0) fun t85_112 =>
  rd Pg (Instr.loadAt 24 t85_112) w fun t86_113 =>
  pur Pg (Instr.indexAt 24 t86_113 (Go.Value.int Go.IntKind.i64 0)) fun t87_114 =>
  rd Pg (Instr.loadAt 34 t87_114) w fun t88_115 =>
  rd Pg (Builtin.len_ #[34] 3 #[t88_115]) w fun t89_116 =>
  pur Pg (binOp Go.BinOp.mul 3 t84_111 t89_116) fun t90_117 =>
  pur Pg (binOp Go.BinOp.geq 2 t81_108 t90_117) fun t91_118 =>
  J44 [t91_118] w)
  (J44 [undef] w)) fun J40 =>
  ifG t65_37 false (pur Pg (Instr.indexAt 24 t25_6 (nth s31 0)) fun t69_119 =>
  rd Pg (Instr.loadAt 34 t69_119) w fun t70_120 =>
  pur Pg (Instr.indexAt 34 t70_120 (Go.Value.int Go.IntKind.i64 1)) fun t71_121 =>
  rd Pg (Instr.loadAt 2 t71_121) w fun t72_122 =>
  pur Pg (binOp Go.BinOp.lss 2 t72_122 (Go.Value.int Go.IntKind.i64 0)) fun t73_123 =>
  J40 [t73_123] w)
  (J40 [undef] w))
  (loopS (fun N124 g125 s126 w =>
  pur Pg (binOp Go.BinOp.leq 2 (nth s126 0) (Go.Value.int Go.IntKind.i64 9)) fun t159_127 =>
  ifB t159_127 (rd Pg (Instr.loadAt 26 t5_3) w fun t163_128 =>
  callS Pg n_impl_CountBelow #[t163_128, (nth s126 0)] w fun t165_129 w =>
  pur Pg (Instr.extract t165_129 0) fun t166_130 =>
  pur Pg (Instr.extract t165_129 1) fun t167_131 =>
  loopS (fun N132 g133 s134 w =>
  rd Pg (Builtin.len_ #[24] 3 #[t25_6]) w fun t170_135 =>
  pur Pg (binOp Go.BinOp.lss 3 (nth s134 1) t170_135) fun t171_136 =>
  ifB t171_136 (joinS (fun g137 s138 w =>
  pur Pg (binOp Go.BinOp.add 3 (nth s134 1) (Go.Value.int Go.IntKind.i64 1)) fun t173_140 =>
  N132 [(nth s138 0), t173_140] w) fun J139 =>
  pur Pg (Instr.indexAt 24 t25_6 (nth s134 1)) fun t176_141 =>
  rd Pg (Instr.loadAt 34 t176_141) w fun t177_142 =>
  pur Pg (Instr.indexAt 34 t177_142 (Go.Value.int Go.IntKind.i64 0)) fun t178_143 =>
  rd Pg (Instr.loadAt 2 t178_143) w fun t179_144 =>
  pur Pg (binOp Go.BinOp.leq 2 t179_144 (nth s126 0)) fun t181_145 =>
  joinS (fun g146 s147 w =>
  joinS (fun g149 s150 w =>
  joinS (fun g152 s153 w =>
  pickS t181_145 (nth s153 0) (Go.Value.bool Bool.false) fun t200_155 =>
  ifB t200_155 (pur Pg (binOp Go.BinOp.add 2 (nth s134 0) (Go.Value.int Go.IntKind.i64 1)) fun t202_156 =>
  J139 [t202_156] w)
  (J139 [(nth s134 0)] w)) fun J154 =>
  ifG t181_145 true (pickS (nth s147 0) (Go.Value.bool Bool.true) (nth s150 0) fun t199_157 =>
  J154 [t199_157] w)
  (J154 [undef] w)) fun J151 =>
  ifG (nth s147 0) false (pur Pg (Instr.indexAt 24 t25_6 (nth s134 1)) fun t193_158 =>
  rd Pg (Instr.loadAt 34 t193_158) w fun t194_159 =>
  pur Pg (Instr.indexAt 34 t194_159 (Go.Value.int Go.IntKind.i64 2)) fun t195_160 =>
  rd Pg (Instr.loadAt 2 t195_160) w fun t196_161 =>
  pur Pg (binOp Go.BinOp.gtr 2 t196_161 (nth s126 0)) fun t198_162 =>
  J151 [t198_162] w)
  (J151 [undef] w)) fun J148 =>
  ifG t181_145 true (pur Pg (Instr.indexAt 24 t25_6 (nth s134 1)) fun t185_163 =>
  rd Pg (Instr.loadAt 34 t185_163) w fun t186_164 =>
  pur Pg (Instr.indexAt 34 t186_164 (Go.Value.int Go.IntKind.i64 2)) fun t187_165 =>
  rd Pg (Instr.loadAt 2 t187_165) w fun t188_166 =>
  rd Pg (binSem Go.BinOp.eql 2 (Go.Operand.tmp 188) (Go.Operand.const (Go.Value.int Go.IntKind.i64 (-1))) t188_166 (Go.Value.int Go.IntKind.i64 (-1))) w fun t189_167 =>
  J148 [t189_167] w)
  (J148 [undef] w))
  (pur Pg (Op.unary Go.UnOp.not t167_131) fun t204_168 =>
  joinS (fun g169 s170 w =>
  pickS t204_168 (Go.Value.bool Bool.true) (nth s170 0) fun t209_172 =>
  joinS (fun g173 s174 w =>
  pickS t209_172 (Go.Value.bool Bool.true) (nth s174 0) fun t217_176 =>
  ifB t217_176 (K (Go.Value.bool Bool.false) w)
  (pur Pg (binOp Go.BinOp.add 2 (nth s126 0) (Go.Value.int Go.IntKind.i64 1)) fun t161_177 =>
  N124 [t161_177] w)) fun J175 =>
  ifG t209_172 false (pur Pg (Instr.indexAt 34 t30_10 (nth s126 0)) fun t213_178 =>
  rd Pg (Instr.loadAt 2 t213_178) w fun t214_179 =>
  rd Pg (binSem Go.BinOp.neq 2 (Go.Operand.tmp 214) (Go.Operand.tmp 215) t214_179 t166_130) w fun t216_180 =>
  J175 [t216_180] w)
  (J175 [undef] w)) fun J171 =>
  ifG t204_168 false (rd Pg (binSem Go.BinOp.neq 2 (Go.Operand.tmp 206) (Go.Operand.tmp 207) t166_130 (nth s134 0)) w fun t208_181 =>
  J171 [t208_181] w)
  (J171 [undef] w))) [(Go.Value.int Go.IntKind.i64 0), (Go.Value.int Go.IntKind.i64 0)] w)
  (pur Pg (Instr.indexAt 34 t30_10 (Go.Value.int Go.IntKind.i64 99)) fun t219_182 =>
  rd Pg (Instr.loadAt 2 t219_182) w fun t220_183 =>
  rd Pg (binSem Go.BinOp.eql 2 (Go.Operand.tmp 220) (Go.Operand.const (Go.Value.int Go.IntKind.i64 1)) t220_183 (Go.Value.int Go.IntKind.i64 1)) w fun t221_184 =>
  K t221_184 w)) [(Go.Value.int Go.IntKind.i64 0)] w)) [(Go.Value.int Go.IntKind.i64 0)] w)) fun J27 =>
  ifG t47_24 false (rd Pg (Instr.loadAt 26 t5_3) w fun t49_185 =>
  rd Pg (Instr.loadAt 26 t5_3) w fun t50_186 =>
  callS Pg n_impl_SameValleys #[t49_185, t50_186] w fun t51_187 w =>
  pur Pg (Op.unary Go.UnOp.not t51_187) fun t52_188 =>
  J27 [t52_188] w)
  (J27 [undef] w)) fun J23 =>
  ifG t42_20 false (rd Pg (Builtin.len_ #[34] 3 #[t30_10]) w fun t45_189 =>
  rd Pg (binSem Go.BinOp.neq 3 (Go.Operand.tmp 45) (Go.Operand.const (Go.Value.int Go.IntKind.i64 100)) t45_189 (Go.Value.int Go.IntKind.i64 100)) w fun t46_190 =>
  J23 [t46_190] w)
  (J23 [undef] w)) fun J19 =>
  ifG t37_16 false (rd Pg (Builtin.len_ #[24] 3 #[t25_6]) w fun t40_191 =>
  rd Pg (binSem Go.BinOp.eql 3 (Go.Operand.tmp 40) (Go.Operand.const (Go.Value.int Go.IntKind.i64 0)) t40_191 (Go.Value.int Go.IntKind.i64 0)) w fun t41_192 =>
  J19 [t41_192] w)
  (J19 [undef] w)) fun J15 =>
  ifG t33_12 false (pur Pg (Op.unary Go.UnOp.not t31_11) fun t36_193 =>
  J15 [t36_193] w)
  (J15 [undef] w))
theorem eq_laws_FnValleys : ∀ (a0 a1 : Value) (w : World) (K : Value → World → Prop), S_laws_FnValleys a0 a1 w K = codeS Pg (Try.f4.body.getD .skip) ann_laws_FnValleys (topX Pg Try.f4.results K) (fun t => Array.getD #[a0, a1] t undef) w := by
  intro a0 a1 w K
  kernel_rfl
theorem call_laws_FnValleys (a0 a1 : Value) (w : World) (K : Value → World → Prop) (h : S_laws_FnValleys a0 a1 w K) : callS Pg n_laws_FnValleys #[a0, a1] w K :=
  callS_of mixed Try.func4 (c := Try.f4.body.getD .skip) (by kernel_rfl) (by kernel_rfl) (ann := ann_laws_FnValleys) (by kernel_rfl) (Nat.le_of_ble_eq_true (by kernel_rfl)) (by rw [← eq_laws_FnValleys]; exact h)

-- loop.example/g01165/laws.FnExactValleysOf
def ann_laws_FnExactValleysOf : Ann :=
  (.seq none (.reg [⟨none, [], [0, 1]⟩] [])
  (.seq none (.reg [⟨none, [], [0]⟩] [])
  (.seq none (.reg [⟨none, [], [0, 1, 2, 3]⟩] [])
  (.seq none (.seq none (.reg [⟨none, [], [0, 1]⟩] [])
  (.cond (.seq none (.reg [⟨none, [], [0]⟩] [])
  .leaf)
  .leaf))
  (.seq none (.reg [⟨none, [], [0, 1, 2, 3, 4, 5, 6, 7]⟩] [])
  (.seq none (.reg [⟨none, [], [0, 1, 2, 3]⟩] [])
  (.seq none (.reg [⟨none, [], [0, 1, 2, 3, 4, 5, 6]⟩] [])
  (.seq none (.seq none (.reg [⟨none, [], [0, 1, 2, 3, 4]⟩, ⟨some (4, false), [39], [5, 6, 7]⟩, ⟨none, [], [8]⟩] [])
  (.cond (.seq none (.reg [⟨none, [], [0]⟩] [])
  .leaf)
  .leaf))
  (.seq none (.seq none (.reg [⟨none, [], [0, 1, 2, 3, 4]⟩] [0, 2])
  (.cond (.seq none (.reg [⟨none, [], [0]⟩] [])
  .leaf)
  .leaf))
  (.seq none (.reg [⟨none, [], [0]⟩] [])
  (.seq none (.reg [⟨none, [], [0, 1, 2, 3]⟩] [])
  (.seq none (.seq none (.reg [⟨none, [], [0, 1, 2]⟩, ⟨some (2, false), [55], [3, 4, 5, 6]⟩, ⟨none, [], [7, 8]⟩, ⟨some (8, false), [60], [9, 10, 11]⟩, ⟨none, [], [12]⟩] [])
  (.cond (.seq none (.reg [⟨none, [], [0]⟩] [])
  .leaf)
  .leaf))
  (.seq none (.reg [⟨none, [], [0]⟩] [])
  (.seq none (.reg [⟨none, [], [0, 1, 2, 3]⟩] [])
  (.seq none (.reg [⟨none, [], [0]⟩] [])
  (.seq none (.reg [⟨none, [], [0, 1, 2, 3]⟩] [])
  (.seq none (.seq none (.reg [⟨none, [], [0, 1]⟩] [])
  (.cond (.seq none (.reg [⟨none, [], [0]⟩] [])
  .leaf)
  .leaf))
  (.seq none (.seq none (.reg [⟨none, [], [0, 1, 2]⟩] [])
  (.cond (.seq none (.reg [⟨none, [], [0]⟩] [])
  .leaf)
  .leaf))
  (.seq none (.reg [⟨none, [], [0, 1, 2, 3, 4, 5, 6, 7]⟩] [])
  (.seq none (.seq none (.reg [⟨none, [], [0, 1, 2, 3, 4]⟩, ⟨some (4, false), [86], [5, 6, 7]⟩, ⟨none, [], [8]⟩] [])
  (.cond (.seq none (.reg [⟨none, [], [0]⟩] [])
  .leaf)
  .leaf))
  (.seq none (.reg [⟨none, [], [0]⟩] [])
  (.seq none (.reg [⟨none, [], [0, 1, 2, 3]⟩] [])
  (.seq none (.seq none (.reg [⟨none, [], [0, 1]⟩] [])
  (.cond (.seq none (.reg [⟨none, [], [0]⟩] [])
  .leaf)
  .leaf))
  (.seq none (.seq none (.reg [⟨none, [], [0, 1, 2]⟩] [])
  (.cond (.seq none (.reg [⟨none, [], [0]⟩] [])
  .leaf)
  .leaf))
  (.seq none (.reg [⟨none, [], [0]⟩] [])
  .leaf)))))))))))))))))))))))))
def S_laws_FnExactValleysOf (a0 : Value) (w : World) (K : Value → World → Prop) : Prop :=
  eff Pg (Instr.box 44 a0) w fun t1_1 w =>
  rd Pg (Instr.loadAt 44 t1_1) w fun t14_2 =>
  callS Pg n_laws_szGrey #[t14_2, (Go.Value.int Go.IntKind.i64 1048576)] w fun t16_3 w =>
  pur Pg (binOp Go.BinOp.lss 3 t16_3 (Go.Value.int Go.IntKind.i64 0)) fun t18_4 =>
  ifB t18_4 (K (Go.Value.bool Bool.true) w)
  (rd Pg (Instr.loadAt 44 t1_1) w fun t20_5 =>
  callS Pg n_laws_toGrey #[t20_5] w fun t21_6 w =>
  callS Pg n_spec_ValleysOf #[t21_6] w fun t22_7 w =>
  pur Pg (Instr.extract t22_7 0) fun t23_8 =>
  pur Pg (Instr.extract t22_7 1) fun t24_9 =>
  rd Pg (Instr.loadAt 44 t1_1) w fun t25_10 =>
  callS Pg n_laws_toGrey #[t25_10] w fun t26_11 w =>
  eff Pg (Instr.alloc 26 true (.tuple #[])) w fun t6_12 w =>
  effU Pg (Instr.storeAt 26 t6_12 t26_11) w fun w =>
  rd Pg (Instr.loadAt 26 t6_12) w fun t28_13 =>
  callS Pg n_impl_ValleysOf #[t28_13] w fun t29_14 w =>
  pur Pg (Instr.extract t29_14 0) fun t30_15 =>
  pur Pg (Instr.extract t29_14 1) fun t31_16 =>
  callS Pg n_laws_eqInt64SS #[t30_15, t23_8] w fun t34_17 w =>
  pur Pg (Op.unary Go.UnOp.not t34_17) fun t35_18 =>
  joinS (fun g19 s20 w =>
  pickS t35_18 (Go.Value.bool Bool.true) (nth s20 0) fun t40_22 =>
  ifB t40_22 (K (Go.Value.bool Bool.false) w)
  (drawF w fun S23 w =>
  rdF Pg S23 (Instr.loadAt 26 t6_12) fun t41_24 =>
  rd Pg (Instr.loadAt 44 t1_1) w fun t42_25 =>
  callS Pg n_laws_toGrey #[t42_25] w fun t43_26 w =>
  S23 w ∧
  callS Pg n_laws_eqGrey #[t41_24, t43_26] w fun t44_27 w =>
  pur Pg (Op.unary Go.UnOp.not t44_27) fun t45_28 =>
  ifB t45_28 (K (Go.Value.bool Bool.false) w)
  (rd Pg (Instr.loadAt 26 t6_12) w fun t46_29 =>
  callS Pg n_laws_markGrey #[t46_29, (Go.Value.int Go.IntKind.i64 1)] w fun t48_30 w =>
  pur Pg (binOp Go.BinOp.lss 3 t48_30 (Go.Value.int Go.IntKind.i64 0)) fun t50_31 =>
  joinS (fun g32 s33 w =>
  pickS t50_31 (Go.Value.bool Bool.true) (nth s33 0) fun t56_35 =>
  joinS (fun g36 s37 w =>
  pickS t56_35 (Go.Value.bool Bool.true) (nth s37 0) fun t61_39 =>
  ifB t61_39 (K (Go.Value.bool Bool.false) w)
  (callS Pg n_laws_markInt64SS #[t30_15, (Go.Value.int Go.IntKind.i64 1)] w fun t64_40 w =>
  callS Pg n_laws_heldInt64SS #[t30_15, (Go.Value.int Go.IntKind.i64 1)] w fun t67_41 w =>
  pur Pg (binOp Go.BinOp.lss 3 t67_41 (Go.Value.int Go.IntKind.i64 0)) fun t69_42 =>
  ifB t69_42 (K (Go.Value.bool Bool.false) w)
  (rd Pg (binSem Go.BinOp.neq 3 (Go.Operand.tmp 70) (Go.Operand.tmp 71) t67_41 t64_40) w fun t72_43 =>
  ifB t72_43 (K (Go.Value.bool Bool.false) w)
  (rd Pg (Instr.loadAt 44 t1_1) w fun t74_44 =>
  callS Pg n_laws_toGrey #[t74_44] w fun t75_45 w =>
  callS Pg n_impl_ValleysOf #[t75_45] w fun t76_46 w =>
  pur Pg (Instr.extract t76_46 0) fun t77_47 =>
  pur Pg (Instr.extract t76_46 1) fun t78_48 =>
  callS Pg n_laws_eqInt64SS #[t77_47, t23_8] w fun t81_49 w =>
  pur Pg (Op.unary Go.UnOp.not t81_49) fun t82_50 =>
  joinS (fun g51 s52 w =>
  pickS t82_50 (Go.Value.bool Bool.true) (nth s52 0) fun t87_54 =>
  ifB t87_54 (K (Go.Value.bool Bool.false) w)
  (callS Pg n_laws_heldInt64SS #[t30_15, (Go.Value.int Go.IntKind.i64 1)] w fun t90_55 w =>
  pur Pg (binOp Go.BinOp.lss 3 t90_55 (Go.Value.int Go.IntKind.i64 0)) fun t92_56 =>
  ifB t92_56 (K (Go.Value.bool Bool.false) w)
  (rd Pg (binSem Go.BinOp.neq 3 (Go.Operand.tmp 93) (Go.Operand.tmp 94) t90_55 t64_40) w fun t95_57 =>
  ifB t95_57 (K (Go.Value.bool Bool.false) w)
  (K (Go.Value.bool Bool.true) w)))) fun J53 =>
  ifG t82_50 false (rd Pg (binSem Go.BinOp.neq 4 (Go.Operand.tmp 84) (Go.Operand.tmp 85) t78_48 t24_9) w fun t86_58 =>
  J53 [t86_58] w)
  (J53 [undef] w))))) fun J38 =>
  ifG t56_35 false (rd Pg (binSem Go.BinOp.neq 4 (Go.Operand.tmp 58) (Go.Operand.tmp 59) t31_16 t24_9) w fun t60_59 =>
  J38 [t60_59] w)
  (J38 [undef] w)) fun J34 =>
  ifG t50_31 false (callS Pg n_laws_eqInt64SS #[t30_15, t23_8] w fun t54_60 w =>
  pur Pg (Op.unary Go.UnOp.not t54_60) fun t55_61 =>
  J34 [t55_61] w)
  (J34 [undef] w)))) fun J21 =>
  ifG t35_18 false (rd Pg (binSem Go.BinOp.neq 4 (Go.Operand.tmp 37) (Go.Operand.tmp 38) t31_16 t24_9) w fun t39_62 =>
  J21 [t39_62] w)
  (J21 [undef] w))
theorem eq_laws_FnExactValleysOf : ∀ (a0 : Value) (w : World) (K : Value → World → Prop), S_laws_FnExactValleysOf a0 w K = codeS Pg (Try.f5.body.getD .skip) ann_laws_FnExactValleysOf (topX Pg Try.f5.results K) (fun t => Array.getD #[a0] t undef) w := by
  intro a0 w K
  kernel_rfl
theorem call_laws_FnExactValleysOf (a0 : Value) (w : World) (K : Value → World → Prop) (h : S_laws_FnExactValleysOf a0 w K) : callS Pg n_laws_FnExactValleysOf #[a0] w K :=
  callS_of mixed Try.func5 (c := Try.f5.body.getD .skip) (by kernel_rfl) (by kernel_rfl) (ann := ann_laws_FnExactValleysOf) (by kernel_rfl) (Nat.le_of_ble_eq_true (by kernel_rfl)) (by rw [← eq_laws_FnExactValleysOf]; exact h)

-- loop.example/g01165/laws.FnExactSameValleys
def ann_laws_FnExactSameValleys : Ann :=
  (.seq none (.reg [⟨none, [], [0, 1, 2]⟩] [])
  (.seq none (.reg [⟨none, [], [0]⟩] [])
  (.seq none (.reg [⟨none, [], [0, 1, 2, 3]⟩] [])
  (.seq none (.seq none (.reg [⟨none, [], [0, 1]⟩] [])
  (.cond (.seq none (.reg [⟨none, [], [0]⟩] [])
  .leaf)
  .leaf))
  (.seq none (.reg [⟨none, [], [0, 1, 2, 3]⟩] [])
  (.seq none (.seq none (.reg [⟨none, [], [0, 1]⟩] [])
  (.cond (.seq none (.reg [⟨none, [], [0]⟩] [])
  .leaf)
  .leaf))
  (.seq none (.reg [⟨none, [], [0, 2, 1, 3, 4, 5]⟩] [1, 2])
  (.seq none (.reg [⟨none, [], [0, 1, 2, 3]⟩] [])
  (.seq none (.reg [⟨none, [], [0, 1, 2, 3]⟩] [])
  (.seq none (.reg [⟨none, [], [0, 1, 2, 3]⟩] [])
  (.seq none (.seq none (.reg [⟨none, [], [0, 1, 2]⟩] [])
  (.cond (.seq none (.reg [⟨none, [], [0]⟩] [])
  .leaf)
  .leaf))
  (.seq none (.seq none (.reg [⟨none, [], [0, 1, 2, 3, 4]⟩] [0, 2])
  (.cond (.seq none (.reg [⟨none, [], [0]⟩] [])
  .leaf)
  .leaf))
  (.seq none (.seq none (.reg [⟨none, [], [0, 1, 2, 3, 4]⟩] [0, 2])
  (.cond (.seq none (.reg [⟨none, [], [0]⟩] [])
  .leaf)
  .leaf))
  (.seq none (.reg [⟨none, [], [0]⟩] [])
  .leaf))))))))))))))
def S_laws_FnExactSameValleys (a0 a1 : Value) (w : World) (K : Value → World → Prop) : Prop :=
  eff Pg (Instr.box 44 a0) w fun t2_1 w =>
  eff Pg (Instr.box 44 a1) w fun t3_2 w =>
  rd Pg (Instr.loadAt 44 t2_1) w fun t10_3 =>
  callS Pg n_laws_szGrey #[t10_3, (Go.Value.int Go.IntKind.i64 1048576)] w fun t12_4 w =>
  pur Pg (binOp Go.BinOp.lss 3 t12_4 (Go.Value.int Go.IntKind.i64 0)) fun t14_5 =>
  ifB t14_5 (K (Go.Value.bool Bool.true) w)
  (rd Pg (Instr.loadAt 44 t3_2) w fun t15_6 =>
  callS Pg n_laws_szGrey #[t15_6, t12_4] w fun t17_7 w =>
  pur Pg (binOp Go.BinOp.lss 3 t17_7 (Go.Value.int Go.IntKind.i64 0)) fun t19_8 =>
  ifB t19_8 (K (Go.Value.bool Bool.true) w)
  (drawF w fun S9 w =>
  rd Pg (Instr.loadAt 44 t2_1) w fun t20_10 =>
  rdF Pg S9 (Instr.loadAt 44 t3_2) fun t22_11 =>
  callS Pg n_laws_toGrey #[t20_10] w fun t21_12 w =>
  S9 w ∧
  callS Pg n_laws_toGrey #[t22_11] w fun t23_13 w =>
  callS Pg n_spec_SameValleys #[t21_12, t23_13] w fun t24_14 w =>
  rd Pg (Instr.loadAt 44 t2_1) w fun t25_15 =>
  callS Pg n_laws_toGrey #[t25_15] w fun t26_16 w =>
  eff Pg (Instr.alloc 26 true (.tuple #[])) w fun t7_17 w =>
  effU Pg (Instr.storeAt 26 t7_17 t26_16) w fun w =>
  rd Pg (Instr.loadAt 44 t3_2) w fun t27_18 =>
  callS Pg n_laws_toGrey #[t27_18] w fun t28_19 w =>
  eff Pg (Instr.alloc 26 true (.tuple #[])) w fun t8_20 w =>
  effU Pg (Instr.storeAt 26 t8_20 t28_19) w fun w =>
  rd Pg (Instr.loadAt 26 t7_17) w fun t29_21 =>
  rd Pg (Instr.loadAt 26 t8_20) w fun t30_22 =>
  callS Pg n_impl_SameValleys #[t29_21, t30_22] w fun t31_23 w =>
  rd Pg (binSem Go.BinOp.neq 4 (Go.Operand.tmp 32) (Go.Operand.tmp 33) t31_23 t24_14) w fun t34_24 =>
  ifB t34_24 (K (Go.Value.bool Bool.false) w)
  (drawF w fun S25 w =>
  rdF Pg S25 (Instr.loadAt 26 t7_17) fun t35_26 =>
  rd Pg (Instr.loadAt 44 t2_1) w fun t36_27 =>
  callS Pg n_laws_toGrey #[t36_27] w fun t37_28 w =>
  S25 w ∧
  callS Pg n_laws_eqGrey #[t35_26, t37_28] w fun t38_29 w =>
  pur Pg (Op.unary Go.UnOp.not t38_29) fun t39_30 =>
  ifB t39_30 (K (Go.Value.bool Bool.false) w)
  (drawF w fun S31 w =>
  rdF Pg S31 (Instr.loadAt 26 t8_20) fun t40_32 =>
  rd Pg (Instr.loadAt 44 t3_2) w fun t41_33 =>
  callS Pg n_laws_toGrey #[t41_33] w fun t42_34 w =>
  S31 w ∧
  callS Pg n_laws_eqGrey #[t40_32, t42_34] w fun t43_35 w =>
  pur Pg (Op.unary Go.UnOp.not t43_35) fun t44_36 =>
  ifB t44_36 (K (Go.Value.bool Bool.false) w)
  (K (Go.Value.bool Bool.true) w)))))
theorem eq_laws_FnExactSameValleys : ∀ (a0 a1 : Value) (w : World) (K : Value → World → Prop), S_laws_FnExactSameValleys a0 a1 w K = codeS Pg (Try.f6.body.getD .skip) ann_laws_FnExactSameValleys (topX Pg Try.f6.results K) (fun t => Array.getD #[a0, a1] t undef) w := by
  intro a0 a1 w K
  kernel_rfl
theorem call_laws_FnExactSameValleys (a0 a1 : Value) (w : World) (K : Value → World → Prop) (h : S_laws_FnExactSameValleys a0 a1 w K) : callS Pg n_laws_FnExactSameValleys #[a0, a1] w K :=
  callS_of mixed Try.func6 (c := Try.f6.body.getD .skip) (by kernel_rfl) (by kernel_rfl) (ann := ann_laws_FnExactSameValleys) (by kernel_rfl) (Nat.le_of_ble_eq_true (by kernel_rfl)) (by rw [← eq_laws_FnExactSameValleys]; exact h)

-- loop.example/g01165/laws.FnExactFillValleys
def ann_laws_FnExactFillValleys : Ann :=
  (.seq none (.reg [⟨none, [], [0, 1]⟩] [])
  (.seq none (.reg [⟨none, [], [0]⟩] [])
  (.seq none (.reg [⟨none, [], [0, 1, 2, 3]⟩] [])
  (.seq none (.seq none (.reg [⟨none, [], [0, 1]⟩] [])
  (.cond (.seq none (.reg [⟨none, [], [0]⟩] [])
  .leaf)
  .leaf))
  (.seq none (.reg [⟨none, [], [0, 1, 2, 3, 4, 5, 6, 7, 8, 9]⟩] [])
  (.seq none (.reg [⟨none, [], [0, 1, 2, 3]⟩] [])
  (.seq none (.reg [⟨none, [], [0, 1, 2, 3, 4, 5, 6, 7, 8]⟩] [])
  (.seq none (.seq none (.reg [⟨none, [], [0, 1, 2, 3, 4]⟩, ⟨some (4, false), [43], [5, 6, 7]⟩, ⟨none, [], [8]⟩] [])
  (.cond (.seq none (.reg [⟨none, [], [0]⟩] [])
  .leaf)
  .leaf))
  (.seq none (.seq none (.reg [⟨none, [], [0, 1, 2, 3, 4]⟩] [0, 2])
  (.cond (.seq none (.reg [⟨none, [], [0]⟩] [])
  .leaf)
  .leaf))
  (.seq none (.reg [⟨none, [], [0]⟩] [])
  (.seq none (.reg [⟨none, [], [0, 1, 2, 3]⟩] [])
  (.seq none (.seq none (.reg [⟨none, [], [0, 1, 2]⟩, ⟨some (2, false), [59], [3, 4, 5, 6]⟩, ⟨none, [], [7, 8]⟩, ⟨some (8, false), [64], [9, 10, 11]⟩, ⟨none, [], [12]⟩] [])
  (.cond (.seq none (.reg [⟨none, [], [0]⟩] [])
  .leaf)
  .leaf))
  (.seq none (.reg [⟨none, [], [0]⟩] [])
  (.seq none (.reg [⟨none, [], [0, 1, 2, 3]⟩] [])
  (.seq none (.reg [⟨none, [], [0]⟩] [])
  (.seq none (.reg [⟨none, [], [0, 1, 2, 3]⟩] [])
  (.seq none (.seq none (.reg [⟨none, [], [0, 1]⟩] [])
  (.cond (.seq none (.reg [⟨none, [], [0]⟩] [])
  .leaf)
  .leaf))
  (.seq none (.seq none (.reg [⟨none, [], [0, 1, 2]⟩] [])
  (.cond (.seq none (.reg [⟨none, [], [0]⟩] [])
  .leaf)
  .leaf))
  (.seq none (.reg [⟨none, [], [0, 1, 2, 3, 4, 5, 6, 7, 8, 9]⟩] [])
  (.seq none (.seq none (.reg [⟨none, [], [0, 1, 2, 3, 4]⟩, ⟨some (4, false), [91], [5, 6, 7]⟩, ⟨none, [], [8]⟩] [])
  (.cond (.seq none (.reg [⟨none, [], [0]⟩] [])
  .leaf)
  .leaf))
  (.seq none (.reg [⟨none, [], [0]⟩] [])
  (.seq none (.reg [⟨none, [], [0, 1, 2, 3]⟩] [])
  (.seq none (.seq none (.reg [⟨none, [], [0, 1]⟩] [])
  (.cond (.seq none (.reg [⟨none, [], [0]⟩] [])
  .leaf)
  .leaf))
  (.seq none (.seq none (.reg [⟨none, [], [0, 1, 2]⟩] [])
  (.cond (.seq none (.reg [⟨none, [], [0]⟩] [])
  .leaf)
  .leaf))
  (.seq none (.reg [⟨none, [], [0]⟩] [])
  .leaf)))))))))))))))))))))))))
def S_laws_FnExactFillValleys (a0 a1 : Value) (w : World) (K : Value → World → Prop) : Prop :=
  eff Pg (Instr.box 44 a0) w fun t2_1 w =>
  rd Pg (Instr.loadAt 44 t2_1) w fun t16_2 =>
  callS Pg n_laws_szGrey #[t16_2, (Go.Value.int Go.IntKind.i64 1048576)] w fun t18_3 w =>
  pur Pg (binOp Go.BinOp.lss 3 t18_3 (Go.Value.int Go.IntKind.i64 0)) fun t20_4 =>
  ifB t20_4 (K (Go.Value.bool Bool.true) w)
  (rd Pg (Instr.loadAt 44 t2_1) w fun t22_5 =>
  callS Pg n_laws_toGrey #[t22_5] w fun t23_6 w =>
  callS Pg n_spec_FillValleys #[t23_6, a1] w fun t25_7 w =>
  pur Pg (Instr.extract t25_7 0) fun t26_8 =>
  pur Pg (Instr.extract t25_7 1) fun t27_9 =>
  eff Pg (Instr.alloc 26 true (.tuple #[])) w fun t6_10 w =>
  effU Pg (Instr.storeAt 26 t6_10 t26_8) w fun w =>
  rd Pg (Instr.loadAt 44 t2_1) w fun t28_11 =>
  callS Pg n_laws_toGrey #[t28_11] w fun t29_12 w =>
  eff Pg (Instr.alloc 26 true (.tuple #[])) w fun t8_13 w =>
  effU Pg (Instr.storeAt 26 t8_13 t29_12) w fun w =>
  rd Pg (Instr.loadAt 26 t8_13) w fun t31_14 =>
  callS Pg n_impl_FillValleys #[t31_14, a1] w fun t33_15 w =>
  pur Pg (Instr.extract t33_15 0) fun t34_16 =>
  pur Pg (Instr.extract t33_15 1) fun t35_17 =>
  eff Pg (Instr.alloc 26 true (.tuple #[])) w fun t9_18 w =>
  effU Pg (Instr.storeAt 26 t9_18 t34_16) w fun w =>
  rd Pg (Instr.loadAt 26 t9_18) w fun t36_19 =>
  rd Pg (Instr.loadAt 26 t6_10) w fun t37_20 =>
  callS Pg n_laws_eqGrey #[t36_19, t37_20] w fun t38_21 w =>
  pur Pg (Op.unary Go.UnOp.not t38_21) fun t39_22 =>
  joinS (fun g23 s24 w =>
  pickS t39_22 (Go.Value.bool Bool.true) (nth s24 0) fun t44_26 =>
  ifB t44_26 (K (Go.Value.bool Bool.false) w)
  (drawF w fun S27 w =>
  rdF Pg S27 (Instr.loadAt 26 t8_13) fun t45_28 =>
  rd Pg (Instr.loadAt 44 t2_1) w fun t46_29 =>
  callS Pg n_laws_toGrey #[t46_29] w fun t47_30 w =>
  S27 w ∧
  callS Pg n_laws_eqGrey #[t45_28, t47_30] w fun t48_31 w =>
  pur Pg (Op.unary Go.UnOp.not t48_31) fun t49_32 =>
  ifB t49_32 (K (Go.Value.bool Bool.false) w)
  (rd Pg (Instr.loadAt 26 t8_13) w fun t50_33 =>
  callS Pg n_laws_markGrey #[t50_33, (Go.Value.int Go.IntKind.i64 1)] w fun t52_34 w =>
  pur Pg (binOp Go.BinOp.lss 3 t52_34 (Go.Value.int Go.IntKind.i64 0)) fun t54_35 =>
  joinS (fun g36 s37 w =>
  pickS t54_35 (Go.Value.bool Bool.true) (nth s37 0) fun t60_39 =>
  joinS (fun g40 s41 w =>
  pickS t60_39 (Go.Value.bool Bool.true) (nth s41 0) fun t65_43 =>
  ifB t65_43 (K (Go.Value.bool Bool.false) w)
  (rd Pg (Instr.loadAt 26 t9_18) w fun t66_44 =>
  callS Pg n_laws_markGrey #[t66_44, (Go.Value.int Go.IntKind.i64 1)] w fun t68_45 w =>
  rd Pg (Instr.loadAt 26 t9_18) w fun t69_46 =>
  callS Pg n_laws_heldGrey #[t69_46, (Go.Value.int Go.IntKind.i64 1)] w fun t71_47 w =>
  pur Pg (binOp Go.BinOp.lss 3 t71_47 (Go.Value.int Go.IntKind.i64 0)) fun t73_48 =>
  ifB t73_48 (K (Go.Value.bool Bool.false) w)
  (rd Pg (binSem Go.BinOp.neq 3 (Go.Operand.tmp 74) (Go.Operand.tmp 75) t71_47 t68_45) w fun t76_49 =>
  ifB t76_49 (K (Go.Value.bool Bool.false) w)
  (rd Pg (Instr.loadAt 44 t2_1) w fun t78_50 =>
  callS Pg n_laws_toGrey #[t78_50] w fun t79_51 w =>
  callS Pg n_impl_FillValleys #[t79_51, a1] w fun t81_52 w =>
  pur Pg (Instr.extract t81_52 0) fun t82_53 =>
  pur Pg (Instr.extract t81_52 1) fun t83_54 =>
  eff Pg (Instr.alloc 26 true (.tuple #[])) w fun t14_55 w =>
  effU Pg (Instr.storeAt 26 t14_55 t82_53) w fun w =>
  rd Pg (Instr.loadAt 26 t14_55) w fun t84_56 =>
  rd Pg (Instr.loadAt 26 t6_10) w fun t85_57 =>
  callS Pg n_laws_eqGrey #[t84_56, t85_57] w fun t86_58 w =>
  pur Pg (Op.unary Go.UnOp.not t86_58) fun t87_59 =>
  joinS (fun g60 s61 w =>
  pickS t87_59 (Go.Value.bool Bool.true) (nth s61 0) fun t92_63 =>
  ifB t92_63 (K (Go.Value.bool Bool.false) w)
  (rd Pg (Instr.loadAt 26 t9_18) w fun t93_64 =>
  callS Pg n_laws_heldGrey #[t93_64, (Go.Value.int Go.IntKind.i64 1)] w fun t95_65 w =>
  pur Pg (binOp Go.BinOp.lss 3 t95_65 (Go.Value.int Go.IntKind.i64 0)) fun t97_66 =>
  ifB t97_66 (K (Go.Value.bool Bool.false) w)
  (rd Pg (binSem Go.BinOp.neq 3 (Go.Operand.tmp 98) (Go.Operand.tmp 99) t95_65 t68_45) w fun t100_67 =>
  ifB t100_67 (K (Go.Value.bool Bool.false) w)
  (K (Go.Value.bool Bool.true) w)))) fun J62 =>
  ifG t87_59 false (rd Pg (binSem Go.BinOp.neq 4 (Go.Operand.tmp 89) (Go.Operand.tmp 90) t83_54 t27_9) w fun t91_68 =>
  J62 [t91_68] w)
  (J62 [undef] w))))) fun J42 =>
  ifG t60_39 false (rd Pg (binSem Go.BinOp.neq 4 (Go.Operand.tmp 62) (Go.Operand.tmp 63) t35_17 t27_9) w fun t64_69 =>
  J42 [t64_69] w)
  (J42 [undef] w)) fun J38 =>
  ifG t54_35 false (rd Pg (Instr.loadAt 26 t9_18) w fun t56_70 =>
  rd Pg (Instr.loadAt 26 t6_10) w fun t57_71 =>
  callS Pg n_laws_eqGrey #[t56_70, t57_71] w fun t58_72 w =>
  pur Pg (Op.unary Go.UnOp.not t58_72) fun t59_73 =>
  J38 [t59_73] w)
  (J38 [undef] w)))) fun J25 =>
  ifG t39_22 false (rd Pg (binSem Go.BinOp.neq 4 (Go.Operand.tmp 41) (Go.Operand.tmp 42) t35_17 t27_9) w fun t43_74 =>
  J25 [t43_74] w)
  (J25 [undef] w))
theorem eq_laws_FnExactFillValleys : ∀ (a0 a1 : Value) (w : World) (K : Value → World → Prop), S_laws_FnExactFillValleys a0 a1 w K = codeS Pg (Try.f7.body.getD .skip) ann_laws_FnExactFillValleys (topX Pg Try.f7.results K) (fun t => Array.getD #[a0, a1] t undef) w := by
  intro a0 a1 w K
  kernel_rfl
theorem call_laws_FnExactFillValleys (a0 a1 : Value) (w : World) (K : Value → World → Prop) (h : S_laws_FnExactFillValleys a0 a1 w K) : callS Pg n_laws_FnExactFillValleys #[a0, a1] w K :=
  callS_of mixed Try.func7 (c := Try.f7.body.getD .skip) (by kernel_rfl) (by kernel_rfl) (ann := ann_laws_FnExactFillValleys) (by kernel_rfl) (Nat.le_of_ble_eq_true (by kernel_rfl)) (by rw [← eq_laws_FnExactFillValleys]; exact h)

-- loop.example/g01165/laws.b10Long
def ann_laws_b10Long : Ann :=
  (.seq none (.reg [⟨none, [], [0]⟩] [])
  (.seq none (.reg [⟨none, [], [0, 1, 2, 3]⟩, ⟨some (3, false), [11], [4, 5, 6]⟩, ⟨none, [], [7, 8]⟩] [])
  .leaf))
def S_laws_b10Long (a0 a1 : Value) (w : World) (K : Value → World → Prop) : Prop :=
  rd Pg (Builtin.len_ #[22] 3 #[a0]) w fun t6_1 =>
  pur Pg (binOp Go.BinOp.gtr 3 t6_1 (Go.Value.int Go.IntKind.i64 1048576)) fun t7_2 =>
  joinS (fun g3 s4 w =>
  pickS t7_2 (Go.Value.bool Bool.true) (nth s4 0) fun t12_6 =>
  K t12_6 w) fun J5 =>
  ifG t7_2 false (rd Pg (Builtin.len_ #[22] 3 #[a1]) w fun t10_7 =>
  pur Pg (binOp Go.BinOp.gtr 3 t10_7 (Go.Value.int Go.IntKind.i64 1048576)) fun t11_8 =>
  J5 [t11_8] w)
  (J5 [undef] w)
theorem eq_laws_b10Long : ∀ (a0 a1 : Value) (w : World) (K : Value → World → Prop), S_laws_b10Long a0 a1 w K = codeS Pg (Try.f8.body.getD .skip) ann_laws_b10Long (topX Pg Try.f8.results K) (fun t => Array.getD #[a0, a1] t undef) w := by
  intro a0 a1 w K
  kernel_rfl
theorem call_laws_b10Long (a0 a1 : Value) (w : World) (K : Value → World → Prop) (h : S_laws_b10Long a0 a1 w K) : callS Pg n_laws_b10Long #[a0, a1] w K :=
  callS_of mixed Try.func8 (c := Try.f8.body.getD .skip) (by kernel_rfl) (by kernel_rfl) (ann := ann_laws_b10Long) (by kernel_rfl) (Nat.le_of_ble_eq_true (by kernel_rfl)) (by rw [← eq_laws_b10Long]; exact h)

-- loop.example/g01165/spec.B10Grey
def ann_spec_B10Grey : Ann :=
  (.seq none (.reg [⟨none, [], [0]⟩] [])
  (.seq none (.reg [⟨none, [], [0, 1, 2]⟩] [])
  (.seq none (.reg [⟨none, [], [0, 1, 2, 3]⟩] [])
  (.seq none (.reg [⟨none, [], [0, 1, 2, 3]⟩] [])
  (.seq none (.reg [⟨none, [], [0, 1, 2, 3, 4, 5, 6, 7]⟩] [])
  .leaf)))))
def S_spec_B10Grey (a0 : Value) (w : World) (K : Value → World → Prop) : Prop :=
  eff Pg (Instr.alloc 26 true (.tuple #[])) w fun t2_1 w =>
  callS Pg n_l00From #[a0] w fun t7_2 w =>
  callS Pg n_l00Src_pick #[t7_2, (Go.Value.int Go.IntKind.i64 6)] w fun t9_3 w =>
  pur Pg (binOp Go.BinOp.add 2 (Go.Value.int Go.IntKind.i64 1) t9_3) fun t10_4 =>
  callS Pg n_l00Src_pick #[t7_2, (Go.Value.int Go.IntKind.i64 6)] w fun t12_5 w =>
  pur Pg (binOp Go.BinOp.add 2 (Go.Value.int Go.IntKind.i64 1) t12_5) fun t13_6 =>
  callS Pg n_l00Src_pick #[t7_2, (Go.Value.int Go.IntKind.i64 8)] w fun t18_7 w =>
  pur Pg (binOp Go.BinOp.add 2 (Go.Value.int Go.IntKind.i64 1) t18_7) fun t19_8 =>
  callS Pg n_l07DrawSized #[t7_2, t10_4, t13_6, t19_8] w fun t20_9 w =>
  effU Pg (Instr.storeAt 26 t2_1 t20_9) w fun w =>
  rd Pg (resCell 26 t2_1) w fun r10 =>
  K r10 w
theorem eq_spec_B10Grey : ∀ (a0 : Value) (w : World) (K : Value → World → Prop), S_spec_B10Grey a0 w K = codeS Pg (Try.f9.body.getD .skip) ann_spec_B10Grey (topX Pg Try.f9.results K) (fun t => Array.getD #[a0] t undef) w := by
  intro a0 w K
  kernel_rfl
theorem call_spec_B10Grey (a0 : Value) (w : World) (K : Value → World → Prop) (h : S_spec_B10Grey a0 w K) : callS Pg n_spec_B10Grey #[a0] w K :=
  callS_of mixed Try.func9 (c := Try.f9.body.getD .skip) (by kernel_rfl) (by kernel_rfl) (ann := ann_spec_B10Grey) (by kernel_rfl) (Nat.le_of_ble_eq_true (by kernel_rfl)) (by rw [← eq_spec_B10Grey]; exact h)

-- loop.example/g01165/laws.b10At
def ann_laws_b10At : Ann :=
  (.seq none (.reg [⟨none, [], [0]⟩] [])
  (.seq none (.seq none (.reg [⟨none, [], [0, 1]⟩] [])
  (.cond (.seq none (.reg [⟨none, [], [0]⟩] [])
  .leaf)
  .leaf))
  (.seq none (.seq none (.reg [⟨none, [], [0, 1, 2, 3]⟩] [])
  (.cond (.seq none (.reg [⟨none, [], [0, 1, 2, 3, 4, 5, 6, 7]⟩] [])
  .leaf)
  .leaf))
  (.seq none (.reg [⟨none, [], [0, 1, 2, 3, 4, 5]⟩] [])
  .leaf))))
def S_laws_b10At (a0 a1 a2 : Value) (w : World) (K : Value → World → Prop) : Prop :=
  pur Pg (binOp Go.BinOp.leq 2 a2 (Go.Value.int Go.IntKind.i64 1)) fun t8_1 =>
  ifB t8_1 (K (Go.Value.int Go.IntKind.i64 0) w)
  (rd Pg (Builtin.len_ #[22] 3 #[a0]) w fun t11_2 =>
  pur Pg (binOp Go.BinOp.lss 2 a1 t11_2) fun t12_3 =>
  ifB t12_3 (pur Pg (Instr.indexAt 22 a0 a1) fun t15_4 =>
  rd Pg (Instr.loadAt 5 t15_4) w fun t16_5 =>
  eff Pg (convert 5 2 t16_5) w fun t17_6 w =>
  pur Pg (binOp Go.BinOp.rem 2 t17_6 a2) fun t19_7 =>
  K t19_7 w)
  (pur Pg (binOp Go.BinOp.mul 2 a1 (Go.Value.int Go.IntKind.i64 37)) fun t21_8 =>
  pur Pg (binOp Go.BinOp.add 2 t21_8 (Go.Value.int Go.IntKind.i64 11)) fun t22_9 =>
  pur Pg (binOp Go.BinOp.rem 2 t22_9 a2) fun t24_10 =>
  K t24_10 w))
theorem eq_laws_b10At : ∀ (a0 a1 a2 : Value) (w : World) (K : Value → World → Prop), S_laws_b10At a0 a1 a2 w K = codeS Pg (Try.f10.body.getD .skip) ann_laws_b10At (topX Pg Try.f10.results K) (fun t => Array.getD #[a0, a1, a2] t undef) w := by
  intro a0 a1 a2 w K
  kernel_rfl
theorem call_laws_b10At (a0 a1 a2 : Value) (w : World) (K : Value → World → Prop) (h : S_laws_b10At a0 a1 a2 w K) : callS Pg n_laws_b10At #[a0, a1, a2] w K :=
  callS_of mixed Try.func10 (c := Try.f10.body.getD .skip) (by kernel_rfl) (by kernel_rfl) (ann := ann_laws_b10At) (by kernel_rfl) (Nat.le_of_ble_eq_true (by kernel_rfl)) (by rw [← eq_laws_b10At]; exact h)

-- loop.example/g01165/impl.FillValleys
def ann_impl_FillValleys : Ann :=
  (.seq none (.reg [⟨none, [], [0, 1, 2]⟩] [])
  (.seq none (.seq none (.reg [⟨none, [], [0, 1, 2, 3]⟩, ⟨some (3, false), [17], [4, 5, 6]⟩, ⟨none, [], [7]⟩] [])
  (.cond (.seq none (.reg [⟨none, [], [0, 1, 2]⟩] [])
  .leaf)
  .leaf))
  (.seq none (.reg [⟨none, [], [0, 1, 2, 3]⟩] [])
  (.seq none (.seq none (.reg [⟨none, [], [0, 1, 2]⟩] [])
  (.sub (.loop [24] [25, 26, 27, 8, 28, 29, 30, 31, 32, 33, 34, 35, 36, 37, 38, 39, 40, 41, 42, 43, 44, 45, 46, 47, 48, 49, 50, 51, 52, 53, 54, 10, 55, 56, 57, 58, 59, 60, 61, 62, 63, 64, 65, 66, 67, 68, 69, 70, 71, 72, 24]
  (.seq none (.reg [⟨none, [], [0]⟩] [])
  (.seq none (.cond .leaf
  .leaf)
  (.seq (some ([], [26, 27, 8, 28, 29, 30, 31, 32, 33, 34, 35, 36, 37, 38, 39, 40, 41, 42, 43, 44, 45, 46, 47, 48, 49, 50, 51, 52, 53, 54, 10, 55, 56, 57, 58, 59, 60, 61, 62, 63, 64, 65, 66, 67, 68, 69, 70, 71])) (.sub (.seq none (.reg [⟨none, [], [0, 1, 2]⟩] [])
  (.seq none (.seq none (.reg [⟨none, [], [0, 1, 2, 3, 4, 5]⟩, ⟨some (5, false), [44], [6, 7, 8, 9, 10, 11, 12, 13, 14, 15, 16]⟩, ⟨none, [], [17]⟩] [])
  (.cond .leaf
  .leaf))
  (.seq none (.reg [⟨none, [], [0, 1, 2, 3, 4, 5]⟩] [])
  (.sub (.loop [51] [52, 53, 54, 10, 55, 56, 57, 58, 59, 60, 61, 62, 63, 64, 65, 66, 67, 68, 69, 70, 71, 51]
  (.seq none (.reg [⟨none, [], [0]⟩] [])
  (.seq none (.cond .leaf
  .leaf)
  (.seq none (.sub (.seq none (.reg [⟨none, [], [0, 1, 2, 3]⟩] [])
  (.reg [⟨none, [], [0, 1, 2, 3, 4, 5, 6, 7, 8, 10, 11, 12, 13, 9, 14, 15, 16]⟩] [1, 3, 5, 7, 9, 13])))
  (.reg [⟨none, [], [0, 1]⟩] []))))))))))
  (.reg [⟨none, [], [0, 1]⟩] [])))))))
  (.seq none (.reg [⟨none, [], [0, 1, 2]⟩] [])
  .leaf)))))
def S_impl_FillValleys (a0 a1 : Value) (w : World) (K : Value → World → Prop) : Prop :=
  eff Pg (Instr.box 26 a0) w fun t2_1 w =>
  eff Pg (Instr.alloc 26 true (.tuple #[])) w fun t4_2 w =>
  rd Pg (Instr.loadAt 26 t2_1) w fun t11_3 =>
  callS Pg n_impl_ValidGrey #[t11_3] w fun t12_4 w =>
  pur Pg (Op.unary Go.UnOp.not t12_4) fun t13_5 =>
  joinS (fun g6 s7 w =>
  pickS t13_5 (Go.Value.bool Bool.true) (nth s7 0) fun t18_9 =>
  ifB t18_9 (pur Pg (Instr.build 26 #[]) fun t19_10 =>
  effU Pg (Instr.storeAt 26 t4_2 t19_10) w fun w =>
  rd Pg (resCell 26 t4_2) w fun r11 =>
  K (Value.tuple #[r11, (Go.Value.bool Bool.false)]) w)
  (callS Pg n_Grey_remade #[t2_1, (Value.func (.func n_Grey_at) #[t2_1] #[])] w fun t21_12 w =>
  eff Pg (Instr.alloc 26 true (.tuple #[])) w fun t6_13 w =>
  effU Pg (Instr.storeAt 26 t6_13 t21_12) w fun w =>
  callS Pg n_Grey_valleys #[t2_1] w fun t22_14 w =>
  rd Pg (Builtin.len_ #[60] 3 #[t22_14]) w fun t23_15 =>
  loopS (fun N16 g17 s18 w =>
  pur Pg (binOp Go.BinOp.lss 3 (nth s18 0) t23_15) fun t25_19 =>
  ifB t25_19 (joinS (fun g20 s21 w =>
  pur Pg (binOp Go.BinOp.add 3 (nth s18 0) (Go.Value.int Go.IntKind.i64 1)) fun t72_23 =>
  N16 [t72_23] w) fun J22 =>
  pur Pg (Instr.indexAt 60 t22_14 (nth s18 0)) fun t26_24 =>
  rd Pg (Instr.loadAt 62 t26_24) w fun t27_25 =>
  drawS w fun w =>
  nilS t27_25 fun t29_26 =>
  pur Pg (Instr.fieldAt 65 t29_26 2) fun t30_27 =>
  rd Pg (Instr.loadAt 2 t30_27) w fun t31_28 =>
  pur Pg (binOp Go.BinOp.lss 2 t31_28 (Go.Value.int Go.IntKind.i64 0)) fun t32_29 =>
  joinS (fun g30 s31 w =>
  pickS t32_29 (Go.Value.bool Bool.true) (nth s31 0) fun t45_33 =>
  ifB t45_33 (J22 [] w)
  (nilS t27_25 fun t47_34 =>
  pur Pg (Instr.fieldAt 65 t47_34 3) fun t48_35 =>
  rd Pg (Instr.loadAt 63 t48_35) w fun t49_36 =>
  rd Pg (Builtin.len_ #[63] 3 #[t49_36]) w fun t50_37 =>
  loopS (fun N38 g39 s40 w =>
  pur Pg (binOp Go.BinOp.lss 3 (nth s40 0) t50_37) fun t52_41 =>
  ifB t52_41 (pur Pg (Instr.indexAt 63 t49_36 (nth s40 0)) fun t53_42 =>
  rd Pg (Instr.loadAt 39 t53_42) w fun t54_43 =>
  eff Pg (Instr.alloc 39 true (.tuple #[])) w fun t10_44 w =>
  effU Pg (Instr.storeAt 39 t10_44 t54_43) w fun w =>
  drawF w fun S45 w =>
  pur Pg (Instr.fieldAt 26 t6_13 0) fun t55_46 =>
  rdF Pg S45 (Instr.loadAt 24 t55_46) fun t56_47 =>
  pur Pg (Instr.fieldAt 39 t10_44 1) fun t57_48 =>
  rdF Pg S45 (Instr.loadAt 2 t57_48) fun t58_49 =>
  pur Pg (Instr.indexAt 24 t56_47 t58_49) fun t59_50 =>
  rdF Pg S45 (Instr.loadAt 34 t59_50) fun t60_51 =>
  pur Pg (Instr.fieldAt 39 t10_44 0) fun t61_52 =>
  rdF Pg S45 (Instr.loadAt 2 t61_52) fun t62_53 =>
  rd Pg (Instr.loadAt 39 t10_44) w fun t63_54 =>
  nilS t27_25 fun t66_55 =>
  pur Pg (Instr.fieldAt 65 t66_55 2) fun t67_56 =>
  rdF Pg S45 (Instr.loadAt 2 t67_56) fun t68_57 =>
  callS Pg n_Grey_at #[t6_13, t63_54] w fun t64_58 w =>
  S45 w ∧
  pur Pg (Builtin.max_ #[2, 2] 2 #[t64_58, t68_57]) fun t69_59 =>
  pur Pg (Instr.indexAt 34 t60_51 t62_53) fun t70_60 =>
  effU Pg (Instr.storeAt 2 t70_60 t69_59) w fun w =>
  pur Pg (binOp Go.BinOp.add 3 (nth s40 0) (Go.Value.int Go.IntKind.i64 1)) fun t71_61 =>
  N38 [t71_61] w)
  (J22 [] w)) [(Go.Value.int Go.IntKind.i64 0)] w)) fun J32 =>
  ifG t32_29 false (nilS t27_25 fun t35_62 =>
  pur Pg (Instr.fieldAt 65 t35_62 2) fun t36_63 =>
  rd Pg (Instr.loadAt 2 t36_63) w fun t37_64 =>
  nilS t27_25 fun t39_65 =>
  pur Pg (Instr.fieldAt 65 t39_65 0) fun t40_66 =>
  rd Pg (Instr.loadAt 2 t40_66) w fun t41_67 =>
  pur Pg (binOp Go.BinOp.sub 2 t37_64 t41_67) fun t42_68 =>
  pur Pg (binOp Go.BinOp.geq 2 t42_68 a1) fun t44_69 =>
  J32 [t44_69] w)
  (J32 [undef] w))
  (rd Pg (Instr.loadAt 26 t6_13) w fun t73_70 =>
  effU Pg (Instr.storeAt 26 t4_2 t73_70) w fun w =>
  rd Pg (resCell 26 t4_2) w fun r71 =>
  K (Value.tuple #[r71, (Go.Value.bool Bool.true)]) w)) [(Go.Value.int Go.IntKind.i64 0)] w)) fun J8 =>
  ifG t13_5 false (callS Pg n_in #[a1, (Go.Value.int Go.IntKind.i64 0), (Go.Value.int Go.IntKind.i64 100)] w fun t16_72 w =>
  pur Pg (Op.unary Go.UnOp.not t16_72) fun t17_73 =>
  J8 [t17_73] w)
  (J8 [undef] w)
theorem eq_impl_FillValleys : ∀ (a0 a1 : Value) (w : World) (K : Value → World → Prop), S_impl_FillValleys a0 a1 w K = codeS Pg (Try.f11.body.getD .skip) ann_impl_FillValleys (topX Pg Try.f11.results K) (fun t => Array.getD #[a0, a1] t undef) w := by
  intro a0 a1 w K
  kernel_rfl
theorem call_impl_FillValleys (a0 a1 : Value) (w : World) (K : Value → World → Prop) (h : S_impl_FillValleys a0 a1 w K) : callS Pg n_impl_FillValleys #[a0, a1] w K :=
  callS_of mixed Try.func11 (c := Try.f11.body.getD .skip) (by kernel_rfl) (by kernel_rfl) (ann := ann_impl_FillValleys) (by kernel_rfl) (Nat.le_of_ble_eq_true (by kernel_rfl)) (by rw [← eq_impl_FillValleys]; exact h)

-- loop.example/g01165/impl.ValleysOf
def ann_impl_ValleysOf : Ann :=
  (.seq none (.reg [⟨none, [], [0, 1, 2]⟩] [])
  (.seq none (.seq none (.reg [⟨none, [], [0, 1, 2]⟩] [])
  (.cond (.seq none (.reg [⟨none, [], [0, 1]⟩] [])
  .leaf)
  .leaf))
  (.seq none (.reg [⟨none, [], [0, 1, 2]⟩] [])
  .leaf)))
def S_impl_ValleysOf (a0 : Value) (w : World) (K : Value → World → Prop) : Prop :=
  eff Pg (Instr.box 26 a0) w fun t1_1 w =>
  rd Pg (Instr.loadAt 26 t1_1) w fun t4_2 =>
  callS Pg n_impl_ValidGrey #[t4_2] w fun t5_3 w =>
  pur Pg (Op.unary Go.UnOp.not t5_3) fun t6_4 =>
  ifB t6_4 (K (Value.tuple #[(Go.Value.slice Option.none 0 0), (Go.Value.bool Bool.false)]) w)
  (callS Pg n_Grey_lasting #[t1_1] w fun t7_5 w =>
  K (Value.tuple #[t7_5, (Go.Value.bool Bool.true)]) w)
theorem eq_impl_ValleysOf : ∀ (a0 : Value) (w : World) (K : Value → World → Prop), S_impl_ValleysOf a0 w K = codeS Pg (Try.f12.body.getD .skip) ann_impl_ValleysOf (topX Pg Try.f12.results K) (fun t => Array.getD #[a0] t undef) w := by
  intro a0 w K
  kernel_rfl
theorem call_impl_ValleysOf (a0 : Value) (w : World) (K : Value → World → Prop) (h : S_impl_ValleysOf a0 w K) : callS Pg n_impl_ValleysOf #[a0] w K :=
  callS_of mixed Try.func12 (c := Try.f12.body.getD .skip) (by kernel_rfl) (by kernel_rfl) (ann := ann_impl_ValleysOf) (by kernel_rfl) (Nat.le_of_ble_eq_true (by kernel_rfl)) (by rw [← eq_impl_ValleysOf]; exact h)

-- loop.example/g01165/laws.b10Tables
def ann_laws_b10Tables : Ann :=
  (.seq none (.reg [⟨none, [], [0]⟩] [])
  (.seq none (.seq none (.reg [⟨none, [], [0, 1, 2, 3, 4]⟩] [])
  (.cond (.seq none (.reg [⟨none, [], [0]⟩] [])
  .leaf)
  .leaf))
  (.seq none (.seq none (.reg [⟨none, [], [0]⟩] [])
  (.sub (.loop [5] [11, 12, 13, 14, 17, 18, 19, 20, 21, 22, 23, 24, 25, 26, 4, 15, 16, 5]
  (.seq none (.seq none (.reg [⟨none, [], [0, 1, 2, 3]⟩] [])
  (.cond .leaf
  .leaf))
  (.seq none (.sub (.seq none (.reg [⟨none, [], [0, 1, 2, 3, 4, 5, 6, 7, 8, 9]⟩] [])
  (.cond (.seq none (.reg [⟨none, [], [0]⟩] [])
  .leaf)
  .leaf)))
  (.reg [⟨none, [], [0, 1, 2]⟩] []))))))
  (.seq none (.reg [⟨none, [], [0, 1, 2, 3]⟩] [])
  .leaf))))
def S_laws_b10Tables (a0 a1 : Value) (w : World) (K : Value → World → Prop) : Prop :=
  rd Pg (Builtin.len_ #[24] 3 #[a0]) w fun t7_1 =>
  rd Pg (Builtin.len_ #[24] 3 #[a1]) w fun t9_2 =>
  rd Pg (binSem Go.BinOp.neq 3 (Go.Operand.tmp 7) (Go.Operand.tmp 9) t7_1 t9_2) w fun t10_3 =>
  ifB t10_3 (K (Go.Value.bool Bool.false) w)
  (loopS (fun N4 g5 s6 w =>
  rd Pg (Builtin.len_ #[24] 3 #[a0]) w fun t13_7 =>
  pur Pg (binOp Go.BinOp.lss 3 (nth s6 0) t13_7) fun t14_8 =>
  ifB t14_8 (drawS w fun w =>
  pur Pg (Instr.indexAt 24 a0 (nth s6 0)) fun t19_9 =>
  rd Pg (Instr.loadAt 34 t19_9) w fun t20_10 =>
  pur Pg (Instr.indexAt 24 a1 (nth s6 0)) fun t23_11 =>
  rd Pg (Instr.loadAt 34 t23_11) w fun t24_12 =>
  callS Pg n_laws_b10Nums #[t20_10, t24_12] w fun t25_13 w =>
  pur Pg (Op.unary Go.UnOp.not t25_13) fun t26_14 =>
  ifB t26_14 (K (Go.Value.bool Bool.false) w)
  (pur Pg (binOp Go.BinOp.add 3 (nth s6 0) (Go.Value.int Go.IntKind.i64 1)) fun t16_15 =>
  N4 [t16_15] w))
  (rd Pg (Builtin.len_ #[24] 3 #[a0]) w fun t28_16 =>
  pur Pg (binOp Go.BinOp.gtr 3 t28_16 (Go.Value.int Go.IntKind.i64 0)) fun t29_17 =>
  K t29_17 w)) [(Go.Value.int Go.IntKind.i64 0)] w)
theorem eq_laws_b10Tables : ∀ (a0 a1 : Value) (w : World) (K : Value → World → Prop), S_laws_b10Tables a0 a1 w K = codeS Pg (Try.f13.body.getD .skip) ann_laws_b10Tables (topX Pg Try.f13.results K) (fun t => Array.getD #[a0, a1] t undef) w := by
  intro a0 a1 w K
  kernel_rfl
theorem call_laws_b10Tables (a0 a1 : Value) (w : World) (K : Value → World → Prop) (h : S_laws_b10Tables a0 a1 w K) : callS Pg n_laws_b10Tables #[a0, a1] w K :=
  callS_of mixed Try.func13 (c := Try.f13.body.getD .skip) (by kernel_rfl) (by kernel_rfl) (ann := ann_laws_b10Tables) (by kernel_rfl) (Nat.le_of_ble_eq_true (by kernel_rfl)) (by rw [← eq_laws_b10Tables]; exact h)

-- loop.example/g01165/laws.b10Shape
def ann_laws_b10Shape : Ann :=
  (.seq none (.reg [⟨none, [], [0]⟩] [])
  (.seq none (.seq none (.reg [⟨none, [], [0, 1, 2, 3, 4]⟩] [])
  (.cond (.seq none (.reg [⟨none, [], [0]⟩] [])
  .leaf)
  .leaf))
  (.seq none (.seq none (.reg [⟨none, [], [0]⟩] [])
  (.sub (.loop [5] [11, 12, 13, 14, 17, 18, 19, 20, 21, 22, 23, 24, 25, 26, 27, 4, 15, 16, 5]
  (.seq none (.seq none (.reg [⟨none, [], [0, 1, 2, 3]⟩] [])
  (.cond .leaf
  .leaf))
  (.seq none (.sub (.seq none (.reg [⟨none, [], [0, 1, 2, 3, 4, 5, 6, 7, 8, 9, 10]⟩] [])
  (.cond (.seq none (.reg [⟨none, [], [0]⟩] [])
  .leaf)
  .leaf)))
  (.reg [⟨none, [], [0, 1, 2]⟩] []))))))
  (.seq none (.reg [⟨none, [], [0, 1, 2, 3]⟩] [])
  .leaf))))
def S_laws_b10Shape (a0 a1 : Value) (w : World) (K : Value → World → Prop) : Prop :=
  rd Pg (Builtin.len_ #[24] 3 #[a0]) w fun t7_1 =>
  rd Pg (Builtin.len_ #[24] 3 #[a1]) w fun t9_2 =>
  rd Pg (binSem Go.BinOp.neq 3 (Go.Operand.tmp 7) (Go.Operand.tmp 9) t7_1 t9_2) w fun t10_3 =>
  ifB t10_3 (K (Go.Value.bool Bool.false) w)
  (loopS (fun N4 g5 s6 w =>
  rd Pg (Builtin.len_ #[24] 3 #[a0]) w fun t13_7 =>
  pur Pg (binOp Go.BinOp.lss 3 (nth s6 0) t13_7) fun t14_8 =>
  ifB t14_8 (drawS w fun w =>
  pur Pg (Instr.indexAt 24 a0 (nth s6 0)) fun t19_9 =>
  rd Pg (Instr.loadAt 34 t19_9) w fun t20_10 =>
  rd Pg (Builtin.len_ #[34] 3 #[t20_10]) w fun t21_11 =>
  pur Pg (Instr.indexAt 24 a1 (nth s6 0)) fun t24_12 =>
  rd Pg (Instr.loadAt 34 t24_12) w fun t25_13 =>
  rd Pg (Builtin.len_ #[34] 3 #[t25_13]) w fun t26_14 =>
  rd Pg (binSem Go.BinOp.neq 3 (Go.Operand.tmp 21) (Go.Operand.tmp 26) t21_11 t26_14) w fun t27_15 =>
  ifB t27_15 (K (Go.Value.bool Bool.false) w)
  (pur Pg (binOp Go.BinOp.add 3 (nth s6 0) (Go.Value.int Go.IntKind.i64 1)) fun t16_16 =>
  N4 [t16_16] w))
  (rd Pg (Builtin.len_ #[24] 3 #[a0]) w fun t29_17 =>
  pur Pg (binOp Go.BinOp.gtr 3 t29_17 (Go.Value.int Go.IntKind.i64 0)) fun t30_18 =>
  K t30_18 w)) [(Go.Value.int Go.IntKind.i64 0)] w)
theorem eq_laws_b10Shape : ∀ (a0 a1 : Value) (w : World) (K : Value → World → Prop), S_laws_b10Shape a0 a1 w K = codeS Pg (Try.f14.body.getD .skip) ann_laws_b10Shape (topX Pg Try.f14.results K) (fun t => Array.getD #[a0, a1] t undef) w := by
  intro a0 a1 w K
  kernel_rfl
theorem call_laws_b10Shape (a0 a1 : Value) (w : World) (K : Value → World → Prop) (h : S_laws_b10Shape a0 a1 w K) : callS Pg n_laws_b10Shape #[a0, a1] w K :=
  callS_of mixed Try.func14 (c := Try.f14.body.getD .skip) (by kernel_rfl) (by kernel_rfl) (ann := ann_laws_b10Shape) (by kernel_rfl) (Nat.le_of_ble_eq_true (by kernel_rfl)) (by rw [← eq_laws_b10Shape]; exact h)

-- loop.example/g01165/laws.b10Nums
def ann_laws_b10Nums : Ann :=
  (.seq none (.reg [⟨none, [], [0]⟩] [])
  (.seq none (.seq none (.reg [⟨none, [], [0, 1, 2, 3, 4]⟩] [])
  (.cond (.seq none (.reg [⟨none, [], [0]⟩] [])
  .leaf)
  .leaf))
  (.seq none (.seq none (.reg [⟨none, [], [0]⟩] [])
  (.sub (.loop [5] [11, 12, 13, 14, 17, 18, 19, 20, 21, 22, 23, 24, 25, 4, 15, 16, 5]
  (.seq none (.seq none (.reg [⟨none, [], [0, 1, 2, 3]⟩] [])
  (.cond .leaf
  .leaf))
  (.seq none (.sub (.seq none (.reg [⟨none, [], [0, 1, 2, 3, 4, 5, 6, 7, 8]⟩] [])
  (.cond (.seq none (.reg [⟨none, [], [0]⟩] [])
  .leaf)
  .leaf)))
  (.reg [⟨none, [], [0, 1, 2]⟩] []))))))
  (.seq none (.reg [⟨none, [], [0]⟩] [])
  .leaf))))
def S_laws_b10Nums (a0 a1 : Value) (w : World) (K : Value → World → Prop) : Prop :=
  rd Pg (Builtin.len_ #[34] 3 #[a0]) w fun t7_1 =>
  rd Pg (Builtin.len_ #[34] 3 #[a1]) w fun t9_2 =>
  rd Pg (binSem Go.BinOp.neq 3 (Go.Operand.tmp 7) (Go.Operand.tmp 9) t7_1 t9_2) w fun t10_3 =>
  ifB t10_3 (K (Go.Value.bool Bool.false) w)
  (loopS (fun N4 g5 s6 w =>
  rd Pg (Builtin.len_ #[34] 3 #[a0]) w fun t13_7 =>
  pur Pg (binOp Go.BinOp.lss 3 (nth s6 0) t13_7) fun t14_8 =>
  ifB t14_8 (drawS w fun w =>
  pur Pg (Instr.indexAt 34 a0 (nth s6 0)) fun t19_9 =>
  rd Pg (Instr.loadAt 2 t19_9) w fun t20_10 =>
  pur Pg (Instr.indexAt 34 a1 (nth s6 0)) fun t23_11 =>
  rd Pg (Instr.loadAt 2 t23_11) w fun t24_12 =>
  rd Pg (binSem Go.BinOp.neq 2 (Go.Operand.tmp 20) (Go.Operand.tmp 24) t20_10 t24_12) w fun t25_13 =>
  ifB t25_13 (K (Go.Value.bool Bool.false) w)
  (pur Pg (binOp Go.BinOp.add 3 (nth s6 0) (Go.Value.int Go.IntKind.i64 1)) fun t16_14 =>
  N4 [t16_14] w))
  (K (Go.Value.bool Bool.true) w)) [(Go.Value.int Go.IntKind.i64 0)] w)
theorem eq_laws_b10Nums : ∀ (a0 a1 : Value) (w : World) (K : Value → World → Prop), S_laws_b10Nums a0 a1 w K = codeS Pg (Try.f15.body.getD .skip) ann_laws_b10Nums (topX Pg Try.f15.results K) (fun t => Array.getD #[a0, a1] t undef) w := by
  intro a0 a1 w K
  kernel_rfl
theorem call_laws_b10Nums (a0 a1 : Value) (w : World) (K : Value → World → Prop) (h : S_laws_b10Nums a0 a1 w K) : callS Pg n_laws_b10Nums #[a0, a1] w K :=
  callS_of mixed Try.func15 (c := Try.f15.body.getD .skip) (by kernel_rfl) (by kernel_rfl) (ann := ann_laws_b10Nums) (by kernel_rfl) (Nat.le_of_ble_eq_true (by kernel_rfl)) (by rw [← eq_laws_b10Nums]; exact h)

-- loop.example/g01165/impl.DepthAt
def ann_impl_DepthAt : Ann :=
  (.seq none (.reg [⟨none, [], [0, 1, 2, 3]⟩] [])
  (.seq none (.seq none (.reg [⟨none, [], [0, 1, 2, 3]⟩, ⟨some (3, false), [16], [4, 5, 6]⟩, ⟨none, [], [7]⟩] [])
  (.cond (.seq none (.reg [⟨none, [], [0, 1]⟩] [])
  .leaf)
  .leaf))
  (.seq none (.reg [⟨none, [], [0, 1, 2, 3, 4]⟩] [])
  (.seq none (.seq none (.reg [⟨none, [], [0, 1, 2]⟩] [])
  (.sub (.loop [7, 22] [23, 24, 25, 9, 26, 27, 28, 29, 30, 31, 32, 33, 34, 35, 36, 37, 38, 39, 40, 41, 42, 7, 43, 22]
  (.seq none (.reg [⟨none, [], [0]⟩] [])
  (.seq none (.cond .leaf
  .leaf)
  (.seq (some ([7], [24, 25, 9, 26, 27, 28, 29, 30, 31, 32, 33, 34, 35, 36, 37, 38, 39, 40, 41, 42, 7])) (.sub (.seq none (.reg [⟨none, [], [0, 1, 2, 3]⟩] [])
  (.seq none (.reg [⟨none, [], [0, 2, 1, 3, 4, 5]⟩, ⟨some (5, true), [34], [6, 7, 8]⟩, ⟨some (8, false), [38], [9, 11, 10, 12]⟩, ⟨some (5, true), [39], [13]⟩, ⟨none, [], [14]⟩] [1, 2])
  (.cond (.reg [⟨none, [], [0, 1, 2]⟩] [])
  .leaf))))
  (.reg [⟨none, [], [0, 1]⟩] [])))))))
  (.seq none (.seq none (.reg [⟨none, [], [0, 1]⟩] [])
  (.cond (.seq none (.reg [⟨none, [], [0, 1]⟩] [])
  .leaf)
  .leaf))
  (.seq none (.reg [⟨none, [], [0, 1, 2, 3, 4, 5]⟩] [])
  .leaf))))))
def S_impl_DepthAt (a0 a1 : Value) (w : World) (K : Value → World → Prop) : Prop :=
  eff Pg (Instr.box 26 a0) w fun t2_1 w =>
  eff Pg (Instr.box 39 a1) w fun t3_2 w =>
  rd Pg (Instr.loadAt 26 t2_1) w fun t10_3 =>
  callS Pg n_impl_ValidGrey #[t10_3] w fun t11_4 w =>
  pur Pg (Op.unary Go.UnOp.not t11_4) fun t12_5 =>
  joinS (fun g6 s7 w =>
  pickS t12_5 (Go.Value.bool Bool.true) (nth s7 0) fun t17_9 =>
  ifB t17_9 (K (Value.tuple #[(Go.Value.int Go.IntKind.i64 0), (Go.Value.bool Bool.false)]) w)
  (rd Pg (Instr.loadAt 39 t3_2) w fun t18_10 =>
  callS Pg n_Grey_heights #[t2_1, t18_10] w fun t19_11 w =>
  eff Pg (Instr.alloc 26 true (.tuple #[])) w fun t6_12 w =>
  effU Pg (Instr.storeAt 26 t6_12 t19_11) w fun w =>
  callS Pg n_Grey_spots #[t2_1] w fun t20_13 w =>
  rd Pg (Builtin.len_ #[63] 3 #[t20_13]) w fun t21_14 =>
  loopS (fun N15 g16 s17 w =>
  pur Pg (binOp Go.BinOp.lss 3 (nth s17 1) t21_14) fun t23_18 =>
  ifB t23_18 (joinS (fun g19 s20 w =>
  pur Pg (binOp Go.BinOp.add 3 (nth s17 1) (Go.Value.int Go.IntKind.i64 1)) fun t43_22 =>
  N15 [(nth s20 0), t43_22] w) fun J21 =>
  pur Pg (Instr.indexAt 63 t20_13 (nth s17 1)) fun t24_23 =>
  rd Pg (Instr.loadAt 39 t24_23) w fun t25_24 =>
  eff Pg (Instr.alloc 39 true (.tuple #[])) w fun t9_25 w =>
  effU Pg (Instr.storeAt 39 t9_25 t25_24) w fun w =>
  drawF w fun S26 w =>
  rd Pg (Instr.loadAt 39 t9_25) w fun t26_27 =>
  rdF Pg S26 (Instr.loadAt 39 t3_2) fun t28_28 =>
  callS Pg n_Grey_at #[t2_1, t26_27] w fun t27_29 w =>
  S26 w ∧
  callS Pg n_Grey_at #[t2_1, t28_28] w fun t29_30 w =>
  pur Pg (binOp Go.BinOp.lss 2 t27_29 t29_30) fun t30_31 =>
  joinS (fun g32 s33 w =>
  joinS (fun g35 s36 w =>
  joinS (fun g38 s39 w =>
  pickS t30_31 (nth s39 0) (Go.Value.bool Bool.false) fun t40_41 =>
  ifB t40_41 (rd Pg (Instr.loadAt 39 t9_25) w fun t41_42 =>
  callS Pg n_Grey_at #[t6_12, t41_42] w fun t42_43 w =>
  J21 [t42_43] w)
  (J21 [(nth s17 0)] w)) fun J40 =>
  ifG t30_31 true (pickS (nth s33 0) (Go.Value.bool Bool.true) (nth s36 0) fun t39_44 =>
  J40 [t39_44] w)
  (J40 [undef] w)) fun J37 =>
  ifG (nth s33 0) false (rd Pg (Instr.loadAt 39 t9_25) w fun t35_45 =>
  callS Pg n_Grey_at #[t6_12, t35_45] w fun t36_46 w =>
  pur Pg (binOp Go.BinOp.lss 2 t36_46 (nth s17 0)) fun t38_47 =>
  J37 [t38_47] w)
  (J37 [undef] w)) fun J34 =>
  ifG t30_31 true (pur Pg (binOp Go.BinOp.lss 2 (nth s17 0) (Go.Value.int Go.IntKind.i64 0)) fun t33_48 =>
  J34 [t33_48] w)
  (J34 [undef] w))
  (pur Pg (binOp Go.BinOp.lss 2 (nth s17 0) (Go.Value.int Go.IntKind.i64 0)) fun t45_49 =>
  ifB t45_49 (K (Value.tuple #[(Go.Value.int Go.IntKind.i64 0), (Go.Value.bool Bool.false)]) w)
  (rd Pg (Instr.loadAt 39 t3_2) w fun t47_50 =>
  callS Pg n_Grey_at #[t2_1, t47_50] w fun t48_51 w =>
  pur Pg (binOp Go.BinOp.sub 2 (nth s17 0) t48_51) fun t49_52 =>
  K (Value.tuple #[t49_52, (Go.Value.bool Bool.true)]) w))) [(Go.Value.int Go.IntKind.i64 (-1)), (Go.Value.int Go.IntKind.i64 0)] w)) fun J8 =>
  ifG t12_5 false (rd Pg (Instr.loadAt 39 t3_2) w fun t14_53 =>
  callS Pg n_Grey_has #[t2_1, t14_53] w fun t15_54 w =>
  pur Pg (Op.unary Go.UnOp.not t15_54) fun t16_55 =>
  J8 [t16_55] w)
  (J8 [undef] w)
theorem eq_impl_DepthAt : ∀ (a0 a1 : Value) (w : World) (K : Value → World → Prop), S_impl_DepthAt a0 a1 w K = codeS Pg (Try.f16.body.getD .skip) ann_impl_DepthAt (topX Pg Try.f16.results K) (fun t => Array.getD #[a0, a1] t undef) w := by
  intro a0 a1 w K
  kernel_rfl
theorem call_impl_DepthAt (a0 a1 : Value) (w : World) (K : Value → World → Prop) (h : S_impl_DepthAt a0 a1 w K) : callS Pg n_impl_DepthAt #[a0, a1] w K :=
  callS_of mixed Try.func16 (c := Try.f16.body.getD .skip) (by kernel_rfl) (by kernel_rfl) (ann := ann_impl_DepthAt) (by kernel_rfl) (Nat.le_of_ble_eq_true (by kernel_rfl)) (by rw [← eq_impl_DepthAt]; exact h)

-- loop.example/g01165/impl.LevelCounts
def ann_impl_LevelCounts : Ann :=
  (.seq none (.reg [⟨none, [], [0, 1, 2]⟩] [])
  (.seq none (.seq none (.reg [⟨none, [], [0, 1, 2]⟩] [])
  (.cond (.seq none (.reg [⟨none, [], [0, 1]⟩] [])
  .leaf)
  .leaf))
  (.seq none (.reg [⟨none, [], [0, 1]⟩] [])
  (.seq none (.seq none (.reg [⟨none, [], [0]⟩] [])
  (.sub (.loop [4, 10] [11, 12, 5, 13, 14, 15, 16, 17, 4, 18, 10]
  (.seq none (.reg [⟨none, [], [0]⟩] [])
  (.seq none (.cond .leaf
  .leaf)
  (.seq none (.sub (.seq none (.reg [⟨none, [], [0, 1]⟩] [])
  (.reg [⟨none, [], [0, 1, 2, 3, 4, 5]⟩] [])))
  (.reg [⟨none, [], [0, 1]⟩] [])))))))
  (.seq none (.reg [⟨none, [], [0, 1, 2]⟩] [])
  .leaf)))))
def S_impl_LevelCounts (a0 : Value) (w : World) (K : Value → World → Prop) : Prop :=
  eff Pg (Instr.box 26 a0) w fun t1_1 w =>
  rd Pg (Instr.loadAt 26 t1_1) w fun t6_2 =>
  callS Pg n_impl_ValidGrey #[t6_2] w fun t7_3 w =>
  pur Pg (Op.unary Go.UnOp.not t7_3) fun t8_4 =>
  ifB t8_4 (K (Value.tuple #[(Go.Value.slice Option.none 0 0), (Go.Value.bool Bool.false)]) w)
  (eff Pg (Instr.buildSlice 34 0 #[]) w fun t9_5 w =>
  loopS (fun N6 g7 s8 w =>
  pur Pg (binOp Go.BinOp.lss 2 (nth s8 1) (Go.Value.int Go.IntKind.i64 100)) fun t11_9 =>
  ifB t11_9 (callS Pg n_Grey_below #[t1_1, (nth s8 1)] w fun t15_10 w =>
  eff Pg (Instr.buildSlice 34 1 #[(0, t15_10)]) w fun t16_11 w =>
  eff Pg (Builtin.append_ #[34, 34] 34 #[(nth s8 0), t16_11]) w fun t17_12 w =>
  pur Pg (binOp Go.BinOp.add 2 (nth s8 1) (Go.Value.int Go.IntKind.i64 1)) fun t18_13 =>
  N6 [t17_12, t18_13] w)
  (K (Value.tuple #[(nth s8 0), (Go.Value.bool Bool.true)]) w)) [t9_5, (Go.Value.int Go.IntKind.i64 0)] w)
theorem eq_impl_LevelCounts : ∀ (a0 : Value) (w : World) (K : Value → World → Prop), S_impl_LevelCounts a0 w K = codeS Pg (Try.f17.body.getD .skip) ann_impl_LevelCounts (topX Pg Try.f17.results K) (fun t => Array.getD #[a0] t undef) w := by
  intro a0 w K
  kernel_rfl
theorem call_impl_LevelCounts (a0 : Value) (w : World) (K : Value → World → Prop) (h : S_impl_LevelCounts a0 w K) : callS Pg n_impl_LevelCounts #[a0] w K :=
  callS_of mixed Try.func17 (c := Try.f17.body.getD .skip) (by kernel_rfl) (by kernel_rfl) (ann := ann_impl_LevelCounts) (by kernel_rfl) (Nat.le_of_ble_eq_true (by kernel_rfl)) (by rw [← eq_impl_LevelCounts]; exact h)

-- loop.example/g01165/impl.SameValleys
def ann_impl_SameValleys : Ann :=
  (.seq none (.reg [⟨none, [], [0, 1, 2]⟩] [])
  (.seq none (.reg [⟨none, [], [0, 1, 2]⟩, ⟨some (2, true), [9], [3, 4]⟩, ⟨none, [], [5, 6]⟩, ⟨some (6, true), [14], [7, 8, 9]⟩, ⟨none, [], [10, 11]⟩] [])
  .leaf))
def S_impl_SameValleys (a0 a1 : Value) (w : World) (K : Value → World → Prop) : Prop :=
  eff Pg (Instr.box 26 a0) w fun t2_1 w =>
  eff Pg (Instr.box 26 a1) w fun t3_2 w =>
  rd Pg (Instr.loadAt 26 t2_1) w fun t5_3 =>
  callS Pg n_impl_ValidGrey #[t5_3] w fun t6_4 w =>
  joinS (fun g5 s6 w =>
  pickS t6_4 (nth s6 0) (Go.Value.bool Bool.false) fun t10_8 =>
  joinS (fun g9 s10 w =>
  pickS t10_8 (nth s10 0) (Go.Value.bool Bool.false) fun t15_12 =>
  K t15_12 w) fun J11 =>
  ifG t10_8 true (callS Pg n_Grey_lasting #[t2_1] w fun t12_13 w =>
  callS Pg n_Grey_lasting #[t3_2] w fun t13_14 w =>
  callS Pg n_sameLists #[t12_13, t13_14] w fun t14_15 w =>
  J11 [t14_15] w)
  (J11 [undef] w)) fun J7 =>
  ifG t6_4 true (rd Pg (Instr.loadAt 26 t3_2) w fun t8_16 =>
  callS Pg n_impl_ValidGrey #[t8_16] w fun t9_17 w =>
  J7 [t9_17] w)
  (J7 [undef] w)
theorem eq_impl_SameValleys : ∀ (a0 a1 : Value) (w : World) (K : Value → World → Prop), S_impl_SameValleys a0 a1 w K = codeS Pg (Try.f18.body.getD .skip) ann_impl_SameValleys (topX Pg Try.f18.results K) (fun t => Array.getD #[a0, a1] t undef) w := by
  intro a0 a1 w K
  kernel_rfl
theorem call_impl_SameValleys (a0 a1 : Value) (w : World) (K : Value → World → Prop) (h : S_impl_SameValleys a0 a1 w K) : callS Pg n_impl_SameValleys #[a0, a1] w K :=
  callS_of mixed Try.func18 (c := Try.f18.body.getD .skip) (by kernel_rfl) (by kernel_rfl) (ann := ann_impl_SameValleys) (by kernel_rfl) (Nat.le_of_ble_eq_true (by kernel_rfl)) (by rw [← eq_impl_SameValleys]; exact h)

-- loop.example/g01165/impl.CountBelow
def ann_impl_CountBelow : Ann :=
  (.seq none (.reg [⟨none, [], [0, 1, 2]⟩] [])
  (.seq none (.seq none (.reg [⟨none, [], [0, 1, 2, 3]⟩, ⟨some (3, false), [12], [4, 5, 6]⟩, ⟨none, [], [7]⟩] [])
  (.cond (.seq none (.reg [⟨none, [], [0, 1]⟩] [])
  .leaf)
  .leaf))
  (.seq none (.reg [⟨none, [], [0, 1, 2, 3]⟩] [])
  .leaf)))
def S_impl_CountBelow (a0 a1 : Value) (w : World) (K : Value → World → Prop) : Prop :=
  eff Pg (Instr.box 26 a0) w fun t2_1 w =>
  rd Pg (Instr.loadAt 26 t2_1) w fun t6_2 =>
  callS Pg n_impl_ValidGrey #[t6_2] w fun t7_3 w =>
  pur Pg (Op.unary Go.UnOp.not t7_3) fun t8_4 =>
  joinS (fun g5 s6 w =>
  pickS t8_4 (Go.Value.bool Bool.true) (nth s6 0) fun t13_8 =>
  ifB t13_8 (K (Value.tuple #[(Go.Value.int Go.IntKind.i64 0), (Go.Value.bool Bool.false)]) w)
  (callS Pg n_Grey_below #[t2_1, a1] w fun t15_9 w =>
  K (Value.tuple #[t15_9, (Go.Value.bool Bool.true)]) w)) fun J7 =>
  ifG t8_4 false (callS Pg n_in #[a1, (Go.Value.int Go.IntKind.i64 0), (Go.Value.int Go.IntKind.i64 99)] w fun t11_10 w =>
  pur Pg (Op.unary Go.UnOp.not t11_10) fun t12_11 =>
  J7 [t12_11] w)
  (J7 [undef] w)
theorem eq_impl_CountBelow : ∀ (a0 a1 : Value) (w : World) (K : Value → World → Prop), S_impl_CountBelow a0 a1 w K = codeS Pg (Try.f19.body.getD .skip) ann_impl_CountBelow (topX Pg Try.f19.results K) (fun t => Array.getD #[a0, a1] t undef) w := by
  intro a0 a1 w K
  kernel_rfl
theorem call_impl_CountBelow (a0 a1 : Value) (w : World) (K : Value → World → Prop) (h : S_impl_CountBelow a0 a1 w K) : callS Pg n_impl_CountBelow #[a0, a1] w K :=
  callS_of mixed Try.func19 (c := Try.f19.body.getD .skip) (by kernel_rfl) (by kernel_rfl) (ann := ann_impl_CountBelow) (by kernel_rfl) (Nat.le_of_ble_eq_true (by kernel_rfl)) (by rw [← eq_impl_CountBelow]; exact h)

-- loop.example/g01165/laws.szGrey
def ann_laws_szGrey : Ann :=
  (.seq none (.reg [⟨none, [], [0, 1]⟩] [])
  (.seq none (.reg [⟨none, [], [0, 1, 2, 3, 4]⟩] [])
  (.seq none (.seq none (.reg [⟨none, [], [0, 1]⟩] [])
  (.cond (.seq none (.reg [⟨none, [], [0]⟩] [])
  .leaf)
  .leaf))
  (.seq none (.reg [⟨none, [], [0, 1]⟩] [])
  .leaf))))
def S_laws_szGrey (a0 a1 : Value) (w : World) (K : Value → World → Prop) : Prop :=
  eff Pg (Instr.box 44 a0) w fun t2_1 w =>
  pur Pg (Instr.fieldAt 44 t2_1 0) fun t5_2 =>
  rd Pg (Instr.loadAt 24 t5_2) w fun t6_3 =>
  callS Pg n_laws_szInt64SS #[t6_3, a1] w fun t8_4 w =>
  pur Pg (binOp Go.BinOp.lss 3 t8_4 (Go.Value.int Go.IntKind.i64 0)) fun t10_5 =>
  ifB t10_5 (K (Go.Value.int Go.IntKind.i64 (-1)) w)
  (K t8_4 w)
theorem eq_laws_szGrey : ∀ (a0 a1 : Value) (w : World) (K : Value → World → Prop), S_laws_szGrey a0 a1 w K = codeS Pg (Try.f20.body.getD .skip) ann_laws_szGrey (topX Pg Try.f20.results K) (fun t => Array.getD #[a0, a1] t undef) w := by
  intro a0 a1 w K
  kernel_rfl
theorem call_laws_szGrey (a0 a1 : Value) (w : World) (K : Value → World → Prop) (h : S_laws_szGrey a0 a1 w K) : callS Pg n_laws_szGrey #[a0, a1] w K :=
  callS_of mixed Try.func20 (c := Try.f20.body.getD .skip) (by kernel_rfl) (by kernel_rfl) (ann := ann_laws_szGrey) (by kernel_rfl) (Nat.le_of_ble_eq_true (by kernel_rfl)) (by rw [← eq_laws_szGrey]; exact h)

-- loop.example/g01165/spec.ValleysOf
def ann_spec_ValleysOf : Ann :=
  (.seq none (.reg [⟨none, [], [0, 1, 2]⟩] [])
  (.seq none (.seq none (.reg [⟨none, [], [0, 1]⟩] [])
  (.cond (.seq none (.reg [⟨none, [], [0, 1]⟩] [])
  .leaf)
  .leaf))
  (.seq none (.reg [⟨none, [], [0, 1, 2]⟩] [])
  .leaf)))
def S_spec_ValleysOf (a0 : Value) (w : World) (K : Value → World → Prop) : Prop :=
  eff Pg (Instr.box 26 a0) w fun t1_1 w =>
  callS Pg n_l07Is #[t1_1] w fun t4_2 w =>
  pur Pg (Op.unary Go.UnOp.not t4_2) fun t5_3 =>
  ifB t5_3 (K (Value.tuple #[(Go.Value.slice Option.none 0 0), (Go.Value.bool Bool.false)]) w)
  (callS Pg n_l09Pairs #[t1_1] w fun t6_4 w =>
  K (Value.tuple #[t6_4, (Go.Value.bool Bool.true)]) w)
theorem eq_spec_ValleysOf : ∀ (a0 : Value) (w : World) (K : Value → World → Prop), S_spec_ValleysOf a0 w K = codeS Pg (Try.f21.body.getD .skip) ann_spec_ValleysOf (topX Pg Try.f21.results K) (fun t => Array.getD #[a0] t undef) w := by
  intro a0 w K
  kernel_rfl
theorem call_spec_ValleysOf (a0 : Value) (w : World) (K : Value → World → Prop) (h : S_spec_ValleysOf a0 w K) : callS Pg n_spec_ValleysOf #[a0] w K :=
  callS_of mixed Try.func21 (c := Try.f21.body.getD .skip) (by kernel_rfl) (by kernel_rfl) (ann := ann_spec_ValleysOf) (by kernel_rfl) (Nat.le_of_ble_eq_true (by kernel_rfl)) (by rw [← eq_spec_ValleysOf]; exact h)

-- loop.example/g01165/laws.toGrey
def ann_laws_toGrey : Ann :=
  (.seq none (.reg [⟨none, [], [0, 1]⟩] [])
  (.seq none (.reg [⟨none, [], [0]⟩] [])
  (.seq none (.reg [⟨none, [], [0, 1, 2, 3, 4]⟩] [])
  (.seq none (.reg [⟨none, [], [0, 1]⟩] [])
  .leaf))))
def S_laws_toGrey (a0 : Value) (w : World) (K : Value → World → Prop) : Prop :=
  eff Pg (Instr.box 44 a0) w fun t1_1 w =>
  eff Pg (Instr.alloc 26 true (.tuple #[])) w fun t2_2 w =>
  eff Pg (Instr.alloc 26 true (.tuple #[])) w fun t3_3 w =>
  pur Pg (Instr.fieldAt 44 t1_1 0) fun t4_4 =>
  rd Pg (Instr.loadAt 24 t4_4) w fun t5_5 =>
  callS Pg n_laws_toInt64SS #[t5_5] w fun t6_6 w =>
  pur Pg (Instr.fieldAt 26 t3_3 0) fun t7_7 =>
  effU Pg (Instr.storeAt 24 t7_7 t6_6) w fun w =>
  rd Pg (Instr.loadAt 26 t3_3) w fun t8_8 =>
  effU Pg (Instr.storeAt 26 t2_2 t8_8) w fun w =>
  rd Pg (resCell 26 t2_2) w fun r9 =>
  K r9 w
theorem eq_laws_toGrey : ∀ (a0 : Value) (w : World) (K : Value → World → Prop), S_laws_toGrey a0 w K = codeS Pg (Try.f22.body.getD .skip) ann_laws_toGrey (topX Pg Try.f22.results K) (fun t => Array.getD #[a0] t undef) w := by
  intro a0 w K
  kernel_rfl
theorem call_laws_toGrey (a0 : Value) (w : World) (K : Value → World → Prop) (h : S_laws_toGrey a0 w K) : callS Pg n_laws_toGrey #[a0] w K :=
  callS_of mixed Try.func22 (c := Try.f22.body.getD .skip) (by kernel_rfl) (by kernel_rfl) (ann := ann_laws_toGrey) (by kernel_rfl) (Nat.le_of_ble_eq_true (by kernel_rfl)) (by rw [← eq_laws_toGrey]; exact h)

-- loop.example/g01165/laws.eqInt64SS
def ann_laws_eqInt64SS : Ann :=
  (.seq none (.reg [⟨none, [], [0]⟩] [])
  (.seq none (.seq none (.reg [⟨none, [], [0, 1, 2, 3, 4]⟩] [])
  (.cond (.seq none (.reg [⟨none, [], [0]⟩] [])
  .leaf)
  .leaf))
  (.seq none (.seq none (.reg [⟨none, [], [0]⟩] [])
  (.sub (.loop [5] [11, 12, 13, 14, 17, 18, 19, 20, 21, 22, 23, 24, 25, 26, 4, 15, 16, 5]
  (.seq none (.seq none (.reg [⟨none, [], [0, 1, 2, 3]⟩] [])
  (.cond .leaf
  .leaf))
  (.seq none (.sub (.seq none (.reg [⟨none, [], [0, 1, 2, 3, 4, 5, 6, 7, 8, 9]⟩] [])
  (.cond (.seq none (.reg [⟨none, [], [0]⟩] [])
  .leaf)
  .leaf)))
  (.reg [⟨none, [], [0, 1, 2]⟩] []))))))
  (.seq none (.reg [⟨none, [], [0]⟩] [])
  .leaf))))
def S_laws_eqInt64SS (a0 a1 : Value) (w : World) (K : Value → World → Prop) : Prop :=
  rd Pg (Builtin.len_ #[24] 3 #[a0]) w fun t7_1 =>
  rd Pg (Builtin.len_ #[24] 3 #[a1]) w fun t9_2 =>
  rd Pg (binSem Go.BinOp.neq 3 (Go.Operand.tmp 7) (Go.Operand.tmp 9) t7_1 t9_2) w fun t10_3 =>
  ifB t10_3 (K (Go.Value.bool Bool.false) w)
  (loopS (fun N4 g5 s6 w =>
  rd Pg (Builtin.len_ #[24] 3 #[a0]) w fun t13_7 =>
  pur Pg (binOp Go.BinOp.lss 3 (nth s6 0) t13_7) fun t14_8 =>
  ifB t14_8 (drawS w fun w =>
  pur Pg (Instr.indexAt 24 a0 (nth s6 0)) fun t19_9 =>
  rd Pg (Instr.loadAt 34 t19_9) w fun t20_10 =>
  pur Pg (Instr.indexAt 24 a1 (nth s6 0)) fun t23_11 =>
  rd Pg (Instr.loadAt 34 t23_11) w fun t24_12 =>
  callS Pg n_laws_eqInt64S #[t20_10, t24_12] w fun t25_13 w =>
  pur Pg (Op.unary Go.UnOp.not t25_13) fun t26_14 =>
  ifB t26_14 (K (Go.Value.bool Bool.false) w)
  (pur Pg (binOp Go.BinOp.add 3 (nth s6 0) (Go.Value.int Go.IntKind.i64 1)) fun t16_15 =>
  N4 [t16_15] w))
  (K (Go.Value.bool Bool.true) w)) [(Go.Value.int Go.IntKind.i64 0)] w)
theorem eq_laws_eqInt64SS : ∀ (a0 a1 : Value) (w : World) (K : Value → World → Prop), S_laws_eqInt64SS a0 a1 w K = codeS Pg (Try.f23.body.getD .skip) ann_laws_eqInt64SS (topX Pg Try.f23.results K) (fun t => Array.getD #[a0, a1] t undef) w := by
  intro a0 a1 w K
  kernel_rfl
theorem call_laws_eqInt64SS (a0 a1 : Value) (w : World) (K : Value → World → Prop) (h : S_laws_eqInt64SS a0 a1 w K) : callS Pg n_laws_eqInt64SS #[a0, a1] w K :=
  callS_of mixed Try.func23 (c := Try.f23.body.getD .skip) (by kernel_rfl) (by kernel_rfl) (ann := ann_laws_eqInt64SS) (by kernel_rfl) (Nat.le_of_ble_eq_true (by kernel_rfl)) (by rw [← eq_laws_eqInt64SS]; exact h)

-- loop.example/g01165/laws.eqGrey
def ann_laws_eqGrey : Ann :=
  (.seq none (.reg [⟨none, [], [0, 1, 2]⟩] [])
  (.seq none (.seq none (.reg [⟨none, [], [0, 1, 2, 3, 4, 5]⟩] [])
  (.cond (.seq none (.reg [⟨none, [], [0]⟩] [])
  .leaf)
  .leaf))
  (.seq none (.reg [⟨none, [], [0]⟩] [])
  .leaf)))
def S_laws_eqGrey (a0 a1 : Value) (w : World) (K : Value → World → Prop) : Prop :=
  eff Pg (Instr.box 26 a0) w fun t2_1 w =>
  eff Pg (Instr.box 26 a1) w fun t3_2 w =>
  pur Pg (Instr.fieldAt 26 t2_1 0) fun t5_3 =>
  rd Pg (Instr.loadAt 24 t5_3) w fun t6_4 =>
  pur Pg (Instr.fieldAt 26 t3_2 0) fun t7_5 =>
  rd Pg (Instr.loadAt 24 t7_5) w fun t8_6 =>
  callS Pg n_laws_eqInt64SS #[t6_4, t8_6] w fun t9_7 w =>
  pur Pg (Op.unary Go.UnOp.not t9_7) fun t10_8 =>
  ifB t10_8 (K (Go.Value.bool Bool.false) w)
  (K (Go.Value.bool Bool.true) w)
theorem eq_laws_eqGrey : ∀ (a0 a1 : Value) (w : World) (K : Value → World → Prop), S_laws_eqGrey a0 a1 w K = codeS Pg (Try.f24.body.getD .skip) ann_laws_eqGrey (topX Pg Try.f24.results K) (fun t => Array.getD #[a0, a1] t undef) w := by
  intro a0 a1 w K
  kernel_rfl
theorem call_laws_eqGrey (a0 a1 : Value) (w : World) (K : Value → World → Prop) (h : S_laws_eqGrey a0 a1 w K) : callS Pg n_laws_eqGrey #[a0, a1] w K :=
  callS_of mixed Try.func24 (c := Try.f24.body.getD .skip) (by kernel_rfl) (by kernel_rfl) (ann := ann_laws_eqGrey) (by kernel_rfl) (Nat.le_of_ble_eq_true (by kernel_rfl)) (by rw [← eq_laws_eqGrey]; exact h)

-- loop.example/g01165/laws.markGrey
def ann_laws_markGrey : Ann :=
  (.seq none (.reg [⟨none, [], [0, 1]⟩] [])
  (.seq none (.reg [⟨none, [], [0, 1, 2, 3, 4]⟩] [])
  (.seq none (.reg [⟨none, [], [0, 1]⟩] [])
  .leaf)))
def S_laws_markGrey (a0 a1 : Value) (w : World) (K : Value → World → Prop) : Prop :=
  eff Pg (Instr.box 26 a0) w fun t2_1 w =>
  pur Pg (Instr.fieldAt 26 t2_1 0) fun t5_2 =>
  rd Pg (Instr.loadAt 24 t5_2) w fun t6_3 =>
  callS Pg n_laws_markInt64SS #[t6_3, a1] w fun t8_4 w =>
  K t8_4 w
theorem eq_laws_markGrey : ∀ (a0 a1 : Value) (w : World) (K : Value → World → Prop), S_laws_markGrey a0 a1 w K = codeS Pg (Try.f25.body.getD .skip) ann_laws_markGrey (topX Pg Try.f25.results K) (fun t => Array.getD #[a0, a1] t undef) w := by
  intro a0 a1 w K
  kernel_rfl
theorem call_laws_markGrey (a0 a1 : Value) (w : World) (K : Value → World → Prop) (h : S_laws_markGrey a0 a1 w K) : callS Pg n_laws_markGrey #[a0, a1] w K :=
  callS_of mixed Try.func25 (c := Try.f25.body.getD .skip) (by kernel_rfl) (by kernel_rfl) (ann := ann_laws_markGrey) (by kernel_rfl) (Nat.le_of_ble_eq_true (by kernel_rfl)) (by rw [← eq_laws_markGrey]; exact h)

-- loop.example/g01165/laws.markInt64SS
def ann_laws_markInt64SS : Ann :=
  (.seq none (.reg [⟨none, [], [0]⟩] [])
  (.seq none (.seq none (.reg [⟨none, [], [0]⟩] [])
  (.sub (.loop [1, 5] [6, 7, 8, 9, 12, 13, 14, 15, 16, 17, 1, 10, 11, 5]
  (.seq none (.seq none (.reg [⟨none, [], [0, 1, 2, 3]⟩] [])
  (.cond .leaf
  .leaf))
  (.seq none (.sub (.reg [⟨none, [], [0, 1, 2, 3, 4, 5, 6]⟩] []))
  (.reg [⟨none, [], [0, 1, 2]⟩] []))))))
  (.seq none (.reg [⟨none, [], [0, 1]⟩] [])
  .leaf)))
def S_laws_markInt64SS (a0 a1 : Value) (w : World) (K : Value → World → Prop) : Prop :=
  loopS (fun N1 g2 s3 w =>
  rd Pg (Builtin.len_ #[24] 3 #[a0]) w fun t8_4 =>
  pur Pg (binOp Go.BinOp.lss 3 (nth s3 1) t8_4) fun t9_5 =>
  ifB t9_5 (pur Pg (Instr.indexAt 24 a0 (nth s3 1)) fun t14_6 =>
  rd Pg (Instr.loadAt 34 t14_6) w fun t15_7 =>
  callS Pg n_laws_markInt64S #[t15_7, (nth s3 0)] w fun t17_8 w =>
  pur Pg (binOp Go.BinOp.add 3 (nth s3 1) (Go.Value.int Go.IntKind.i64 1)) fun t11_9 =>
  N1 [t17_8, t11_9] w)
  (K (nth s3 0) w)) [a1, (Go.Value.int Go.IntKind.i64 0)] w
theorem eq_laws_markInt64SS : ∀ (a0 a1 : Value) (w : World) (K : Value → World → Prop), S_laws_markInt64SS a0 a1 w K = codeS Pg (Try.f26.body.getD .skip) ann_laws_markInt64SS (topX Pg Try.f26.results K) (fun t => Array.getD #[a0, a1] t undef) w := by
  intro a0 a1 w K
  kernel_rfl
theorem call_laws_markInt64SS (a0 a1 : Value) (w : World) (K : Value → World → Prop) (h : S_laws_markInt64SS a0 a1 w K) : callS Pg n_laws_markInt64SS #[a0, a1] w K :=
  callS_of mixed Try.func26 (c := Try.f26.body.getD .skip) (by kernel_rfl) (by kernel_rfl) (ann := ann_laws_markInt64SS) (by kernel_rfl) (Nat.le_of_ble_eq_true (by kernel_rfl)) (by rw [← eq_laws_markInt64SS]; exact h)

-- loop.example/g01165/laws.heldInt64SS
def ann_laws_heldInt64SS : Ann :=
  (.seq none (.reg [⟨none, [], [0]⟩] [])
  (.seq none (.seq none (.reg [⟨none, [], [0]⟩] [])
  (.sub (.loop [1, 5] [6, 7, 8, 9, 12, 13, 14, 15, 16, 17, 1, 18, 19, 4, 10, 11, 5]
  (.seq none (.seq none (.reg [⟨none, [], [0, 1, 2, 3]⟩] [])
  (.cond .leaf
  .leaf))
  (.seq none (.sub (.seq none (.reg [⟨none, [], [0, 1, 2, 3, 4, 5, 6]⟩] [])
  (.seq none (.reg [⟨none, [], [0, 1]⟩] [])
  (.cond (.seq none (.reg [⟨none, [], [0]⟩] [])
  .leaf)
  .leaf))))
  (.reg [⟨none, [], [0, 1, 2]⟩] []))))))
  (.seq none (.reg [⟨none, [], [0, 1]⟩] [])
  .leaf)))
def S_laws_heldInt64SS (a0 a1 : Value) (w : World) (K : Value → World → Prop) : Prop :=
  loopS (fun N1 g2 s3 w =>
  rd Pg (Builtin.len_ #[24] 3 #[a0]) w fun t8_4 =>
  pur Pg (binOp Go.BinOp.lss 3 (nth s3 1) t8_4) fun t9_5 =>
  ifB t9_5 (pur Pg (Instr.indexAt 24 a0 (nth s3 1)) fun t14_6 =>
  rd Pg (Instr.loadAt 34 t14_6) w fun t15_7 =>
  callS Pg n_laws_heldInt64S #[t15_7, (nth s3 0)] w fun t17_8 w =>
  pur Pg (binOp Go.BinOp.lss 3 t17_8 (Go.Value.int Go.IntKind.i64 0)) fun t19_9 =>
  ifB t19_9 (K (Go.Value.int Go.IntKind.i64 (-1)) w)
  (pur Pg (binOp Go.BinOp.add 3 (nth s3 1) (Go.Value.int Go.IntKind.i64 1)) fun t11_10 =>
  N1 [t17_8, t11_10] w))
  (K (nth s3 0) w)) [a1, (Go.Value.int Go.IntKind.i64 0)] w
theorem eq_laws_heldInt64SS : ∀ (a0 a1 : Value) (w : World) (K : Value → World → Prop), S_laws_heldInt64SS a0 a1 w K = codeS Pg (Try.f27.body.getD .skip) ann_laws_heldInt64SS (topX Pg Try.f27.results K) (fun t => Array.getD #[a0, a1] t undef) w := by
  intro a0 a1 w K
  kernel_rfl
theorem call_laws_heldInt64SS (a0 a1 : Value) (w : World) (K : Value → World → Prop) (h : S_laws_heldInt64SS a0 a1 w K) : callS Pg n_laws_heldInt64SS #[a0, a1] w K :=
  callS_of mixed Try.func27 (c := Try.f27.body.getD .skip) (by kernel_rfl) (by kernel_rfl) (ann := ann_laws_heldInt64SS) (by kernel_rfl) (Nat.le_of_ble_eq_true (by kernel_rfl)) (by rw [← eq_laws_heldInt64SS]; exact h)

-- loop.example/g01165/spec.SameValleys
def ann_spec_SameValleys : Ann :=
  (.seq none (.reg [⟨none, [], [0, 1, 2]⟩] [])
  (.seq none (.seq none (.reg [⟨none, [], [0, 1, 2]⟩, ⟨some (2, false), [12], [3, 4]⟩, ⟨none, [], [5]⟩] [])
  (.cond (.seq none (.reg [⟨none, [], [0]⟩] [])
  .leaf)
  .leaf))
  (.seq none (.reg [⟨none, [], [0, 1]⟩] [])
  (.seq none (.reg [⟨none, [], [0, 1]⟩] [])
  (.seq none (.seq none (.reg [⟨none, [], [0, 1, 2, 3, 4]⟩] [])
  (.cond (.seq none (.reg [⟨none, [], [0]⟩] [])
  .leaf)
  .leaf))
  (.seq none (.seq none (.reg [⟨none, [], [0, 1, 2]⟩] [])
  (.sub (.loop [23] [24, 25, 7, 26, 27, 28, 29, 30, 31, 32, 33, 34, 35, 4, 36, 23]
  (.seq none (.reg [⟨none, [], [0]⟩] [])
  (.seq none (.cond .leaf
  .leaf)
  (.seq none (.sub (.seq none (.reg [⟨none, [], [0, 1]⟩] [])
  (.seq none (.reg [⟨none, [], [0, 1, 2, 3, 4, 5, 6, 7, 8, 9]⟩] [])
  (.cond (.seq none (.reg [⟨none, [], [0]⟩] [])
  .leaf)
  .leaf))))
  (.reg [⟨none, [], [0, 1]⟩] [])))))))
  (.seq none (.reg [⟨none, [], [0]⟩] [])
  .leaf)))))))
def S_spec_SameValleys (a0 a1 : Value) (w : World) (K : Value → World → Prop) : Prop :=
  eff Pg (Instr.box 26 a0) w fun t2_1 w =>
  eff Pg (Instr.box 26 a1) w fun t3_2 w =>
  callS Pg n_l07Is #[t2_1] w fun t8_3 w =>
  pur Pg (Op.unary Go.UnOp.not t8_3) fun t9_4 =>
  joinS (fun g5 s6 w =>
  pickS t9_4 (Go.Value.bool Bool.true) (nth s6 0) fun t13_8 =>
  ifB t13_8 (K (Go.Value.bool Bool.false) w)
  (callS Pg n_l09Pairs #[t2_1] w fun t14_9 w =>
  callS Pg n_l09Pairs #[t3_2] w fun t15_10 w =>
  rd Pg (Builtin.len_ #[24] 3 #[t14_9]) w fun t17_11 =>
  rd Pg (Builtin.len_ #[24] 3 #[t15_10]) w fun t19_12 =>
  rd Pg (binSem Go.BinOp.neq 3 (Go.Operand.tmp 17) (Go.Operand.tmp 19) t17_11 t19_12) w fun t20_13 =>
  ifB t20_13 (K (Go.Value.bool Bool.false) w)
  (rd Pg (Builtin.len_ #[24] 3 #[t14_9]) w fun t22_14 =>
  loopS (fun N15 g16 s17 w =>
  pur Pg (binOp Go.BinOp.lss 3 (nth s17 0) t22_14) fun t24_18 =>
  ifB t24_18 (drawS w fun w =>
  pur Pg (Instr.indexAt 24 t14_9 (nth s17 0)) fun t28_19 =>
  rd Pg (Instr.loadAt 34 t28_19) w fun t29_20 =>
  pur Pg (Instr.indexAt 24 t15_10 (nth s17 0)) fun t32_21 =>
  rd Pg (Instr.loadAt 34 t32_21) w fun t33_22 =>
  callS Pg n_l00Same #[t29_20, t33_22] w fun t34_23 w =>
  pur Pg (Op.unary Go.UnOp.not t34_23) fun t35_24 =>
  ifB t35_24 (K (Go.Value.bool Bool.false) w)
  (pur Pg (binOp Go.BinOp.add 3 (nth s17 0) (Go.Value.int Go.IntKind.i64 1)) fun t36_25 =>
  N15 [t36_25] w))
  (K (Go.Value.bool Bool.true) w)) [(Go.Value.int Go.IntKind.i64 0)] w))) fun J7 =>
  ifG t9_4 false (callS Pg n_l07Is #[t3_2] w fun t11_26 w =>
  pur Pg (Op.unary Go.UnOp.not t11_26) fun t12_27 =>
  J7 [t12_27] w)
  (J7 [undef] w)
theorem eq_spec_SameValleys : ∀ (a0 a1 : Value) (w : World) (K : Value → World → Prop), S_spec_SameValleys a0 a1 w K = codeS Pg (Try.f28.body.getD .skip) ann_spec_SameValleys (topX Pg Try.f28.results K) (fun t => Array.getD #[a0, a1] t undef) w := by
  intro a0 a1 w K
  kernel_rfl
theorem call_spec_SameValleys (a0 a1 : Value) (w : World) (K : Value → World → Prop) (h : S_spec_SameValleys a0 a1 w K) : callS Pg n_spec_SameValleys #[a0, a1] w K :=
  callS_of mixed Try.func28 (c := Try.f28.body.getD .skip) (by kernel_rfl) (by kernel_rfl) (ann := ann_spec_SameValleys) (by kernel_rfl) (Nat.le_of_ble_eq_true (by kernel_rfl)) (by rw [← eq_spec_SameValleys]; exact h)

-- loop.example/g01165/spec.FillValleys
def ann_spec_FillValleys : Ann :=
  (.seq none (.reg [⟨none, [], [0, 1, 2]⟩] [])
  (.seq none (.seq none (.reg [⟨none, [], [0, 1, 2]⟩, ⟨some (2, false), [16], [3, 4, 5]⟩, ⟨none, [], [6]⟩] [])
  (.cond (.seq none (.reg [⟨none, [], [0, 1, 2]⟩] [])
  .leaf)
  .leaf))
  (.seq none (.reg [⟨none, [], [0, 1, 2, 3]⟩] [])
  (.seq none (.reg [⟨none, [], [0, 1, 2, 3]⟩] [])
  (.seq none (.seq none (.reg [⟨none, [], [0, 1, 2]⟩] [])
  (.sub (.loop [27] [28, 29, 8, 30, 31, 32, 33, 9, 34, 35, 36, 37, 38, 39, 40, 41, 42, 43, 44, 45, 46, 47, 48, 49, 50, 51, 10, 52, 53, 54, 55, 56, 57, 58, 59, 60, 61, 62, 63, 64, 65, 66, 67, 68, 69, 70, 71, 27]
  (.seq none (.reg [⟨none, [], [0]⟩] [])
  (.seq none (.cond .leaf
  .leaf)
  (.seq (some ([], [29, 8, 30, 31, 32, 33, 9, 34, 35, 36, 37, 38, 39, 40, 41, 42, 43, 44, 45, 46, 47, 48, 49, 50, 51, 10, 52, 53, 54, 55, 56, 57, 58, 59, 60, 61, 62, 63, 64, 65, 66, 67, 68, 69, 70])) (.sub (.seq none (.reg [⟨none, [], [0, 1]⟩] [])
  (.seq none (.reg [⟨none, [], [0, 1, 2, 3, 4, 5]⟩] [])
  (.seq none (.seq none (.reg [⟨none, [], [0, 1, 2, 3]⟩, ⟨some (3, false), [44], [4, 5, 6, 7, 8, 9, 10]⟩, ⟨none, [], [11]⟩] [])
  (.cond .leaf
  .leaf))
  (.seq none (.reg [⟨none, [], [0, 1, 2, 3]⟩] [])
  (.sub (.loop [49] [50, 51, 10, 52, 53, 54, 55, 56, 57, 58, 59, 60, 61, 62, 63, 64, 65, 66, 67, 68, 69, 70, 49]
  (.seq none (.reg [⟨none, [], [0]⟩] [])
  (.seq none (.cond .leaf
  .leaf)
  (.seq none (.sub (.seq none (.reg [⟨none, [], [0, 1]⟩] [])
  (.reg [⟨none, [], [0, 1, 2, 3, 4, 5, 6, 7, 8, 9, 10, 11, 12, 13, 14, 15, 16, 17, 18]⟩] [2, 5, 16])))
  (.reg [⟨none, [], [0, 1]⟩] [])))))))))))
  (.reg [⟨none, [], [0, 1]⟩] [])))))))
  (.seq none (.reg [⟨none, [], [0, 1, 2, 3, 4, 5]⟩] [])
  .leaf))))))
def S_spec_FillValleys (a0 a1 : Value) (w : World) (K : Value → World → Prop) : Prop :=
  eff Pg (Instr.box 26 a0) w fun t2_1 w =>
  eff Pg (Instr.alloc 26 true (.tuple #[])) w fun t4_2 w =>
  callS Pg n_l07Is #[t2_1] w fun t11_3 w =>
  pur Pg (Op.unary Go.UnOp.not t11_3) fun t12_4 =>
  joinS (fun g5 s6 w =>
  pickS t12_4 (Go.Value.bool Bool.true) (nth s6 0) fun t17_8 =>
  ifB t17_8 (pur Pg (Instr.build 26 #[]) fun t18_9 =>
  effU Pg (Instr.storeAt 26 t4_2 t18_9) w fun w =>
  rd Pg (resCell 26 t4_2) w fun r10 =>
  K (Value.tuple #[r10, (Go.Value.bool Bool.false)]) w)
  (pur Pg (Instr.fieldAt 26 t2_1 0) fun t19_11 =>
  rd Pg (Instr.loadAt 24 t19_11) w fun t20_12 =>
  callS Pg n_l07List #[t20_12] w fun t21_13 w =>
  callS Pg n_l07Width #[t2_1] w fun t22_14 w =>
  callS Pg n_l09Valleys #[t22_14, t21_13] w fun t24_15 w =>
  rd Pg (Builtin.len_ #[76] 3 #[t24_15]) w fun t26_16 =>
  loopS (fun N17 g18 s19 w =>
  pur Pg (binOp Go.BinOp.lss 3 (nth s19 0) t26_16) fun t28_20 =>
  ifB t28_20 (joinS (fun g21 s22 w =>
  pur Pg (binOp Go.BinOp.add 3 (nth s19 0) (Go.Value.int Go.IntKind.i64 1)) fun t71_24 =>
  N17 [t71_24] w) fun J23 =>
  pur Pg (Instr.indexAt 76 t24_15 (nth s19 0)) fun t32_25 =>
  rd Pg (Instr.loadAt 80 t32_25) w fun t33_26 =>
  eff Pg (Instr.alloc 80 true (.tuple #[])) w fun t9_27 w =>
  effU Pg (Instr.storeAt 80 t9_27 t33_26) w fun w =>
  pur Pg (Instr.fieldAt 80 t9_27 2) fun t34_28 =>
  rd Pg (Instr.loadAt 2 t34_28) w fun t35_29 =>
  pur Pg (binOp Go.BinOp.lss 2 t35_29 (Go.Value.int Go.IntKind.i64 0)) fun t36_30 =>
  joinS (fun g31 s32 w =>
  pickS t36_30 (Go.Value.bool Bool.true) (nth s32 0) fun t45_34 =>
  ifB t45_34 (J23 [] w)
  (pur Pg (Instr.fieldAt 80 t9_27 3) fun t46_35 =>
  rd Pg (Instr.loadAt 34 t46_35) w fun t47_36 =>
  rd Pg (Builtin.len_ #[34] 3 #[t47_36]) w fun t48_37 =>
  loopS (fun N38 g39 s40 w =>
  pur Pg (binOp Go.BinOp.lss 3 (nth s40 0) t48_37) fun t50_41 =>
  ifB t50_41 (drawF w fun S42 w =>
  pur Pg (Instr.fieldAt 80 t9_27 3) fun t53_43 =>
  rdF Pg S42 (Instr.loadAt 34 t53_43) fun t54_44 =>
  pur Pg (Instr.indexAt 34 t54_44 (nth s40 0)) fun t56_45 =>
  rdF Pg S42 (Instr.loadAt 2 t56_45) fun t57_46 =>
  pur Pg (Instr.fieldAt 80 t9_27 3) fun t59_47 =>
  rd Pg (Instr.loadAt 34 t59_47) w fun t60_48 =>
  pur Pg (Instr.indexAt 34 t60_48 (nth s40 0)) fun t62_49 =>
  rd Pg (Instr.loadAt 2 t62_49) w fun t63_50 =>
  pur Pg (Instr.indexAt 34 t21_13 t63_50) fun t64_51 =>
  rd Pg (Instr.loadAt 2 t64_51) w fun t65_52 =>
  pur Pg (Instr.fieldAt 80 t9_27 2) fun t66_53 =>
  rd Pg (Instr.loadAt 2 t66_53) w fun t67_54 =>
  callS Pg n_l00Max #[t65_52, t67_54] w fun t68_55 w =>
  S42 w ∧
  pur Pg (Instr.indexAt 34 t21_13 t57_46) fun t69_56 =>
  effU Pg (Instr.storeAt 2 t69_56 t68_55) w fun w =>
  pur Pg (binOp Go.BinOp.add 3 (nth s40 0) (Go.Value.int Go.IntKind.i64 1)) fun t70_57 =>
  N38 [t70_57] w)
  (J23 [] w)) [(Go.Value.int Go.IntKind.i64 0)] w)) fun J33 =>
  ifG t36_30 false (pur Pg (Instr.fieldAt 80 t9_27 2) fun t38_58 =>
  rd Pg (Instr.loadAt 2 t38_58) w fun t39_59 =>
  pur Pg (Instr.fieldAt 80 t9_27 0) fun t40_60 =>
  rd Pg (Instr.loadAt 2 t40_60) w fun t41_61 =>
  pur Pg (binOp Go.BinOp.sub 2 t39_59 t41_61) fun t42_62 =>
  pur Pg (binOp Go.BinOp.geq 2 t42_62 a1) fun t44_63 =>
  J33 [t44_63] w)
  (J33 [undef] w))
  (callS Pg n_l07Width #[t2_1] w fun t72_64 w =>
  callS Pg n_l07Rows #[t72_64, t21_13] w fun t74_65 w =>
  pur Pg (Instr.build 26 #[(0, t74_65)]) fun t75_66 =>
  effU Pg (Instr.storeAt 26 t4_2 t75_66) w fun w =>
  rd Pg (resCell 26 t4_2) w fun r67 =>
  K (Value.tuple #[r67, (Go.Value.bool Bool.true)]) w)) [(Go.Value.int Go.IntKind.i64 0)] w)) fun J7 =>
  ifG t12_4 false (callS Pg n_l00In #[a1, (Go.Value.int Go.IntKind.i64 0), (Go.Value.int Go.IntKind.i64 100)] w fun t15_68 w =>
  pur Pg (Op.unary Go.UnOp.not t15_68) fun t16_69 =>
  J7 [t16_69] w)
  (J7 [undef] w)
theorem eq_spec_FillValleys : ∀ (a0 a1 : Value) (w : World) (K : Value → World → Prop), S_spec_FillValleys a0 a1 w K = codeS Pg (Try.f29.body.getD .skip) ann_spec_FillValleys (topX Pg Try.f29.results K) (fun t => Array.getD #[a0, a1] t undef) w := by
  intro a0 a1 w K
  kernel_rfl
theorem call_spec_FillValleys (a0 a1 : Value) (w : World) (K : Value → World → Prop) (h : S_spec_FillValleys a0 a1 w K) : callS Pg n_spec_FillValleys #[a0, a1] w K :=
  callS_of mixed Try.func29 (c := Try.f29.body.getD .skip) (by kernel_rfl) (by kernel_rfl) (ann := ann_spec_FillValleys) (by kernel_rfl) (Nat.le_of_ble_eq_true (by kernel_rfl)) (by rw [← eq_spec_FillValleys]; exact h)

-- loop.example/g01165/laws.heldGrey
def ann_laws_heldGrey : Ann :=
  (.seq none (.reg [⟨none, [], [0, 1]⟩] [])
  (.seq none (.reg [⟨none, [], [0, 1, 2, 3, 4]⟩] [])
  (.seq none (.seq none (.reg [⟨none, [], [0, 1]⟩] [])
  (.cond (.seq none (.reg [⟨none, [], [0]⟩] [])
  .leaf)
  .leaf))
  (.seq none (.reg [⟨none, [], [0, 1]⟩] [])
  .leaf))))
def S_laws_heldGrey (a0 a1 : Value) (w : World) (K : Value → World → Prop) : Prop :=
  eff Pg (Instr.box 26 a0) w fun t2_1 w =>
  pur Pg (Instr.fieldAt 26 t2_1 0) fun t5_2 =>
  rd Pg (Instr.loadAt 24 t5_2) w fun t6_3 =>
  callS Pg n_laws_heldInt64SS #[t6_3, a1] w fun t8_4 w =>
  pur Pg (binOp Go.BinOp.lss 3 t8_4 (Go.Value.int Go.IntKind.i64 0)) fun t10_5 =>
  ifB t10_5 (K (Go.Value.int Go.IntKind.i64 (-1)) w)
  (K t8_4 w)
theorem eq_laws_heldGrey : ∀ (a0 a1 : Value) (w : World) (K : Value → World → Prop), S_laws_heldGrey a0 a1 w K = codeS Pg (Try.f30.body.getD .skip) ann_laws_heldGrey (topX Pg Try.f30.results K) (fun t => Array.getD #[a0, a1] t undef) w := by
  intro a0 a1 w K
  kernel_rfl
theorem call_laws_heldGrey (a0 a1 : Value) (w : World) (K : Value → World → Prop) (h : S_laws_heldGrey a0 a1 w K) : callS Pg n_laws_heldGrey #[a0, a1] w K :=
  callS_of mixed Try.func30 (c := Try.f30.body.getD .skip) (by kernel_rfl) (by kernel_rfl) (ann := ann_laws_heldGrey) (by kernel_rfl) (Nat.le_of_ble_eq_true (by kernel_rfl)) (by rw [← eq_laws_heldGrey]; exact h)

-- loop.example/g01165/spec.l00From
def ann_l00From : Ann :=
  (.seq none (.reg [⟨none, [], [0]⟩] [])
  (.seq none (.reg [⟨none, [], [0, 1, 2, 3]⟩] [])
  .leaf))
def S_l00From (a0 : Value) (w : World) (K : Value → World → Prop) : Prop :=
  pur Pg (Instr.build 85 #[(0, a0)]) fun t4_1 =>
  eff Pg (Instr.box 85 t4_1) w fun t5_2 w =>
  K t5_2 w
theorem eq_l00From : ∀ (a0 : Value) (w : World) (K : Value → World → Prop), S_l00From a0 w K = codeS Pg (Try.f31.body.getD .skip) ann_l00From (topX Pg Try.f31.results K) (fun t => Array.getD #[a0] t undef) w := by
  intro a0 w K
  kernel_rfl
theorem call_l00From (a0 : Value) (w : World) (K : Value → World → Prop) (h : S_l00From a0 w K) : callS Pg n_l00From #[a0] w K :=
  callS_of mixed Try.func31 (c := Try.f31.body.getD .skip) (by kernel_rfl) (by kernel_rfl) (ann := ann_l00From) (by kernel_rfl) (Nat.le_of_ble_eq_true (by kernel_rfl)) (by rw [← eq_l00From]; exact h)

-- (*loop.example/g01165/spec.l00Src).pick
def ann_l00Src_pick : Ann :=
  (.seq none (.reg [⟨none, [], [0]⟩] [])
  (.seq none (.seq none (.reg [⟨none, [], [0, 1]⟩] [])
  (.cond (.seq none (.reg [⟨none, [], [0]⟩] [])
  .leaf)
  .leaf))
  (.seq none (.reg [⟨none, [], [0, 1, 2]⟩] [])
  (.seq (some ([5], [10, 11, 12, 13, 14, 15, 16, 5])) (.seq none (.reg [⟨none, [], [0, 1]⟩] [])
  (.cond (.reg [⟨none, [], [0, 1, 2, 3, 4, 5]⟩] [])
  .leaf))
  (.seq none (.reg [⟨none, [], [0, 1, 2, 3]⟩] [])
  .leaf)))))
def S_l00Src_pick (a0 a1 : Value) (w : World) (K : Value → World → Prop) : Prop :=
  pur Pg (binOp Go.BinOp.leq 2 a1 (Go.Value.int Go.IntKind.i64 1)) fun t7_1 =>
  ifB t7_1 (K (Go.Value.int Go.IntKind.i64 0) w)
  (callS Pg n_l00Src_next #[a0] w fun t9_2 w =>
  joinS (fun g3 s4 w =>
  pur Pg (binOp Go.BinOp.rem 2 (nth s4 0) a1) fun t19_6 =>
  K t19_6 w) fun J5 =>
  pur Pg (binOp Go.BinOp.gtr 2 a1 (Go.Value.int Go.IntKind.i64 200)) fun t11_7 =>
  ifB t11_7 (pur Pg (binOp Go.BinOp.mul 2 t9_2 (Go.Value.int Go.IntKind.i64 256)) fun t13_8 =>
  callS Pg n_l00Src_next #[a0] w fun t15_9 w =>
  pur Pg (binOp Go.BinOp.add 2 t13_8 t15_9) fun t16_10 =>
  J5 [t16_10] w)
  (J5 [t9_2] w))
theorem eq_l00Src_pick : ∀ (a0 a1 : Value) (w : World) (K : Value → World → Prop), S_l00Src_pick a0 a1 w K = codeS Pg (Try.f32.body.getD .skip) ann_l00Src_pick (topX Pg Try.f32.results K) (fun t => Array.getD #[a0, a1] t undef) w := by
  intro a0 a1 w K
  kernel_rfl
theorem call_l00Src_pick (a0 a1 : Value) (w : World) (K : Value → World → Prop) (h : S_l00Src_pick a0 a1 w K) : callS Pg n_l00Src_pick #[a0, a1] w K :=
  callS_of mixed Try.func32 (c := Try.f32.body.getD .skip) (by kernel_rfl) (by kernel_rfl) (ann := ann_l00Src_pick) (by kernel_rfl) (Nat.le_of_ble_eq_true (by kernel_rfl)) (by rw [← eq_l00Src_pick]; exact h)

-- loop.example/g01165/spec.l07DrawSized
def ann_l07DrawSized : Ann :=
  (.seq none (.reg [⟨none, [], [0]⟩] [])
  (.seq none (.reg [⟨none, [], [0, 1]⟩] [])
  (.seq none (.reg [⟨none, [], [0, 1, 2]⟩] [])
  (.seq none (.seq none (.reg [⟨none, [], [0]⟩] [])
  (.sub (.loop [9, 11] [16, 17, 18, 19, 20, 23, 24, 25, 26, 12, 27, 28, 29, 30, 31, 32, 33, 34, 35, 36, 37, 38, 39, 40, 41, 42, 43, 44, 45, 9, 21, 22, 11]
  (.seq none (.seq none (.reg [⟨none, [], [0, 1, 2, 3, 4]⟩] [])
  (.cond .leaf
  .leaf))
  (.seq none (.sub (.seq none (.reg [⟨none, [], [0, 1, 2, 3, 4]⟩] [])
  (.seq (some ([12], [27, 28, 29, 30, 31, 32, 33, 34, 35, 36, 37, 38, 39, 40, 41, 12])) (.seq none (.reg [⟨none, [], [0, 1]⟩, ⟨some (1, true), [30], [2, 3]⟩, ⟨none, [], [4, 5]⟩, ⟨some (5, true), [35], [6, 7, 8]⟩, ⟨none, [], [9]⟩] [])
  (.cond (.reg [⟨none, [], [0, 1, 2, 3, 4, 5]⟩] [])
  .leaf))
  (.reg [⟨none, [], [0, 1, 2, 3, 4]⟩] []))))
  (.reg [⟨none, [], [0, 1, 2]⟩] []))))))
  (.seq none (.reg [⟨none, [], [0, 1, 2, 3, 4]⟩] [])
  .leaf)))))
def S_l07DrawSized (a0 a1 a2 a3 : Value) (w : World) (K : Value → World → Prop) : Prop :=
  eff Pg (Instr.alloc 26 true (.tuple #[])) w fun t8_1 w =>
  eff Pg (Instr.buildSlice 34 0 #[]) w fun t13_2 w =>
  callS Pg n_l00Src_one #[a0, (Go.Value.int Go.IntKind.i64 2)] w fun t15_3 w =>
  loopS (fun N4 g5 s6 w =>
  pur Pg (binOp Go.BinOp.mul 2 a1 a2) fun t19_7 =>
  pur Pg (binOp Go.BinOp.lss 2 (nth s6 1) t19_7) fun t20_8 =>
  ifB t20_8 (pur Pg (binOp Go.BinOp.add 2 a3 (Go.Value.int Go.IntKind.i64 1)) fun t25_9 =>
  callS Pg n_l00Src_pick #[a0, t25_9] w fun t26_10 w =>
  joinS (fun g11 s12 w =>
  eff Pg (Instr.buildSlice 34 1 #[(0, (nth s12 0))]) w fun t44_14 w =>
  eff Pg (Builtin.append_ #[34, 34] 34 #[(nth s6 0), t44_14]) w fun t45_15 w =>
  pur Pg (binOp Go.BinOp.add 2 (nth s6 1) (Go.Value.int Go.IntKind.i64 1)) fun t22_16 =>
  N4 [t45_15, t22_16] w) fun J13 =>
  joinS (fun g17 s18 w =>
  pickS t15_3 (nth s18 0) (Go.Value.bool Bool.false) fun t31_20 =>
  joinS (fun g21 s22 w =>
  pickS t31_20 (nth s22 0) (Go.Value.bool Bool.false) fun t36_24 =>
  ifB t36_24 (pur Pg (binOp Go.BinOp.sub 2 (nth s6 1) (Go.Value.int Go.IntKind.i64 1)) fun t39_25 =>
  pur Pg (Instr.indexAt 34 (nth s6 0) t39_25) fun t40_26 =>
  rd Pg (Instr.loadAt 2 t40_26) w fun t41_27 =>
  J13 [t41_27] w)
  (J13 [t26_10] w)) fun J23 =>
  ifG t31_20 true (callS Pg n_l00Src_one #[a0, (Go.Value.int Go.IntKind.i64 3)] w fun t34_28 w =>
  pur Pg (Op.unary Go.UnOp.not t34_28) fun t35_29 =>
  J23 [t35_29] w)
  (J23 [undef] w)) fun J19 =>
  ifG t15_3 true (pur Pg (binOp Go.BinOp.gtr 2 (nth s6 1) (Go.Value.int Go.IntKind.i64 0)) fun t30_30 =>
  J19 [t30_30] w)
  (J19 [undef] w))
  (callS Pg n_l07Rows #[a1, (nth s6 0)] w fun t48_31 w =>
  pur Pg (Instr.build 26 #[(0, t48_31)]) fun t49_32 =>
  effU Pg (Instr.storeAt 26 t8_1 t49_32) w fun w =>
  rd Pg (resCell 26 t8_1) w fun r33 =>
  K r33 w)) [t13_2, (Go.Value.int Go.IntKind.i64 0)] w
theorem eq_l07DrawSized : ∀ (a0 a1 a2 a3 : Value) (w : World) (K : Value → World → Prop), S_l07DrawSized a0 a1 a2 a3 w K = codeS Pg (Try.f33.body.getD .skip) ann_l07DrawSized (topX Pg Try.f33.results K) (fun t => Array.getD #[a0, a1, a2, a3] t undef) w := by
  intro a0 a1 a2 a3 w K
  kernel_rfl
theorem call_l07DrawSized (a0 a1 a2 a3 : Value) (w : World) (K : Value → World → Prop) (h : S_l07DrawSized a0 a1 a2 a3 w K) : callS Pg n_l07DrawSized #[a0, a1, a2, a3] w K :=
  callS_of mixed Try.func33 (c := Try.f33.body.getD .skip) (by kernel_rfl) (by kernel_rfl) (ann := ann_l07DrawSized) (by kernel_rfl) (Nat.le_of_ble_eq_true (by kernel_rfl)) (by rw [← eq_l07DrawSized]; exact h)

-- loop.example/g01165/impl.ValidGrey
def ann_impl_ValidGrey : Ann :=
  (.seq none (.reg [⟨none, [], [0, 1]⟩] [])
  (.seq none (.reg [⟨none, [], [0, 1, 2, 3]⟩] [])
  .leaf))
def S_impl_ValidGrey (a0 : Value) (w : World) (K : Value → World → Prop) : Prop :=
  eff Pg (Instr.box 26 a0) w fun t1_1 w =>
  pur Pg (Instr.fieldAt 26 t1_1 0) fun t3_2 =>
  rd Pg (Instr.loadAt 24 t3_2) w fun t4_3 =>
  callS Pg n_rowsOk #[t4_3, (Go.Value.int Go.IntKind.i64 99)] w fun t5_4 w =>
  K t5_4 w
theorem eq_impl_ValidGrey : ∀ (a0 : Value) (w : World) (K : Value → World → Prop), S_impl_ValidGrey a0 w K = codeS Pg (Try.f34.body.getD .skip) ann_impl_ValidGrey (topX Pg Try.f34.results K) (fun t => Array.getD #[a0] t undef) w := by
  intro a0 w K
  kernel_rfl
theorem call_impl_ValidGrey (a0 : Value) (w : World) (K : Value → World → Prop) (h : S_impl_ValidGrey a0 w K) : callS Pg n_impl_ValidGrey #[a0] w K :=
  callS_of mixed Try.func34 (c := Try.f34.body.getD .skip) (by kernel_rfl) (by kernel_rfl) (ann := ann_impl_ValidGrey) (by kernel_rfl) (Nat.le_of_ble_eq_true (by kernel_rfl)) (by rw [← eq_impl_ValidGrey]; exact h)

-- loop.example/g01165/impl.in
def ann_in : Ann :=
  (.seq none (.reg [⟨none, [], [0]⟩] [])
  (.seq none (.reg [⟨none, [], [0, 1, 2, 3]⟩, ⟨some (3, true), [13], [4, 5, 6]⟩, ⟨none, [], [7, 8]⟩] [])
  .leaf))
def S_in (a0 a1 a2 : Value) (w : World) (K : Value → World → Prop) : Prop :=
  pur Pg (binOp Go.BinOp.geq 2 a0 a1) fun t9_1 =>
  joinS (fun g2 s3 w =>
  pickS t9_1 (nth s3 0) (Go.Value.bool Bool.false) fun t14_5 =>
  K t14_5 w) fun J4 =>
  ifG t9_1 true (pur Pg (binOp Go.BinOp.leq 2 a0 a2) fun t13_6 =>
  J4 [t13_6] w)
  (J4 [undef] w)
theorem eq_in : ∀ (a0 a1 a2 : Value) (w : World) (K : Value → World → Prop), S_in a0 a1 a2 w K = codeS Pg (Try.f35.body.getD .skip) ann_in (topX Pg Try.f35.results K) (fun t => Array.getD #[a0, a1, a2] t undef) w := by
  intro a0 a1 a2 w K
  kernel_rfl
theorem call_in (a0 a1 a2 : Value) (w : World) (K : Value → World → Prop) (h : S_in a0 a1 a2 w K) : callS Pg n_in #[a0, a1, a2] w K :=
  callS_of mixed Try.func35 (c := Try.f35.body.getD .skip) (by kernel_rfl) (by kernel_rfl) (ann := ann_in) (by kernel_rfl) (Nat.le_of_ble_eq_true (by kernel_rfl)) (by rw [← eq_in]; exact h)

-- (*loop.example/g01165/impl.Grey).remade
def ann_Grey_remade : Ann :=
  (.seq none (.reg [⟨none, [], [0, 1]⟩] [])
  (.seq none (.reg [⟨none, [], [0, 1, 2, 3, 4, 5, 6]⟩] [])
  (.seq none (.reg [⟨none, [], [0, 1, 2, 3, 4, 5, 6]⟩] [])
  .leaf)))
def S_Grey_remade (a0 a1 : Value) (w : World) (K : Value → World → Prop) : Prop :=
  eff Pg (Instr.box 59 a1) w fun t3_1 w =>
  eff Pg (Instr.alloc 26 true (.tuple #[])) w fun t4_2 w =>
  callS Pg n_Grey_sizes #[a0] w fun t9_3 w =>
  pur Pg (Instr.extract t9_3 0) fun t10_4 =>
  pur Pg (Instr.extract t9_3 1) fun t11_5 =>
  callS Pg n_blank #[t10_4, t11_5] w fun t14_6 w =>
  callS Pg n_image_grid #[t14_6, (Value.func (.func n_Grey_remade_1) #[] #[t3_1])] w fun t16_7 w =>
  pur Pg (Instr.build 26 #[(0, t16_7)]) fun t17_8 =>
  effU Pg (Instr.storeAt 26 t4_2 t17_8) w fun w =>
  rd Pg (resCell 26 t4_2) w fun r9 =>
  K r9 w
theorem eq_Grey_remade : ∀ (a0 a1 : Value) (w : World) (K : Value → World → Prop), S_Grey_remade a0 a1 w K = codeS Pg (Try.f36.body.getD .skip) ann_Grey_remade (topX Pg Try.f36.results K) (fun t => Array.getD #[a0, a1] t undef) w := by
  intro a0 a1 w K
  kernel_rfl
theorem call_Grey_remade (a0 a1 : Value) (w : World) (K : Value → World → Prop) (h : S_Grey_remade a0 a1 w K) : callS Pg n_Grey_remade #[a0, a1] w K :=
  callS_of mixed Try.func36 (c := Try.f36.body.getD .skip) (by kernel_rfl) (by kernel_rfl) (ann := ann_Grey_remade) (by kernel_rfl) (Nat.le_of_ble_eq_true (by kernel_rfl)) (by rw [← eq_Grey_remade]; exact h)

-- (*loop.example/g01165/impl.Grey).at
def ann_Grey_at : Ann :=
  (.seq none (.reg [⟨none, [], [0, 1]⟩] [])
  (.seq none (.reg [⟨none, [], [0, 1, 2, 3, 4, 5, 6, 7, 8, 9, 10, 11, 12]⟩] [])
  .leaf))
def S_Grey_at (a0 a1 : Value) (w : World) (K : Value → World → Prop) : Prop :=
  eff Pg (Instr.box 39 a1) w fun t3_1 w =>
  drawS w fun w =>
  nilS a0 fun t6_2 =>
  pur Pg (Instr.fieldAt 26 t6_2 0) fun t7_3 =>
  rd Pg (Instr.loadAt 24 t7_3) w fun t8_4 =>
  pur Pg (Instr.fieldAt 39 t3_1 1) fun t9_5 =>
  rd Pg (Instr.loadAt 2 t9_5) w fun t10_6 =>
  pur Pg (Instr.indexAt 24 t8_4 t10_6) fun t11_7 =>
  rd Pg (Instr.loadAt 34 t11_7) w fun t12_8 =>
  pur Pg (Instr.fieldAt 39 t3_1 0) fun t13_9 =>
  rd Pg (Instr.loadAt 2 t13_9) w fun t14_10 =>
  pur Pg (Instr.indexAt 34 t12_8 t14_10) fun t15_11 =>
  rd Pg (Instr.loadAt 2 t15_11) w fun t16_12 =>
  K t16_12 w
theorem eq_Grey_at : ∀ (a0 a1 : Value) (w : World) (K : Value → World → Prop), S_Grey_at a0 a1 w K = codeS Pg (Try.f37.body.getD .skip) ann_Grey_at (topX Pg Try.f37.results K) (fun t => Array.getD #[a0, a1] t undef) w := by
  intro a0 a1 w K
  kernel_rfl
theorem call_Grey_at (a0 a1 : Value) (w : World) (K : Value → World → Prop) (h : S_Grey_at a0 a1 w K) : callS Pg n_Grey_at #[a0, a1] w K :=
  callS_of mixed Try.func37 (c := Try.f37.body.getD .skip) (by kernel_rfl) (by kernel_rfl) (ann := ann_Grey_at) (by kernel_rfl) (Nat.le_of_ble_eq_true (by kernel_rfl)) (by rw [← eq_Grey_at]; exact h)

-- (*loop.example/g01165/impl.Grey).valleys
def ann_Grey_valleys : Ann :=
  (.seq none (.reg [⟨none, [], [0, 1]⟩] [])
  (.seq none (.reg [⟨none, [], [0, 1, 2]⟩] [])
  (.seq none (.reg [⟨none, [], [0, 1, 2]⟩] [])
  (.seq none (.reg [⟨none, [], [0, 1, 2, 3]⟩] [])
  (.seq none (.reg [⟨none, [], [0, 1, 2]⟩] [])
  (.seq none (.seq none (.reg [⟨none, [], [0, 1, 2]⟩] [])
  (.sub (.loop [4, 28] [29, 30, 31, 8, 32, 9, 33, 34, 35, 36, 37, 38, 39, 40, 41, 42, 11, 43, 44, 45, 12, 46, 47, 48, 49, 50, 51, 52, 53, 54, 55, 56, 57, 58, 59, 60, 61, 62, 63, 64, 65, 66, 67, 68, 69, 70, 71, 72, 73, 74, 75, 76, 77, 78, 79, 80, 81, 82, 83, 84, 4, 85, 86, 87, 88, 89, 90, 13, 91, 92, 93, 94, 95, 96, 97, 15, 98, 99, 100, 101, 102, 103, 104, 105, 106, 107, 108, 109, 110, 111, 112, 113, 114, 115, 116, 117, 118, 119, 120, 121, 122, 123, 124, 17, 125, 126, 127, 128, 129, 130, 131, 132, 133, 134, 135, 136, 137, 138, 139, 140, 141, 142, 143, 28]
  (.seq none (.reg [⟨none, [], [0]⟩] [])
  (.seq none (.cond .leaf
  .leaf)
  (.seq none (.sub (.seq none (.reg [⟨none, [], [0, 1, 2, 3]⟩] [])
  (.seq none (.reg [⟨none, [], [0, 1]⟩] [])
  (.seq none (.seq none (.reg [⟨none, [], [0, 1, 2, 3, 4, 5, 6]⟩] [])
  (.sub (.loop [9, 39] [40, 41, 42, 11, 43, 44, 45, 12, 46, 47, 48, 49, 50, 51, 52, 53, 54, 55, 56, 57, 9, 58, 39]
  (.seq none (.reg [⟨none, [], [0]⟩] [])
  (.seq none (.cond .leaf
  .leaf)
  (.seq (some ([9], [41, 42, 11, 43, 44, 45, 12, 46, 47, 48, 49, 50, 51, 52, 53, 54, 55, 56, 57, 9])) (.sub (.seq none (.reg [⟨none, [], [0, 1, 2, 3]⟩] [])
  (.seq none (.reg [⟨none, [], [0, 1, 2, 3]⟩] [])
  (.seq none (.reg [⟨none, [], [0, 1, 2]⟩, ⟨some (2, true), [52], [3, 4, 5, 6]⟩, ⟨none, [], [7]⟩] [])
  (.cond (.reg [⟨none, [], [0, 1, 2, 3, 4]⟩] [])
  .leaf)))))
  (.reg [⟨none, [], [0, 1]⟩] [])))))))
  (.seq (some ([9, 4], [59, 60, 61, 62, 63, 64, 65, 66, 67, 68, 69, 70, 71, 72, 9, 73, 74, 75, 76, 77, 78, 79, 80, 81, 82, 83, 84, 4])) (.seq none (.reg [⟨none, [], [0, 1, 2]⟩] [])
  (.cond (.seq none (.reg [⟨none, [], [0, 1, 2, 4, 5, 3, 6, 7, 8, 9, 10, 11]⟩] [3, 4, 5])
  (.seq none (.reg [⟨none, [], [0, 1, 2, 3, 4, 5, 6]⟩] [])
  (.reg [⟨none, [], [0, 1, 2, 3, 4, 5, 6]⟩] [])))
  .leaf))
  (.seq none (.reg [⟨none, [], [0, 1, 2]⟩] [])
  (.seq none (.reg [⟨none, [], [0, 1, 2, 3]⟩] [])
  (.seq none (.seq none (.reg [⟨none, [], [0, 1, 2, 3]⟩] [])
  (.sub (.loop [94] [95, 96, 97, 15, 98, 99, 100, 101, 102, 103, 104, 105, 106, 107, 108, 109, 110, 111, 112, 113, 114, 115, 116, 117, 118, 119, 120, 121, 122, 123, 124, 17, 125, 126, 127, 128, 129, 94]
  (.seq none (.reg [⟨none, [], [0]⟩] [])
  (.seq none (.cond .leaf
  .leaf)
  (.seq none (.sub (.seq none (.reg [⟨none, [], [0, 1, 2]⟩] [])
  (.seq none (.reg [⟨none, [], [0, 1, 2, 3, 4, 5, 6]⟩] [])
  (.seq none (.reg [⟨none, [], [0, 1, 2, 3, 4, 5, 6, 7, 8, 9, 10, 11, 12]⟩] [])
  (.seq none (.reg [⟨none, [], [0, 1, 2, 3, 4, 5]⟩] [])
  (.sub (.loop [121] [122, 123, 124, 17, 125, 126, 127, 128, 121]
  (.seq none (.reg [⟨none, [], [0]⟩] [])
  (.seq none (.cond .leaf
  .leaf)
  (.seq none (.sub (.seq none (.reg [⟨none, [], [0, 1, 2, 3]⟩] [])
  (.reg [⟨none, [], [0, 1, 2, 3]⟩] [])))
  (.reg [⟨none, [], [0, 1]⟩] [])))))))))))
  (.reg [⟨none, [], [0, 1]⟩] [])))))))
  (.seq none (.reg [⟨none, [], [0, 1, 2, 3, 4, 5, 6, 7, 8, 9, 10]⟩] [4, 6])
  (.reg [⟨none, [], [0, 1, 2, 3]⟩] []))))))))))
  (.reg [⟨none, [], [0, 1]⟩] [])))))))
  (.seq none (.reg [⟨none, [], [0, 1]⟩] [])
  .leaf)))))))
def S_Grey_valleys (a0 : Value) (w : World) (K : Value → World → Prop) : Prop :=
  eff Pg (Instr.box 71 a0) w fun t1_1 w =>
  rd Pg (Instr.loadAt 71 t1_1) w fun t18_2 =>
  callS Pg n_Grey_spots #[t18_2] w fun t19_3 w =>
  callS Pg n_slices_SortStableFunc_impl_Spot_impl_Spot #[t19_3, (Value.func (.func n_Grey_valleys_1) #[] #[t1_1])] w fun t22_4 w =>
  eff Pg (Instr.buildSlice 60 0 #[]) w fun t23_5 w =>
  eff Pg (Instr.makeMap 97 none) w fun t24_6 w =>
  eff Pg (Instr.makeMap 98 none) w fun t25_7 w =>
  eff Pg (Instr.alloc 98 true (.tuple #[])) w fun t6_8 w =>
  effU Pg (Instr.storeAt 98 t6_8 t25_7) w fun w =>
  rd Pg (Builtin.len_ #[63] 3 #[t19_3]) w fun t27_9 =>
  loopS (fun N10 g11 s12 w =>
  pur Pg (binOp Go.BinOp.lss 3 (nth s12 1) t27_9) fun t29_13 =>
  ifB t29_13 (pur Pg (Instr.indexAt 63 t19_3 (nth s12 1)) fun t30_14 =>
  rd Pg (Instr.loadAt 39 t30_14) w fun t31_15 =>
  eff Pg (Instr.alloc 39 true (.tuple #[])) w fun t8_16 w =>
  effU Pg (Instr.storeAt 39 t8_16 t31_15) w fun w =>
  eff Pg (Instr.buildSlice 60 0 #[]) w fun t32_17 w =>
  pur Pg (Instr.fieldAt 39 t8_16 0) fun t33_18 =>
  rd Pg (Instr.loadAt 2 t33_18) w fun t34_19 =>
  pur Pg (Instr.fieldAt 39 t8_16 1) fun t35_20 =>
  rd Pg (Instr.loadAt 2 t35_20) w fun t36_21 =>
  callS Pg n_around #[t34_19, t36_21, (Go.Value.bool Bool.false)] w fun t37_22 w =>
  rd Pg (Builtin.len_ #[63] 3 #[t37_22]) w fun t38_23 =>
  loopS (fun N24 g25 s26 w =>
  pur Pg (binOp Go.BinOp.lss 3 (nth s26 1) t38_23) fun t40_27 =>
  ifB t40_27 (joinS (fun g28 s29 w =>
  pur Pg (binOp Go.BinOp.add 3 (nth s26 1) (Go.Value.int Go.IntKind.i64 1)) fun t58_31 =>
  N24 [(nth s29 0), t58_31] w) fun J30 =>
  pur Pg (Instr.indexAt 63 t37_22 (nth s26 1)) fun t41_32 =>
  rd Pg (Instr.loadAt 39 t41_32) w fun t42_33 =>
  eff Pg (Instr.alloc 39 true (.tuple #[])) w fun t11_34 w =>
  effU Pg (Instr.storeAt 39 t11_34 t42_33) w fun w =>
  rd Pg (Instr.loadAt 39 t11_34) w fun t44_35 =>
  rd Pg (Instr.lookup 97 t24_6 t44_35 Bool.false) w fun t45_36 =>
  rd Pg (binSem Go.BinOp.neq 62 (Go.Operand.tmp 46) (Go.Operand.const (Go.Value.pointer Option.none)) t45_36 (Go.Value.pointer Option.none)) w fun t47_37 =>
  joinS (fun g38 s39 w =>
  pickS t47_37 (nth s39 0) (Go.Value.bool Bool.false) fun t53_41 =>
  ifB t53_41 (eff Pg (Instr.buildSlice 60 1 #[(0, t45_36)]) w fun t56_42 w =>
  eff Pg (Builtin.append_ #[60, 60] 60 #[(nth s26 0), t56_42]) w fun t57_43 w =>
  J30 [t57_43] w)
  (J30 [(nth s26 0)] w)) fun J40 =>
  ifG t47_37 true (callS Pg n_slices_Contains_impl_valley_impl_valley #[(nth s26 0), t45_36] w fun t51_44 w =>
  pur Pg (Op.unary Go.UnOp.not t51_44) fun t52_45 =>
  J40 [t52_45] w)
  (J40 [undef] w))
  (joinS (fun g46 s47 w =>
  callS Pg n_slices_SortFunc_impl_valley_impl_valley #[(nth s47 0), (Value.func (.func n_Grey_valleys_2) #[] #[t6_8])] w fun t87_49 w =>
  pur Pg (Instr.indexAt 60 (nth s47 0) (Go.Value.int Go.IntKind.i64 0)) fun t89_50 =>
  rd Pg (Instr.loadAt 62 t89_50) w fun t90_51 =>
  pur Pg (Instr.sliceAt 60 (nth s47 0) (some (Go.Value.int Go.IntKind.i64 1)) none none) fun t92_52 =>
  rd Pg (Builtin.len_ #[60] 3 #[t92_52]) w fun t93_53 =>
  loopS (fun N54 g55 s56 w =>
  pur Pg (binOp Go.BinOp.lss 3 (nth s56 0) t93_53) fun t95_57 =>
  ifB t95_57 (pur Pg (Instr.indexAt 60 t92_52 (nth s56 0)) fun t96_58 =>
  rd Pg (Instr.loadAt 62 t96_58) w fun t97_59 =>
  rd Pg (Instr.loadAt 71 t1_1) w fun t99_60 =>
  rd Pg (Instr.loadAt 39 t8_16) w fun t100_61 =>
  callS Pg n_Grey_at #[t99_60, t100_61] w fun t101_62 w =>
  nilS t97_59 fun t102_63 =>
  pur Pg (Instr.fieldAt 65 t102_63 2) fun t103_64 =>
  effU Pg (Instr.storeAt 2 t103_64 t101_62) w fun w =>
  drawS w fun w =>
  nilS t90_51 fun t106_65 =>
  pur Pg (Instr.fieldAt 65 t106_65 3) fun t107_66 =>
  rd Pg (Instr.loadAt 63 t107_66) w fun t108_67 =>
  nilS t97_59 fun t110_68 =>
  pur Pg (Instr.fieldAt 65 t110_68 3) fun t111_69 =>
  rd Pg (Instr.loadAt 63 t111_69) w fun t112_70 =>
  eff Pg (Builtin.append_ #[63, 63] 63 #[t108_67, t112_70]) w fun t113_71 w =>
  nilS t90_51 fun t114_72 =>
  pur Pg (Instr.fieldAt 65 t114_72 3) fun t115_73 =>
  effU Pg (Instr.storeAt 63 t115_73 t113_71) w fun w =>
  nilS t97_59 fun t117_74 =>
  pur Pg (Instr.fieldAt 65 t117_74 3) fun t118_75 =>
  rd Pg (Instr.loadAt 63 t118_75) w fun t119_76 =>
  rd Pg (Builtin.len_ #[63] 3 #[t119_76]) w fun t120_77 =>
  loopS (fun N78 g79 s80 w =>
  pur Pg (binOp Go.BinOp.lss 3 (nth s80 0) t120_77) fun t122_81 =>
  ifB t122_81 (pur Pg (Instr.indexAt 63 t119_76 (nth s80 0)) fun t123_82 =>
  rd Pg (Instr.loadAt 39 t123_82) w fun t124_83 =>
  eff Pg (Instr.alloc 39 true (.tuple #[])) w fun t17_84 w =>
  effU Pg (Instr.storeAt 39 t17_84 t124_83) w fun w =>
  rd Pg (Instr.loadAt 39 t17_84) w fun t126_85 =>
  effU Pg (Instr.mapUpdate 97 t24_6 t126_85 t90_51) w fun w =>
  pur Pg (binOp Go.BinOp.add 3 (nth s80 0) (Go.Value.int Go.IntKind.i64 1)) fun t128_86 =>
  N78 [t128_86] w)
  (pur Pg (binOp Go.BinOp.add 3 (nth s56 0) (Go.Value.int Go.IntKind.i64 1)) fun t129_87 =>
  N54 [t129_87] w)) [(Go.Value.int Go.IntKind.i64 0)] w)
  (drawF w fun S88 w =>
  nilS t90_51 fun t132_89 =>
  pur Pg (Instr.fieldAt 65 t132_89 3) fun t133_90 =>
  rdF Pg S88 (Instr.loadAt 63 t133_90) fun t134_91 =>
  rd Pg (Instr.loadAt 39 t8_16) w fun t135_92 =>
  eff Pg (Instr.buildSlice 63 1 #[(0, t135_92)]) w fun t136_93 w =>
  S88 w ∧
  eff Pg (Builtin.append_ #[63, 63] 63 #[t134_91, t136_93]) w fun t137_94 w =>
  nilS t90_51 fun t138_95 =>
  pur Pg (Instr.fieldAt 65 t138_95 3) fun t139_96 =>
  effU Pg (Instr.storeAt 63 t139_96 t137_94) w fun w =>
  rd Pg (Instr.loadAt 39 t8_16) w fun t141_97 =>
  effU Pg (Instr.mapUpdate 97 t24_6 t141_97 t90_51) w fun w =>
  pur Pg (binOp Go.BinOp.add 3 (nth s12 1) (Go.Value.int Go.IntKind.i64 1)) fun t143_98 =>
  N10 [(nth s47 1), t143_98] w)) [(Go.Value.int Go.IntKind.i64 0)] w) fun J48 =>
  rd Pg (Builtin.len_ #[60] 3 #[(nth s26 0)]) w fun t60_99 =>
  rd Pg (binSem Go.BinOp.eql 3 (Go.Operand.tmp 60) (Go.Operand.const (Go.Value.int Go.IntKind.i64 0)) t60_99 (Go.Value.int Go.IntKind.i64 0)) w fun t61_100 =>
  ifB t61_100 (drawF w fun S101 w =>
  rd Pg (Instr.loadAt 71 t1_1) w fun t63_102 =>
  rd Pg (Instr.loadAt 39 t8_16) w fun t64_103 =>
  rdF Pg S101 (Instr.loadAt 71 t1_1) fun t66_104 =>
  rdF Pg S101 (Instr.loadAt 39 t8_16) fun t67_105 =>
  callS Pg n_Grey_at #[t63_102, t64_103] w fun t65_106 w =>
  S101 w ∧
  callS Pg n_Grey_place #[t66_104, t67_105] w fun t68_107 w =>
  pur Pg (Instr.build 65 #[(0, t65_106), (1, t68_107), (2, (Go.Value.int Go.IntKind.i64 (-1))), (3, (Go.Value.slice Option.none 0 0))]) fun t69_108 =>
  eff Pg (Instr.box 65 t69_108) w fun t70_109 w =>
  eff Pg (Instr.buildSlice 60 1 #[(0, t70_109)]) w fun t71_110 w =>
  eff Pg (Builtin.append_ #[60, 60] 60 #[(nth s26 0), t71_110]) w fun t72_111 w =>
  drawS w fun w =>
  rd Pg (Instr.loadAt 98 t6_8) w fun t73_112 =>
  pur Pg (Instr.indexAt 60 t72_111 (Go.Value.int Go.IntKind.i64 0)) fun t75_113 =>
  rd Pg (Instr.loadAt 62 t75_113) w fun t76_114 =>
  rd Pg (Builtin.len_ #[60] 3 #[(nth s12 0)]) w fun t78_115 =>
  effU Pg (Instr.mapUpdate 98 t73_112 t76_114 t78_115) w fun w =>
  pur Pg (Instr.indexAt 60 t72_111 (Go.Value.int Go.IntKind.i64 0)) fun t81_116 =>
  rd Pg (Instr.loadAt 62 t81_116) w fun t82_117 =>
  eff Pg (Instr.buildSlice 60 1 #[(0, t82_117)]) w fun t83_118 w =>
  eff Pg (Builtin.append_ #[60, 60] 60 #[(nth s12 0), t83_118]) w fun t84_119 w =>
  J48 [t72_111, t84_119] w)
  (J48 [(nth s26 0), (nth s12 0)] w))) [t32_17, (Go.Value.int Go.IntKind.i64 0)] w)
  (K (nth s12 0) w)) [t23_5, (Go.Value.int Go.IntKind.i64 0)] w
theorem eq_Grey_valleys : ∀ (a0 : Value) (w : World) (K : Value → World → Prop), S_Grey_valleys a0 w K = codeS Pg (Try.f38.body.getD .skip) ann_Grey_valleys (topX Pg Try.f38.results K) (fun t => Array.getD #[a0] t undef) w := by
  intro a0 w K
  kernel_rfl
theorem call_Grey_valleys (a0 : Value) (w : World) (K : Value → World → Prop) (h : S_Grey_valleys a0 w K) : callS Pg n_Grey_valleys #[a0] w K :=
  callS_of mixed Try.func38 (c := Try.f38.body.getD .skip) (by kernel_rfl) (by kernel_rfl) (ann := ann_Grey_valleys) (by kernel_rfl) (Nat.le_of_ble_eq_true (by kernel_rfl)) (by rw [← eq_Grey_valleys]; exact h)

-- (*loop.example/g01165/impl.Grey).lasting
def ann_Grey_lasting : Ann :=
  (.seq none (.reg [⟨none, [], [0]⟩] [])
  (.seq none (.reg [⟨none, [], [0, 1]⟩] [])
  (.seq none (.seq none (.reg [⟨none, [], [0, 1, 2, 3]⟩] [])
  (.sub (.loop [3, 10] [11, 12, 13, 5, 14, 15, 16, 17, 18, 19, 20, 21, 22, 23, 24, 25, 26, 27, 28, 29, 30, 31, 32, 33, 34, 35, 36, 37, 38, 39, 40, 41, 42, 43, 44, 45, 3, 46, 10]
  (.seq none (.reg [⟨none, [], [0]⟩] [])
  (.seq none (.cond .leaf
  .leaf)
  (.seq (some ([3], [12, 13, 5, 14, 15, 16, 17, 18, 19, 20, 21, 22, 23, 24, 25, 26, 27, 28, 29, 30, 31, 32, 33, 34, 35, 36, 37, 38, 39, 40, 41, 42, 43, 44, 45, 3])) (.sub (.seq none (.reg [⟨none, [], [0, 1, 2]⟩] [])
  (.seq none (.reg [⟨none, [], [0, 1, 2, 3, 4, 5]⟩, ⟨some (5, false), [28], [6, 7, 8, 9, 10, 11, 12, 13, 14]⟩, ⟨none, [], [15]⟩] [])
  (.cond (.reg [⟨none, [], [0, 1, 2, 3, 4, 5, 6, 7, 8, 9, 10, 11, 12, 13, 14, 15, 16]⟩] [])
  .leaf))))
  (.reg [⟨none, [], [0, 1]⟩] [])))))))
  (.seq none (.reg [⟨none, [], [0, 1]⟩] [])
  .leaf))))
def S_Grey_lasting (a0 : Value) (w : World) (K : Value → World → Prop) : Prop :=
  eff Pg (Instr.buildSlice 24 0 #[]) w fun t6_1 w =>
  callS Pg n_Grey_valleys #[a0] w fun t8_2 w =>
  rd Pg (Builtin.len_ #[60] 3 #[t8_2]) w fun t9_3 =>
  loopS (fun N4 g5 s6 w =>
  pur Pg (binOp Go.BinOp.lss 3 (nth s6 1) t9_3) fun t11_7 =>
  ifB t11_7 (joinS (fun g8 s9 w =>
  pur Pg (binOp Go.BinOp.add 3 (nth s6 1) (Go.Value.int Go.IntKind.i64 1)) fun t46_11 =>
  N4 [(nth s9 0), t46_11] w) fun J10 =>
  pur Pg (Instr.indexAt 60 t8_2 (nth s6 1)) fun t12_12 =>
  rd Pg (Instr.loadAt 62 t12_12) w fun t13_13 =>
  drawS w fun w =>
  nilS t13_13 fun t15_14 =>
  pur Pg (Instr.fieldAt 65 t15_14 2) fun t16_15 =>
  rd Pg (Instr.loadAt 2 t16_15) w fun t17_16 =>
  pur Pg (binOp Go.BinOp.lss 2 t17_16 (Go.Value.int Go.IntKind.i64 0)) fun t18_17 =>
  joinS (fun g18 s19 w =>
  pickS t18_17 (Go.Value.bool Bool.true) (nth s19 0) fun t29_21 =>
  ifB t29_21 (drawS w fun w =>
  nilS t13_13 fun t32_22 =>
  pur Pg (Instr.fieldAt 65 t32_22 0) fun t33_23 =>
  rd Pg (Instr.loadAt 2 t33_23) w fun t34_24 =>
  nilS t13_13 fun t36_25 =>
  pur Pg (Instr.fieldAt 65 t36_25 1) fun t37_26 =>
  rd Pg (Instr.loadAt 2 t37_26) w fun t38_27 =>
  nilS t13_13 fun t40_28 =>
  pur Pg (Instr.fieldAt 65 t40_28 2) fun t41_29 =>
  rd Pg (Instr.loadAt 2 t41_29) w fun t42_30 =>
  eff Pg (Instr.buildSlice 34 3 #[(0, t34_24), (1, t38_27), (2, t42_30)]) w fun t43_31 w =>
  eff Pg (Instr.buildSlice 24 1 #[(0, t43_31)]) w fun t44_32 w =>
  eff Pg (Builtin.append_ #[24, 24] 24 #[(nth s6 0), t44_32]) w fun t45_33 w =>
  J10 [t45_33] w)
  (J10 [(nth s6 0)] w)) fun J20 =>
  ifG t18_17 false (nilS t13_13 fun t21_34 =>
  pur Pg (Instr.fieldAt 65 t21_34 2) fun t22_35 =>
  rd Pg (Instr.loadAt 2 t22_35) w fun t23_36 =>
  nilS t13_13 fun t25_37 =>
  pur Pg (Instr.fieldAt 65 t25_37 0) fun t26_38 =>
  rd Pg (Instr.loadAt 2 t26_38) w fun t27_39 =>
  pur Pg (binOp Go.BinOp.gtr 2 t23_36 t27_39) fun t28_40 =>
  J20 [t28_40] w)
  (J20 [undef] w))
  (K (nth s6 0) w)) [t6_1, (Go.Value.int Go.IntKind.i64 0)] w
theorem eq_Grey_lasting : ∀ (a0 : Value) (w : World) (K : Value → World → Prop), S_Grey_lasting a0 w K = codeS Pg (Try.f39.body.getD .skip) ann_Grey_lasting (topX Pg Try.f39.results K) (fun t => Array.getD #[a0] t undef) w := by
  intro a0 w K
  kernel_rfl
theorem call_Grey_lasting (a0 : Value) (w : World) (K : Value → World → Prop) (h : S_Grey_lasting a0 w K) : callS Pg n_Grey_lasting #[a0] w K :=
  callS_of mixed Try.func39 (c := Try.f39.body.getD .skip) (by kernel_rfl) (by kernel_rfl) (ann := ann_Grey_lasting) (by kernel_rfl) (Nat.le_of_ble_eq_true (by kernel_rfl)) (by rw [← eq_Grey_lasting]; exact h)

-- (*loop.example/g01165/impl.Grey).has
def ann_Grey_has : Ann :=
  (.seq none (.reg [⟨none, [], [0, 1]⟩] [])
  (.seq none (.reg [⟨none, [], [0, 1, 2, 3, 4, 5, 6]⟩] [])
  (.seq none (.reg [⟨none, [], [0, 1, 2, 3, 4, 5]⟩, ⟨some (5, true), [22], [6, 7, 8, 9, 10]⟩, ⟨none, [], [11, 12]⟩] [])
  .leaf)))
def S_Grey_has (a0 a1 : Value) (w : World) (K : Value → World → Prop) : Prop :=
  eff Pg (Instr.box 39 a1) w fun t3_1 w =>
  callS Pg n_Grey_sizes #[a0] w fun t9_2 w =>
  pur Pg (Instr.extract t9_2 0) fun t10_3 =>
  pur Pg (Instr.extract t9_2 1) fun t11_4 =>
  pur Pg (Instr.fieldAt 39 t3_1 0) fun t12_5 =>
  rd Pg (Instr.loadAt 2 t12_5) w fun t13_6 =>
  pur Pg (binOp Go.BinOp.sub 2 t10_3 (Go.Value.int Go.IntKind.i64 1)) fun t15_7 =>
  callS Pg n_in #[t13_6, (Go.Value.int Go.IntKind.i64 0), t15_7] w fun t16_8 w =>
  joinS (fun g9 s10 w =>
  pickS t16_8 (nth s10 0) (Go.Value.bool Bool.false) fun t23_12 =>
  K t23_12 w) fun J11 =>
  ifG t16_8 true (pur Pg (Instr.fieldAt 39 t3_1 1) fun t18_13 =>
  rd Pg (Instr.loadAt 2 t18_13) w fun t19_14 =>
  pur Pg (binOp Go.BinOp.sub 2 t11_4 (Go.Value.int Go.IntKind.i64 1)) fun t21_15 =>
  callS Pg n_in #[t19_14, (Go.Value.int Go.IntKind.i64 0), t21_15] w fun t22_16 w =>
  J11 [t22_16] w)
  (J11 [undef] w)
theorem eq_Grey_has : ∀ (a0 a1 : Value) (w : World) (K : Value → World → Prop), S_Grey_has a0 a1 w K = codeS Pg (Try.f40.body.getD .skip) ann_Grey_has (topX Pg Try.f40.results K) (fun t => Array.getD #[a0, a1] t undef) w := by
  intro a0 a1 w K
  kernel_rfl
theorem call_Grey_has (a0 a1 : Value) (w : World) (K : Value → World → Prop) (h : S_Grey_has a0 a1 w K) : callS Pg n_Grey_has #[a0, a1] w K :=
  callS_of mixed Try.func40 (c := Try.f40.body.getD .skip) (by kernel_rfl) (by kernel_rfl) (ann := ann_Grey_has) (by kernel_rfl) (Nat.le_of_ble_eq_true (by kernel_rfl)) (by rw [← eq_Grey_has]; exact h)

-- (*loop.example/g01165/impl.Grey).heights
def ann_Grey_heights : Ann :=
  (.seq none (.reg [⟨none, [], [0, 1]⟩] [])
  (.seq none (.reg [⟨none, [], [0, 1, 2, 3]⟩] [])
  (.seq none (.reg [⟨none, [], [0, 1, 2, 3, 4, 5, 6, 7, 8, 9, 10, 11, 12]⟩] [1, 3, 5, 7, 10])
  (.seq none (.seq none (.reg [⟨none, [], [0]⟩] [])
  (.sub (.loop [6] [26, 6, 27, 28, 29, 30, 31, 32, 33, 8, 34, 35, 36, 37, 38, 39, 40, 41, 42, 43, 10, 44, 45, 46, 47, 48, 49, 50, 51, 52, 53, 11, 54, 55, 56, 57, 58, 59, 60, 61, 62, 63, 64, 65, 66, 67, 68, 69]
  (.seq none (.seq none (.reg [⟨none, [], [0]⟩] [])
  (.cond .leaf
  .leaf))
  (.sub (.seq none (.reg [⟨none, [], [0]⟩] [])
  (.seq none (.reg [⟨none, [], [0, 1, 2, 3]⟩] [])
  (.sub (.loop [6, 30] [31, 32, 33, 8, 34, 35, 36, 37, 38, 39, 40, 41, 42, 43, 10, 44, 45, 46, 47, 48, 49, 50, 51, 52, 53, 11, 54, 55, 56, 57, 58, 59, 60, 61, 62, 63, 64, 65, 66, 67, 6, 68, 69, 30]
  (.seq none (.reg [⟨none, [], [0]⟩] [])
  (.seq none (.cond .leaf
  .leaf)
  (.seq none (.sub (.seq none (.reg [⟨none, [], [0, 1, 2, 3]⟩] [])
  (.seq none (.reg [⟨none, [], [0, 1, 2, 3, 4, 5, 6]⟩] [])
  (.sub (.loop [6, 40] [41, 42, 43, 10, 44, 45, 46, 47, 48, 49, 50, 51, 52, 53, 11, 54, 55, 56, 57, 58, 59, 60, 61, 62, 63, 64, 65, 66, 67, 6, 68, 40]
  (.seq none (.reg [⟨none, [], [0]⟩] [])
  (.seq none (.cond .leaf
  .leaf)
  (.seq (some ([6], [42, 43, 10, 44, 45, 46, 47, 48, 49, 50, 51, 52, 53, 11, 54, 55, 56, 57, 58, 59, 60, 61, 62, 63, 64, 65, 66, 67, 6])) (.sub (.seq none (.reg [⟨none, [], [0, 1, 2, 3]⟩] [])
  (.seq none (.seq none (.reg [⟨none, [], [0, 1, 2, 3]⟩] [])
  (.cond .leaf
  .leaf))
  (.seq none (.reg [⟨none, [], [0, 2, 3, 1, 4, 5, 6]⟩] [1, 3])
  (.seq none (.reg [⟨none, [], [0, 1, 2, 3]⟩] [])
  (.cond (.seq none (.reg [⟨none, [], [0, 1, 2, 3, 4, 5, 6, 7, 8, 9, 10]⟩] [])
  (.reg [⟨none, [], [0]⟩] []))
  .leaf))))))
  (.reg [⟨none, [], [0, 1]⟩] [])))))))))
  (.reg [⟨none, [], [0, 1]⟩] [])))))))))))))
  (.seq none (.reg [⟨none, [], [0, 1]⟩] [])
  .leaf)))))
def S_Grey_heights (a0 a1 : Value) (w : World) (K : Value → World → Prop) : Prop :=
  eff Pg (Instr.box 39 a1) w fun t3_1 w =>
  eff Pg (Instr.alloc 26 true (.tuple #[])) w fun t4_2 w =>
  callS Pg n_Grey_remade #[a0, (Value.func (.func n_Grey_heights_1) #[] #[])] w fun t13_3 w =>
  eff Pg (Instr.alloc 26 true (.tuple #[])) w fun t5_4 w =>
  effU Pg (Instr.storeAt 26 t5_4 t13_3) w fun w =>
  drawF w fun S5 w =>
  pur Pg (Instr.fieldAt 26 t5_4 0) fun t14_6 =>
  rdF Pg S5 (Instr.loadAt 24 t14_6) fun t15_7 =>
  pur Pg (Instr.fieldAt 39 t3_1 1) fun t16_8 =>
  rdF Pg S5 (Instr.loadAt 2 t16_8) fun t17_9 =>
  pur Pg (Instr.indexAt 24 t15_7 t17_9) fun t18_10 =>
  rdF Pg S5 (Instr.loadAt 34 t18_10) fun t19_11 =>
  pur Pg (Instr.fieldAt 39 t3_1 0) fun t20_12 =>
  rdF Pg S5 (Instr.loadAt 2 t20_12) fun t21_13 =>
  rd Pg (Instr.loadAt 39 t3_1) w fun t23_14 =>
  callS Pg n_Grey_at #[a0, t23_14] w fun t24_15 w =>
  S5 w ∧
  pur Pg (Instr.indexAt 34 t19_11 t21_13) fun t25_16 =>
  effU Pg (Instr.storeAt 2 t25_16 t24_15) w fun w =>
  loopS (fun N17 g18 s19 w =>
  ifB (nth s19 0) (callS Pg n_Grey_spots #[a0] w fun t28_20 w =>
  rd Pg (Builtin.len_ #[63] 3 #[t28_20]) w fun t29_21 =>
  loopS (fun N22 g23 s24 w =>
  pur Pg (binOp Go.BinOp.lss 3 (nth s24 1) t29_21) fun t31_25 =>
  ifB t31_25 (pur Pg (Instr.indexAt 63 t28_20 (nth s24 1)) fun t32_26 =>
  rd Pg (Instr.loadAt 39 t32_26) w fun t33_27 =>
  eff Pg (Instr.alloc 39 true (.tuple #[])) w fun t8_28 w =>
  effU Pg (Instr.storeAt 39 t8_28 t33_27) w fun w =>
  pur Pg (Instr.fieldAt 39 t8_28 0) fun t34_29 =>
  rd Pg (Instr.loadAt 2 t34_29) w fun t35_30 =>
  pur Pg (Instr.fieldAt 39 t8_28 1) fun t36_31 =>
  rd Pg (Instr.loadAt 2 t36_31) w fun t37_32 =>
  callS Pg n_around #[t35_30, t37_32, (Go.Value.bool Bool.false)] w fun t38_33 w =>
  rd Pg (Builtin.len_ #[63] 3 #[t38_33]) w fun t39_34 =>
  loopS (fun N35 g36 s37 w =>
  pur Pg (binOp Go.BinOp.lss 3 (nth s37 1) t39_34) fun t41_38 =>
  ifB t41_38 (joinS (fun g39 s40 w =>
  pur Pg (binOp Go.BinOp.add 3 (nth s37 1) (Go.Value.int Go.IntKind.i64 1)) fun t68_42 =>
  N35 [(nth s40 0), t68_42] w) fun J41 =>
  pur Pg (Instr.indexAt 63 t38_33 (nth s37 1)) fun t42_43 =>
  rd Pg (Instr.loadAt 39 t42_43) w fun t43_44 =>
  eff Pg (Instr.alloc 39 true (.tuple #[])) w fun t10_45 w =>
  effU Pg (Instr.storeAt 39 t10_45 t43_44) w fun w =>
  rd Pg (Instr.loadAt 39 t10_45) w fun t45_46 =>
  callS Pg n_Grey_has #[a0, t45_46] w fun t46_47 w =>
  pur Pg (Op.unary Go.UnOp.not t46_47) fun t47_48 =>
  ifB t47_48 (J41 [(nth s37 0)] w)
  (drawF w fun S49 w =>
  rd Pg (Instr.loadAt 39 t10_45) w fun t48_50 =>
  rdF Pg S49 (Instr.loadAt 39 t8_28) fun t51_51 =>
  callS Pg n_Grey_at #[t5_4, t48_50] w fun t49_52 w =>
  S49 w ∧
  callS Pg n_Grey_at #[a0, t51_51] w fun t52_53 w =>
  pur Pg (Builtin.max_ #[2, 2] 2 #[t49_52, t52_53]) fun t53_54 =>
  rd Pg (Instr.loadAt 39 t8_28) w fun t55_55 =>
  callS Pg n_Grey_at #[t5_4, t55_55] w fun t56_56 w =>
  pur Pg (binOp Go.BinOp.lss 2 t53_54 t56_56) fun t57_57 =>
  ifB t57_57 (drawS w fun w =>
  pur Pg (Instr.fieldAt 26 t5_4 0) fun t58_58 =>
  rd Pg (Instr.loadAt 24 t58_58) w fun t59_59 =>
  pur Pg (Instr.fieldAt 39 t8_28 1) fun t60_60 =>
  rd Pg (Instr.loadAt 2 t60_60) w fun t61_61 =>
  pur Pg (Instr.indexAt 24 t59_59 t61_61) fun t62_62 =>
  rd Pg (Instr.loadAt 34 t62_62) w fun t63_63 =>
  pur Pg (Instr.fieldAt 39 t8_28 0) fun t64_64 =>
  rd Pg (Instr.loadAt 2 t64_64) w fun t65_65 =>
  pur Pg (Instr.indexAt 34 t63_63 t65_65) fun t67_66 =>
  effU Pg (Instr.storeAt 2 t67_66 t53_54) w fun w =>
  J41 [(Go.Value.bool Bool.true)] w)
  (J41 [(nth s37 0)] w)))
  (pur Pg (binOp Go.BinOp.add 3 (nth s24 1) (Go.Value.int Go.IntKind.i64 1)) fun t69_67 =>
  N22 [(nth s37 0), t69_67] w)) [(nth s24 0), (Go.Value.int Go.IntKind.i64 0)] w)
  (N17 [(nth s24 0)] w)) [(Go.Value.bool Bool.false), (Go.Value.int Go.IntKind.i64 0)] w)
  (rd Pg (Instr.loadAt 26 t5_4) w fun t70_68 =>
  effU Pg (Instr.storeAt 26 t4_2 t70_68) w fun w =>
  rd Pg (resCell 26 t4_2) w fun r69 =>
  K r69 w)) [(Go.Value.bool Bool.true)] w
theorem eq_Grey_heights : ∀ (a0 a1 : Value) (w : World) (K : Value → World → Prop), S_Grey_heights a0 a1 w K = codeS Pg (Try.f41.body.getD .skip) ann_Grey_heights (topX Pg Try.f41.results K) (fun t => Array.getD #[a0, a1] t undef) w := by
  intro a0 a1 w K
  kernel_rfl
theorem call_Grey_heights (a0 a1 : Value) (w : World) (K : Value → World → Prop) (h : S_Grey_heights a0 a1 w K) : callS Pg n_Grey_heights #[a0, a1] w K :=
  callS_of mixed Try.func41 (c := Try.f41.body.getD .skip) (by kernel_rfl) (by kernel_rfl) (ann := ann_Grey_heights) (by kernel_rfl) (Nat.le_of_ble_eq_true (by kernel_rfl)) (by rw [← eq_Grey_heights]; exact h)

-- (*loop.example/g01165/impl.Grey).spots
def ann_Grey_spots : Ann :=
  (.seq none (.reg [⟨none, [], [0]⟩] [])
  (.seq none (.reg [⟨none, [], [0, 1]⟩] [])
  (.seq none (.seq none (.reg [⟨none, [], [0, 1, 2, 3, 4, 5]⟩] [])
  (.sub (.loop [3, 13] [14, 15, 16, 17, 4, 5, 18, 19, 20, 21, 22, 6, 23, 24, 25, 26, 27, 28, 3, 29, 30, 13]
  (.seq none (.reg [⟨none, [], [0]⟩] [])
  (.seq none (.cond .leaf
  .leaf)
  (.seq none (.sub (.seq none (.reg [⟨none, [], [0, 1, 2, 3, 4]⟩] [])
  (.seq none (.reg [⟨none, [], [0, 1, 2]⟩] [])
  (.sub (.loop [3, 20] [21, 22, 6, 23, 24, 25, 26, 27, 28, 3, 29, 20]
  (.seq none (.reg [⟨none, [], [0]⟩] [])
  (.seq none (.cond .leaf
  .leaf)
  (.seq none (.sub (.seq none (.reg [⟨none, [], [0, 1]⟩] [])
  (.reg [⟨none, [], [0, 1, 2, 3, 4, 5, 6]⟩] [])))
  (.reg [⟨none, [], [0, 1]⟩] [])))))))))
  (.reg [⟨none, [], [0, 1]⟩] [])))))))
  (.seq none (.reg [⟨none, [], [0, 1]⟩] [])
  .leaf))))
def S_Grey_spots (a0 : Value) (w : World) (K : Value → World → Prop) : Prop :=
  eff Pg (Instr.buildSlice 63 0 #[]) w fun t7_1 w =>
  nilS a0 fun t9_2 =>
  pur Pg (Instr.fieldAt 26 t9_2 0) fun t10_3 =>
  rd Pg (Instr.loadAt 24 t10_3) w fun t11_4 =>
  rd Pg (Builtin.len_ #[24] 3 #[t11_4]) w fun t12_5 =>
  loopS (fun N6 g7 s8 w =>
  pur Pg (binOp Go.BinOp.lss 3 (nth s8 1) t12_5) fun t14_9 =>
  ifB t14_9 (pur Pg (Instr.indexAt 24 t11_4 (nth s8 1)) fun t16_10 =>
  rd Pg (Instr.loadAt 34 t16_10) w fun t17_11 =>
  rd Pg (Builtin.len_ #[34] 3 #[t17_11]) w fun t19_12 =>
  loopS (fun N13 g14 s15 w =>
  pur Pg (binOp Go.BinOp.lss 3 (nth s15 1) t19_12) fun t21_16 =>
  ifB t21_16 (pur Pg (Instr.build 39 #[(0, (nth s15 1)), (1, (nth s8 1))]) fun t26_17 =>
  eff Pg (Instr.buildSlice 63 1 #[(0, t26_17)]) w fun t27_18 w =>
  eff Pg (Builtin.append_ #[63, 63] 63 #[(nth s15 0), t27_18]) w fun t28_19 w =>
  pur Pg (binOp Go.BinOp.add 3 (nth s15 1) (Go.Value.int Go.IntKind.i64 1)) fun t29_20 =>
  N13 [t28_19, t29_20] w)
  (pur Pg (binOp Go.BinOp.add 3 (nth s8 1) (Go.Value.int Go.IntKind.i64 1)) fun t30_21 =>
  N6 [(nth s15 0), t30_21] w)) [(nth s8 0), (Go.Value.int Go.IntKind.i64 0)] w)
  (K (nth s8 0) w)) [t7_1, (Go.Value.int Go.IntKind.i64 0)] w
theorem eq_Grey_spots : ∀ (a0 : Value) (w : World) (K : Value → World → Prop), S_Grey_spots a0 w K = codeS Pg (Try.f42.body.getD .skip) ann_Grey_spots (topX Pg Try.f42.results K) (fun t => Array.getD #[a0] t undef) w := by
  intro a0 w K
  kernel_rfl
theorem call_Grey_spots (a0 : Value) (w : World) (K : Value → World → Prop) (h : S_Grey_spots a0 w K) : callS Pg n_Grey_spots #[a0] w K :=
  callS_of mixed Try.func42 (c := Try.f42.body.getD .skip) (by kernel_rfl) (by kernel_rfl) (ann := ann_Grey_spots) (by kernel_rfl) (Nat.le_of_ble_eq_true (by kernel_rfl)) (by rw [← eq_Grey_spots]; exact h)

-- (*loop.example/g01165/impl.Grey).below
def ann_Grey_below : Ann :=
  (.seq none (.reg [⟨none, [], [0, 1, 2]⟩] [])
  (.seq none (.reg [⟨none, [], [0, 1, 2, 3, 4, 5, 6]⟩] [])
  (.seq none (.reg [⟨none, [], [0, 1, 2, 3, 4, 5, 6, 7, 8, 9]⟩] [])
  (.seq none (.reg [⟨none, [], [0, 1]⟩] [])
  .leaf))))
def S_Grey_below (a0 a1 : Value) (w : World) (K : Value → World → Prop) : Prop :=
  eff Pg (Instr.box 71 a0) w fun t2_1 w =>
  eff Pg (Instr.box 2 a1) w fun t3_2 w =>
  rd Pg (Instr.loadAt 71 t2_1) w fun t10_3 =>
  callS Pg n_Grey_sizes #[t10_3] w fun t11_4 w =>
  pur Pg (Instr.extract t11_4 0) fun t12_5 =>
  pur Pg (Instr.extract t11_4 1) fun t13_6 =>
  callS Pg n_made #[t12_5, t13_6, (Value.func (.func n_Grey_below_1) #[] #[t2_1, t3_2])] w fun t18_7 w =>
  callS Pg n_image_labels #[t18_7, (Go.Value.bool Bool.false)] w fun t19_8 w =>
  pur Pg (Instr.extract t19_8 0) fun t20_9 =>
  pur Pg (Instr.extract t19_8 1) fun t21_10 =>
  K t21_10 w
theorem eq_Grey_below : ∀ (a0 a1 : Value) (w : World) (K : Value → World → Prop), S_Grey_below a0 a1 w K = codeS Pg (Try.f43.body.getD .skip) ann_Grey_below (topX Pg Try.f43.results K) (fun t => Array.getD #[a0, a1] t undef) w := by
  intro a0 a1 w K
  kernel_rfl
theorem call_Grey_below (a0 a1 : Value) (w : World) (K : Value → World → Prop) (h : S_Grey_below a0 a1 w K) : callS Pg n_Grey_below #[a0, a1] w K :=
  callS_of mixed Try.func43 (c := Try.f43.body.getD .skip) (by kernel_rfl) (by kernel_rfl) (ann := ann_Grey_below) (by kernel_rfl) (Nat.le_of_ble_eq_true (by kernel_rfl)) (by rw [← eq_Grey_below]; exact h)

-- loop.example/g01165/impl.sameLists
def ann_sameLists : Ann :=
  (.seq none (.reg [⟨none, [], [0]⟩] [])
  (.seq none (.reg [⟨none, [], [0, 1, 2, 3]⟩] [])
  .leaf))
def S_sameLists (a0 a1 : Value) (w : World) (K : Value → World → Prop) : Prop :=
  callS Pg n_slices_EqualFunc_int64_int64_int64_int64 #[a0, a1, (Value.func (.func n_sameLists_1) #[] #[])] w fun t7_1 w =>
  K t7_1 w
theorem eq_sameLists : ∀ (a0 a1 : Value) (w : World) (K : Value → World → Prop), S_sameLists a0 a1 w K = codeS Pg (Try.f44.body.getD .skip) ann_sameLists (topX Pg Try.f44.results K) (fun t => Array.getD #[a0, a1] t undef) w := by
  intro a0 a1 w K
  kernel_rfl
theorem call_sameLists (a0 a1 : Value) (w : World) (K : Value → World → Prop) (h : S_sameLists a0 a1 w K) : callS Pg n_sameLists #[a0, a1] w K :=
  callS_of mixed Try.func44 (c := Try.f44.body.getD .skip) (by kernel_rfl) (by kernel_rfl) (ann := ann_sameLists) (by kernel_rfl) (Nat.le_of_ble_eq_true (by kernel_rfl)) (by rw [← eq_sameLists]; exact h)

-- loop.example/g01165/laws.szInt64SS
def ann_laws_szInt64SS : Ann :=
  (.seq none (.reg [⟨none, [], [0]⟩] [])
  (.seq none (.reg [⟨none, [], [0, 1, 2, 3, 4]⟩] [])
  (.seq none (.seq none (.reg [⟨none, [], [0, 1]⟩] [])
  (.cond (.seq none (.reg [⟨none, [], [0]⟩] [])
  .leaf)
  .leaf))
  (.seq none (.seq none (.reg [⟨none, [], [0]⟩] [])
  (.sub (.loop [1, 5] [12, 13, 14, 15, 18, 19, 20, 21, 22, 23, 1, 24, 25, 4, 16, 17, 5]
  (.seq none (.seq none (.reg [⟨none, [], [0, 1, 2, 3]⟩] [])
  (.cond .leaf
  .leaf))
  (.seq none (.sub (.seq none (.reg [⟨none, [], [0, 1, 2, 3, 4, 5, 6]⟩] [])
  (.seq none (.reg [⟨none, [], [0, 1]⟩] [])
  (.cond (.seq none (.reg [⟨none, [], [0]⟩] [])
  .leaf)
  .leaf))))
  (.reg [⟨none, [], [0, 1, 2]⟩] []))))))
  (.seq none (.reg [⟨none, [], [0, 1]⟩] [])
  .leaf)))))
def S_laws_szInt64SS (a0 a1 : Value) (w : World) (K : Value → World → Prop) : Prop :=
  rd Pg (Builtin.len_ #[24] 3 #[a0]) w fun t8_1 =>
  pur Pg (binOp Go.BinOp.sub 3 a1 t8_1) fun t9_2 =>
  pur Pg (binOp Go.BinOp.lss 3 t9_2 (Go.Value.int Go.IntKind.i64 0)) fun t11_3 =>
  ifB t11_3 (K (Go.Value.int Go.IntKind.i64 (-1)) w)
  (loopS (fun N4 g5 s6 w =>
  rd Pg (Builtin.len_ #[24] 3 #[a0]) w fun t14_7 =>
  pur Pg (binOp Go.BinOp.lss 3 (nth s6 1) t14_7) fun t15_8 =>
  ifB t15_8 (pur Pg (Instr.indexAt 24 a0 (nth s6 1)) fun t20_9 =>
  rd Pg (Instr.loadAt 34 t20_9) w fun t21_10 =>
  callS Pg n_laws_szInt64S #[t21_10, (nth s6 0)] w fun t23_11 w =>
  pur Pg (binOp Go.BinOp.lss 3 t23_11 (Go.Value.int Go.IntKind.i64 0)) fun t25_12 =>
  ifB t25_12 (K (Go.Value.int Go.IntKind.i64 (-1)) w)
  (pur Pg (binOp Go.BinOp.add 3 (nth s6 1) (Go.Value.int Go.IntKind.i64 1)) fun t17_13 =>
  N4 [t23_11, t17_13] w))
  (K (nth s6 0) w)) [t9_2, (Go.Value.int Go.IntKind.i64 0)] w)
theorem eq_laws_szInt64SS : ∀ (a0 a1 : Value) (w : World) (K : Value → World → Prop), S_laws_szInt64SS a0 a1 w K = codeS Pg (Try.f45.body.getD .skip) ann_laws_szInt64SS (topX Pg Try.f45.results K) (fun t => Array.getD #[a0, a1] t undef) w := by
  intro a0 a1 w K
  kernel_rfl
theorem call_laws_szInt64SS (a0 a1 : Value) (w : World) (K : Value → World → Prop) (h : S_laws_szInt64SS a0 a1 w K) : callS Pg n_laws_szInt64SS #[a0, a1] w K :=
  callS_of mixed Try.func45 (c := Try.f45.body.getD .skip) (by kernel_rfl) (by kernel_rfl) (ann := ann_laws_szInt64SS) (by kernel_rfl) (Nat.le_of_ble_eq_true (by kernel_rfl)) (by rw [← eq_laws_szInt64SS]; exact h)

-- loop.example/g01165/spec.l07Is
def ann_l07Is : Ann :=
  (.seq none (.reg [⟨none, [], [0]⟩] [])
  (.seq none (.reg [⟨none, [], [0, 1, 2, 3, 4, 5]⟩] [])
  .leaf))
def S_l07Is (a0 : Value) (w : World) (K : Value → World → Prop) : Prop :=
  nilS a0 fun t4_1 =>
  pur Pg (Instr.fieldAt 26 t4_1 0) fun t5_2 =>
  rd Pg (Instr.loadAt 24 t5_2) w fun t6_3 =>
  callS Pg n_l07Table #[t6_3, (Go.Value.int Go.IntKind.i64 99)] w fun t7_4 w =>
  K t7_4 w
theorem eq_l07Is : ∀ (a0 : Value) (w : World) (K : Value → World → Prop), S_l07Is a0 w K = codeS Pg (Try.f46.body.getD .skip) ann_l07Is (topX Pg Try.f46.results K) (fun t => Array.getD #[a0] t undef) w := by
  intro a0 w K
  kernel_rfl
theorem call_l07Is (a0 : Value) (w : World) (K : Value → World → Prop) (h : S_l07Is a0 w K) : callS Pg n_l07Is #[a0] w K :=
  callS_of mixed Try.func46 (c := Try.f46.body.getD .skip) (by kernel_rfl) (by kernel_rfl) (ann := ann_l07Is) (by kernel_rfl) (Nat.le_of_ble_eq_true (by kernel_rfl)) (by rw [← eq_l07Is]; exact h)

-- loop.example/g01165/spec.l09Pairs
def ann_l09Pairs : Ann :=
  (.seq none (.reg [⟨none, [], [0]⟩] [])
  (.seq none (.reg [⟨none, [], [0, 1]⟩] [])
  (.seq none (.reg [⟨none, [], [0, 2, 3, 4, 5, 1, 6, 7, 8]⟩] [1, 5])
  (.seq none (.seq none (.reg [⟨none, [], [0, 1, 2]⟩] [])
  (.sub (.loop [3, 17] [18, 19, 5, 20, 21, 22, 23, 24, 25, 26, 27, 28, 29, 30, 31, 32, 33, 34, 35, 36, 37, 38, 39, 40, 41, 42, 43, 44, 45, 46, 47, 48, 49, 3, 50, 17]
  (.seq none (.reg [⟨none, [], [0]⟩] [])
  (.seq none (.cond .leaf
  .leaf)
  (.seq (some ([3], [19, 5, 20, 21, 22, 23, 24, 25, 26, 27, 28, 29, 30, 31, 32, 33, 34, 35, 36, 37, 38, 39, 40, 41, 42, 43, 44, 45, 46, 47, 48, 49, 3])) (.sub (.seq none (.reg [⟨none, [], [0, 1]⟩] [])
  (.seq none (.reg [⟨none, [], [0, 1, 2, 3, 4, 5, 6, 7, 8, 9, 10]⟩] [])
  (.cond (.reg [⟨none, [], [0, 1, 2, 3, 4, 5, 6, 7, 8, 9, 10, 11, 12, 13, 14, 15, 16, 17, 18, 19]⟩] [])
  .leaf))))
  (.reg [⟨none, [], [0, 1]⟩] [])))))))
  (.seq none (.reg [⟨none, [], [0, 1]⟩] [])
  .leaf)))))
def S_l09Pairs (a0 : Value) (w : World) (K : Value → World → Prop) : Prop :=
  eff Pg (Instr.buildSlice 24 0 #[]) w fun t6_1 w =>
  drawF w fun S2 w =>
  nilS a0 fun t10_3 =>
  pur Pg (Instr.fieldAt 26 t10_3 0) fun t11_4 =>
  rdF Pg S2 (Instr.loadAt 24 t11_4) fun t12_5 =>
  callS Pg n_l07Width #[a0] w fun t8_6 w =>
  S2 w ∧
  callS Pg n_l07List #[t12_5] w fun t13_7 w =>
  callS Pg n_l09Valleys #[t8_6, t13_7] w fun t14_8 w =>
  rd Pg (Builtin.len_ #[76] 3 #[t14_8]) w fun t16_9 =>
  loopS (fun N10 g11 s12 w =>
  pur Pg (binOp Go.BinOp.lss 3 (nth s12 1) t16_9) fun t18_13 =>
  ifB t18_13 (joinS (fun g14 s15 w =>
  pur Pg (binOp Go.BinOp.add 3 (nth s12 1) (Go.Value.int Go.IntKind.i64 1)) fun t50_17 =>
  N10 [(nth s15 0), t50_17] w) fun J16 =>
  drawS w fun w =>
  pur Pg (Instr.indexAt 76 t14_8 (nth s12 1)) fun t22_18 =>
  pur Pg (Instr.fieldAt 80 t22_18 2) fun t23_19 =>
  rd Pg (Instr.loadAt 2 t23_19) w fun t24_20 =>
  pur Pg (Instr.indexAt 76 t14_8 (nth s12 1)) fun t27_21 =>
  pur Pg (Instr.fieldAt 80 t27_21 0) fun t28_22 =>
  rd Pg (Instr.loadAt 2 t28_22) w fun t29_23 =>
  rd Pg (binSem Go.BinOp.neq 2 (Go.Operand.tmp 24) (Go.Operand.tmp 29) t24_20 t29_23) w fun t30_24 =>
  ifB t30_24 (drawS w fun w =>
  pur Pg (Instr.indexAt 76 t14_8 (nth s12 1)) fun t34_25 =>
  pur Pg (Instr.fieldAt 80 t34_25 0) fun t35_26 =>
  rd Pg (Instr.loadAt 2 t35_26) w fun t36_27 =>
  pur Pg (Instr.indexAt 76 t14_8 (nth s12 1)) fun t39_28 =>
  pur Pg (Instr.fieldAt 80 t39_28 1) fun t40_29 =>
  rd Pg (Instr.loadAt 2 t40_29) w fun t41_30 =>
  pur Pg (Instr.indexAt 76 t14_8 (nth s12 1)) fun t44_31 =>
  pur Pg (Instr.fieldAt 80 t44_31 2) fun t45_32 =>
  rd Pg (Instr.loadAt 2 t45_32) w fun t46_33 =>
  eff Pg (Instr.buildSlice 34 3 #[(0, t36_27), (1, t41_30), (2, t46_33)]) w fun t47_34 w =>
  eff Pg (Instr.buildSlice 24 1 #[(0, t47_34)]) w fun t48_35 w =>
  eff Pg (Builtin.append_ #[24, 24] 24 #[(nth s12 0), t48_35]) w fun t49_36 w =>
  J16 [t49_36] w)
  (J16 [(nth s12 0)] w))
  (K (nth s12 0) w)) [t6_1, (Go.Value.int Go.IntKind.i64 0)] w
theorem eq_l09Pairs : ∀ (a0 : Value) (w : World) (K : Value → World → Prop), S_l09Pairs a0 w K = codeS Pg (Try.f47.body.getD .skip) ann_l09Pairs (topX Pg Try.f47.results K) (fun t => Array.getD #[a0] t undef) w := by
  intro a0 w K
  kernel_rfl
theorem call_l09Pairs (a0 : Value) (w : World) (K : Value → World → Prop) (h : S_l09Pairs a0 w K) : callS Pg n_l09Pairs #[a0] w K :=
  callS_of mixed Try.func47 (c := Try.f47.body.getD .skip) (by kernel_rfl) (by kernel_rfl) (ann := ann_l09Pairs) (by kernel_rfl) (Nat.le_of_ble_eq_true (by kernel_rfl)) (by rw [← eq_l09Pairs]; exact h)

-- loop.example/g01165/laws.toInt64SS
def ann_laws_toInt64SS : Ann :=
  (.seq none (.reg [⟨none, [], [0]⟩] [])
  (.seq none (.reg [⟨none, [], [0, 1, 2, 3]⟩] [])
  (.seq none (.seq none (.reg [⟨none, [], [0]⟩] [])
  (.sub (.loop [4] [8, 9, 10, 11, 14, 15, 16, 17, 18, 19, 20, 21, 12, 13, 4]
  (.seq none (.seq none (.reg [⟨none, [], [0, 1, 2, 3]⟩] [])
  (.cond .leaf
  .leaf))
  (.seq none (.sub (.reg [⟨none, [], [0, 1, 2, 3, 4, 5, 6, 7, 8]⟩] []))
  (.reg [⟨none, [], [0, 1, 2]⟩] []))))))
  (.seq none (.reg [⟨none, [], [0, 1]⟩] [])
  .leaf))))
def S_laws_toInt64SS (a0 : Value) (w : World) (K : Value → World → Prop) : Prop :=
  rd Pg (Builtin.len_ #[24] 3 #[a0]) w fun t6_1 =>
  eff Pg (Instr.makeSlice 24 t6_1 t6_1) w fun t7_2 w =>
  loopS (fun N3 g4 s5 w =>
  rd Pg (Builtin.len_ #[24] 3 #[a0]) w fun t10_6 =>
  pur Pg (binOp Go.BinOp.lss 3 (nth s5 0) t10_6) fun t11_7 =>
  ifB t11_7 (pur Pg (Instr.indexAt 24 a0 (nth s5 0)) fun t18_8 =>
  rd Pg (Instr.loadAt 34 t18_8) w fun t19_9 =>
  callS Pg n_laws_toInt64S #[t19_9] w fun t20_10 w =>
  pur Pg (Instr.indexAt 24 t7_2 (nth s5 0)) fun t21_11 =>
  effU Pg (Instr.storeAt 34 t21_11 t20_10) w fun w =>
  pur Pg (binOp Go.BinOp.add 3 (nth s5 0) (Go.Value.int Go.IntKind.i64 1)) fun t13_12 =>
  N3 [t13_12] w)
  (K t7_2 w)) [(Go.Value.int Go.IntKind.i64 0)] w
theorem eq_laws_toInt64SS : ∀ (a0 : Value) (w : World) (K : Value → World → Prop), S_laws_toInt64SS a0 w K = codeS Pg (Try.f48.body.getD .skip) ann_laws_toInt64SS (topX Pg Try.f48.results K) (fun t => Array.getD #[a0] t undef) w := by
  intro a0 w K
  kernel_rfl
theorem call_laws_toInt64SS (a0 : Value) (w : World) (K : Value → World → Prop) (h : S_laws_toInt64SS a0 w K) : callS Pg n_laws_toInt64SS #[a0] w K :=
  callS_of mixed Try.func48 (c := Try.f48.body.getD .skip) (by kernel_rfl) (by kernel_rfl) (ann := ann_laws_toInt64SS) (by kernel_rfl) (Nat.le_of_ble_eq_true (by kernel_rfl)) (by rw [← eq_laws_toInt64SS]; exact h)

-- loop.example/g01165/laws.eqInt64S
def ann_laws_eqInt64S : Ann :=
  (.seq none (.reg [⟨none, [], [0]⟩] [])
  (.seq none (.seq none (.reg [⟨none, [], [0, 1, 2, 3, 4]⟩] [])
  (.cond (.seq none (.reg [⟨none, [], [0]⟩] [])
  .leaf)
  .leaf))
  (.seq none (.seq none (.reg [⟨none, [], [0]⟩] [])
  (.sub (.loop [5] [11, 12, 13, 14, 17, 18, 19, 20, 21, 22, 23, 24, 25, 4, 15, 16, 5]
  (.seq none (.seq none (.reg [⟨none, [], [0, 1, 2, 3]⟩] [])
  (.cond .leaf
  .leaf))
  (.seq none (.sub (.seq none (.reg [⟨none, [], [0, 1, 2, 3, 4, 5, 6, 7, 8]⟩] [])
  (.cond (.seq none (.reg [⟨none, [], [0]⟩] [])
  .leaf)
  .leaf)))
  (.reg [⟨none, [], [0, 1, 2]⟩] []))))))
  (.seq none (.reg [⟨none, [], [0]⟩] [])
  .leaf))))
def S_laws_eqInt64S (a0 a1 : Value) (w : World) (K : Value → World → Prop) : Prop :=
  rd Pg (Builtin.len_ #[34] 3 #[a0]) w fun t7_1 =>
  rd Pg (Builtin.len_ #[34] 3 #[a1]) w fun t9_2 =>
  rd Pg (binSem Go.BinOp.neq 3 (Go.Operand.tmp 7) (Go.Operand.tmp 9) t7_1 t9_2) w fun t10_3 =>
  ifB t10_3 (K (Go.Value.bool Bool.false) w)
  (loopS (fun N4 g5 s6 w =>
  rd Pg (Builtin.len_ #[34] 3 #[a0]) w fun t13_7 =>
  pur Pg (binOp Go.BinOp.lss 3 (nth s6 0) t13_7) fun t14_8 =>
  ifB t14_8 (drawS w fun w =>
  pur Pg (Instr.indexAt 34 a0 (nth s6 0)) fun t19_9 =>
  rd Pg (Instr.loadAt 2 t19_9) w fun t20_10 =>
  pur Pg (Instr.indexAt 34 a1 (nth s6 0)) fun t23_11 =>
  rd Pg (Instr.loadAt 2 t23_11) w fun t24_12 =>
  rd Pg (binSem Go.BinOp.neq 2 (Go.Operand.tmp 20) (Go.Operand.tmp 24) t20_10 t24_12) w fun t25_13 =>
  ifB t25_13 (K (Go.Value.bool Bool.false) w)
  (pur Pg (binOp Go.BinOp.add 3 (nth s6 0) (Go.Value.int Go.IntKind.i64 1)) fun t16_14 =>
  N4 [t16_14] w))
  (K (Go.Value.bool Bool.true) w)) [(Go.Value.int Go.IntKind.i64 0)] w)
theorem eq_laws_eqInt64S : ∀ (a0 a1 : Value) (w : World) (K : Value → World → Prop), S_laws_eqInt64S a0 a1 w K = codeS Pg (Try.f49.body.getD .skip) ann_laws_eqInt64S (topX Pg Try.f49.results K) (fun t => Array.getD #[a0, a1] t undef) w := by
  intro a0 a1 w K
  kernel_rfl
theorem call_laws_eqInt64S (a0 a1 : Value) (w : World) (K : Value → World → Prop) (h : S_laws_eqInt64S a0 a1 w K) : callS Pg n_laws_eqInt64S #[a0, a1] w K :=
  callS_of mixed Try.func49 (c := Try.f49.body.getD .skip) (by kernel_rfl) (by kernel_rfl) (ann := ann_laws_eqInt64S) (by kernel_rfl) (Nat.le_of_ble_eq_true (by kernel_rfl)) (by rw [← eq_laws_eqInt64S]; exact h)

-- loop.example/g01165/laws.markInt64S
def ann_laws_markInt64S : Ann :=
  (.seq none (.reg [⟨none, [], [0]⟩] [])
  (.seq none (.seq none (.reg [⟨none, [], [0]⟩] [])
  (.sub (.loop [1, 5] [6, 7, 8, 9, 12, 13, 14, 15, 16, 17, 1, 10, 11, 5]
  (.seq none (.seq none (.reg [⟨none, [], [0, 1, 2, 3]⟩] [])
  (.cond .leaf
  .leaf))
  (.seq none (.sub (.seq none (.reg [⟨none, [], [0, 1, 2, 3, 4]⟩] [])
  (.reg [⟨none, [], [0, 1, 2]⟩] [])))
  (.reg [⟨none, [], [0, 1, 2]⟩] []))))))
  (.seq none (.reg [⟨none, [], [0, 1]⟩] [])
  .leaf)))
def S_laws_markInt64S (a0 a1 : Value) (w : World) (K : Value → World → Prop) : Prop :=
  loopS (fun N1 g2 s3 w =>
  rd Pg (Builtin.len_ #[34] 3 #[a0]) w fun t8_4 =>
  pur Pg (binOp Go.BinOp.lss 3 (nth s3 1) t8_4) fun t9_5 =>
  ifB t9_5 (pur Pg (Instr.indexAt 34 a0 (nth s3 1)) fun t15_6 =>
  effU Pg (Instr.storeAt 2 t15_6 (nth s3 0)) w fun w =>
  pur Pg (binOp Go.BinOp.add 3 (nth s3 0) (Go.Value.int Go.IntKind.i64 1)) fun t17_7 =>
  pur Pg (binOp Go.BinOp.add 3 (nth s3 1) (Go.Value.int Go.IntKind.i64 1)) fun t11_8 =>
  N1 [t17_7, t11_8] w)
  (K (nth s3 0) w)) [a1, (Go.Value.int Go.IntKind.i64 0)] w
theorem eq_laws_markInt64S : ∀ (a0 a1 : Value) (w : World) (K : Value → World → Prop), S_laws_markInt64S a0 a1 w K = codeS Pg (Try.f50.body.getD .skip) ann_laws_markInt64S (topX Pg Try.f50.results K) (fun t => Array.getD #[a0, a1] t undef) w := by
  intro a0 a1 w K
  kernel_rfl
theorem call_laws_markInt64S (a0 a1 : Value) (w : World) (K : Value → World → Prop) (h : S_laws_markInt64S a0 a1 w K) : callS Pg n_laws_markInt64S #[a0, a1] w K :=
  callS_of mixed Try.func50 (c := Try.f50.body.getD .skip) (by kernel_rfl) (by kernel_rfl) (ann := ann_laws_markInt64S) (by kernel_rfl) (Nat.le_of_ble_eq_true (by kernel_rfl)) (by rw [← eq_laws_markInt64S]; exact h)

-- loop.example/g01165/laws.heldInt64S
def ann_laws_heldInt64S : Ann :=
  (.seq none (.reg [⟨none, [], [0]⟩] [])
  (.seq none (.seq none (.reg [⟨none, [], [0]⟩] [])
  (.sub (.loop [1, 5] [6, 7, 8, 9, 12, 13, 14, 15, 16, 17, 4, 18, 19, 1, 10, 11, 5]
  (.seq none (.seq none (.reg [⟨none, [], [0, 1, 2, 3]⟩] [])
  (.cond .leaf
  .leaf))
  (.seq none (.sub (.seq none (.seq none (.reg [⟨none, [], [0, 1, 2, 3, 4, 5]⟩] [])
  (.cond (.seq none (.reg [⟨none, [], [0]⟩] [])
  .leaf)
  .leaf))
  (.reg [⟨none, [], [0, 1, 2]⟩] [])))
  (.reg [⟨none, [], [0, 1, 2]⟩] []))))))
  (.seq none (.reg [⟨none, [], [0, 1]⟩] [])
  .leaf)))
def S_laws_heldInt64S (a0 a1 : Value) (w : World) (K : Value → World → Prop) : Prop :=
  loopS (fun N1 g2 s3 w =>
  rd Pg (Builtin.len_ #[34] 3 #[a0]) w fun t8_4 =>
  pur Pg (binOp Go.BinOp.lss 3 (nth s3 1) t8_4) fun t9_5 =>
  ifB t9_5 (pur Pg (Instr.indexAt 34 a0 (nth s3 1)) fun t14_6 =>
  rd Pg (Instr.loadAt 2 t14_6) w fun t15_7 =>
  rd Pg (binSem Go.BinOp.neq 2 (Go.Operand.tmp 15) (Go.Operand.tmp 16) t15_7 (nth s3 0)) w fun t17_8 =>
  ifB t17_8 (K (Go.Value.int Go.IntKind.i64 (-1)) w)
  (pur Pg (binOp Go.BinOp.add 3 (nth s3 0) (Go.Value.int Go.IntKind.i64 1)) fun t19_9 =>
  pur Pg (binOp Go.BinOp.add 3 (nth s3 1) (Go.Value.int Go.IntKind.i64 1)) fun t11_10 =>
  N1 [t19_9, t11_10] w))
  (K (nth s3 0) w)) [a1, (Go.Value.int Go.IntKind.i64 0)] w
theorem eq_laws_heldInt64S : ∀ (a0 a1 : Value) (w : World) (K : Value → World → Prop), S_laws_heldInt64S a0 a1 w K = codeS Pg (Try.f51.body.getD .skip) ann_laws_heldInt64S (topX Pg Try.f51.results K) (fun t => Array.getD #[a0, a1] t undef) w := by
  intro a0 a1 w K
  kernel_rfl
theorem call_laws_heldInt64S (a0 a1 : Value) (w : World) (K : Value → World → Prop) (h : S_laws_heldInt64S a0 a1 w K) : callS Pg n_laws_heldInt64S #[a0, a1] w K :=
  callS_of mixed Try.func51 (c := Try.f51.body.getD .skip) (by kernel_rfl) (by kernel_rfl) (ann := ann_laws_heldInt64S) (by kernel_rfl) (Nat.le_of_ble_eq_true (by kernel_rfl)) (by rw [← eq_laws_heldInt64S]; exact h)

-- loop.example/g01165/spec.l00Same
def ann_l00Same : Ann :=
  (.seq none (.reg [⟨none, [], [0]⟩] [])
  (.seq none (.seq none (.reg [⟨none, [], [0, 1, 2, 3, 4]⟩] [])
  (.cond (.seq none (.reg [⟨none, [], [0]⟩] [])
  .leaf)
  .leaf))
  (.seq none (.seq none (.reg [⟨none, [], [0]⟩] [])
  (.sub (.loop [5] [11, 12, 13, 14, 17, 18, 19, 20, 21, 22, 23, 24, 25, 4, 15, 16, 5]
  (.seq none (.seq none (.reg [⟨none, [], [0, 1, 2, 3]⟩] [])
  (.cond .leaf
  .leaf))
  (.seq none (.sub (.seq none (.reg [⟨none, [], [0, 1, 2, 3, 4, 5, 6, 7, 8]⟩] [])
  (.cond (.seq none (.reg [⟨none, [], [0]⟩] [])
  .leaf)
  .leaf)))
  (.reg [⟨none, [], [0, 1, 2]⟩] []))))))
  (.seq none (.reg [⟨none, [], [0]⟩] [])
  .leaf))))
def S_l00Same (a0 a1 : Value) (w : World) (K : Value → World → Prop) : Prop :=
  rd Pg (Builtin.len_ #[34] 3 #[a0]) w fun t7_1 =>
  rd Pg (Builtin.len_ #[34] 3 #[a1]) w fun t9_2 =>
  rd Pg (binSem Go.BinOp.neq 3 (Go.Operand.tmp 7) (Go.Operand.tmp 9) t7_1 t9_2) w fun t10_3 =>
  ifB t10_3 (K (Go.Value.bool Bool.false) w)
  (loopS (fun N4 g5 s6 w =>
  rd Pg (Builtin.len_ #[34] 3 #[a0]) w fun t13_7 =>
  pur Pg (binOp Go.BinOp.lss 3 (nth s6 0) t13_7) fun t14_8 =>
  ifB t14_8 (drawS w fun w =>
  pur Pg (Instr.indexAt 34 a0 (nth s6 0)) fun t19_9 =>
  rd Pg (Instr.loadAt 2 t19_9) w fun t20_10 =>
  pur Pg (Instr.indexAt 34 a1 (nth s6 0)) fun t23_11 =>
  rd Pg (Instr.loadAt 2 t23_11) w fun t24_12 =>
  rd Pg (binSem Go.BinOp.neq 2 (Go.Operand.tmp 20) (Go.Operand.tmp 24) t20_10 t24_12) w fun t25_13 =>
  ifB t25_13 (K (Go.Value.bool Bool.false) w)
  (pur Pg (binOp Go.BinOp.add 3 (nth s6 0) (Go.Value.int Go.IntKind.i64 1)) fun t16_14 =>
  N4 [t16_14] w))
  (K (Go.Value.bool Bool.true) w)) [(Go.Value.int Go.IntKind.i64 0)] w)
theorem eq_l00Same : ∀ (a0 a1 : Value) (w : World) (K : Value → World → Prop), S_l00Same a0 a1 w K = codeS Pg (Try.f52.body.getD .skip) ann_l00Same (topX Pg Try.f52.results K) (fun t => Array.getD #[a0, a1] t undef) w := by
  intro a0 a1 w K
  kernel_rfl
theorem call_l00Same (a0 a1 : Value) (w : World) (K : Value → World → Prop) (h : S_l00Same a0 a1 w K) : callS Pg n_l00Same #[a0, a1] w K :=
  callS_of mixed Try.func52 (c := Try.f52.body.getD .skip) (by kernel_rfl) (by kernel_rfl) (ann := ann_l00Same) (by kernel_rfl) (Nat.le_of_ble_eq_true (by kernel_rfl)) (by rw [← eq_l00Same]; exact h)

-- loop.example/g01165/spec.l00In
def ann_l00In : Ann :=
  (.seq none (.reg [⟨none, [], [0]⟩] [])
  (.seq none (.reg [⟨none, [], [0, 1, 2, 3]⟩, ⟨some (3, true), [13], [4, 5, 6]⟩, ⟨none, [], [7, 8]⟩] [])
  .leaf))
def S_l00In (a0 a1 a2 : Value) (w : World) (K : Value → World → Prop) : Prop :=
  pur Pg (binOp Go.BinOp.geq 2 a0 a1) fun t9_1 =>
  joinS (fun g2 s3 w =>
  pickS t9_1 (nth s3 0) (Go.Value.bool Bool.false) fun t14_5 =>
  K t14_5 w) fun J4 =>
  ifG t9_1 true (pur Pg (binOp Go.BinOp.leq 2 a0 a2) fun t13_6 =>
  J4 [t13_6] w)
  (J4 [undef] w)
theorem eq_l00In : ∀ (a0 a1 a2 : Value) (w : World) (K : Value → World → Prop), S_l00In a0 a1 a2 w K = codeS Pg (Try.f53.body.getD .skip) ann_l00In (topX Pg Try.f53.results K) (fun t => Array.getD #[a0, a1, a2] t undef) w := by
  intro a0 a1 a2 w K
  kernel_rfl
theorem call_l00In (a0 a1 a2 : Value) (w : World) (K : Value → World → Prop) (h : S_l00In a0 a1 a2 w K) : callS Pg n_l00In #[a0, a1, a2] w K :=
  callS_of mixed Try.func53 (c := Try.f53.body.getD .skip) (by kernel_rfl) (by kernel_rfl) (ann := ann_l00In) (by kernel_rfl) (Nat.le_of_ble_eq_true (by kernel_rfl)) (by rw [← eq_l00In]; exact h)

-- loop.example/g01165/spec.l07List
def ann_l07List : Ann :=
  (.seq none (.reg [⟨none, [], [0]⟩] [])
  (.seq none (.reg [⟨none, [], [0, 1]⟩] [])
  (.seq none (.seq none (.reg [⟨none, [], [0]⟩] [])
  (.sub (.loop [3, 4] [6, 7, 8, 9, 12, 13, 14, 15, 16, 17, 3, 10, 11, 4]
  (.seq none (.seq none (.reg [⟨none, [], [0, 1, 2, 3]⟩] [])
  (.cond .leaf
  .leaf))
  (.seq none (.sub (.reg [⟨none, [], [0, 1, 2, 3, 4, 5, 6]⟩] []))
  (.reg [⟨none, [], [0, 1, 2]⟩] []))))))
  (.seq none (.reg [⟨none, [], [0, 1]⟩] [])
  .leaf))))
def S_l07List (a0 : Value) (w : World) (K : Value → World → Prop) : Prop :=
  eff Pg (Instr.buildSlice 34 0 #[]) w fun t5_1 w =>
  loopS (fun N2 g3 s4 w =>
  rd Pg (Builtin.len_ #[24] 3 #[a0]) w fun t8_5 =>
  pur Pg (binOp Go.BinOp.lss 3 (nth s4 1) t8_5) fun t9_6 =>
  ifB t9_6 (pur Pg (Instr.indexAt 24 a0 (nth s4 1)) fun t15_7 =>
  rd Pg (Instr.loadAt 34 t15_7) w fun t16_8 =>
  eff Pg (Builtin.append_ #[34, 34] 34 #[(nth s4 0), t16_8]) w fun t17_9 w =>
  pur Pg (binOp Go.BinOp.add 3 (nth s4 1) (Go.Value.int Go.IntKind.i64 1)) fun t11_10 =>
  N2 [t17_9, t11_10] w)
  (K (nth s4 0) w)) [t5_1, (Go.Value.int Go.IntKind.i64 0)] w
theorem eq_l07List : ∀ (a0 : Value) (w : World) (K : Value → World → Prop), S_l07List a0 w K = codeS Pg (Try.f54.body.getD .skip) ann_l07List (topX Pg Try.f54.results K) (fun t => Array.getD #[a0] t undef) w := by
  intro a0 w K
  kernel_rfl
theorem call_l07List (a0 : Value) (w : World) (K : Value → World → Prop) (h : S_l07List a0 w K) : callS Pg n_l07List #[a0] w K :=
  callS_of mixed Try.func54 (c := Try.f54.body.getD .skip) (by kernel_rfl) (by kernel_rfl) (ann := ann_l07List) (by kernel_rfl) (Nat.le_of_ble_eq_true (by kernel_rfl)) (by rw [← eq_l07List]; exact h)

-- loop.example/g01165/spec.l09Valleys
def ann_l09Valleys : Ann :=
  (.seq none (.reg [⟨none, [], [0]⟩] [])
  (.seq none (.reg [⟨none, [], [0, 1]⟩] [])
  (.seq none (.reg [⟨none, [], [0, 1, 2]⟩] [])
  (.seq none (.reg [⟨none, [], [0, 1, 2]⟩] [])
  (.seq none (.seq none (.reg [⟨none, [], [0, 1, 2]⟩] [])
  (.sub (.loop [25] [26, 27, 8, 28, 29, 30, 31, 25]
  (.seq none (.reg [⟨none, [], [0]⟩] [])
  (.seq none (.cond .leaf
  .leaf)
  (.seq none (.sub (.seq none (.reg [⟨none, [], [0, 1]⟩] [])
  (.reg [⟨none, [], [0, 1, 2, 3]⟩] [])))
  (.reg [⟨none, [], [0, 1]⟩] [])))))))
  (.seq none (.seq none (.reg [⟨none, [], [0]⟩] [])
  (.sub (.loop [5, 9] [32, 33, 10, 36, 37, 38, 41, 42, 43, 44, 45, 46, 47, 48, 49, 50, 11, 12, 51, 52, 53, 54, 55, 13, 56, 57, 58, 59, 60, 61, 62, 14, 63, 64, 65, 66, 67, 68, 69, 70, 71, 72, 73, 74, 75, 76, 77, 78, 79, 80, 81, 82, 83, 84, 85, 86, 87, 88, 89, 90, 5, 91, 92, 93, 94, 95, 15, 96, 97, 98, 99, 100, 101, 102, 16, 103, 104, 105, 106, 107, 108, 109, 110, 111, 112, 113, 114, 115, 116, 117, 118, 119, 120, 121, 122, 123, 17, 124, 125, 126, 127, 128, 129, 130, 131, 132, 133, 134, 135, 136, 137, 138, 139, 140, 141, 142, 143, 144, 145, 146, 147, 148, 149, 150, 151, 152, 153, 154, 155, 156, 157, 158, 159, 160, 161, 162, 163, 164, 165, 166, 167, 39, 40, 34, 35, 9]
  (.seq none (.seq none (.reg [⟨none, [], [0, 1]⟩] [])
  (.cond .leaf
  .leaf))
  (.seq none (.sub (.seq none (.reg [⟨none, [], [0]⟩] [])
  (.sub (.loop [5, 10] [36, 37, 38, 41, 42, 43, 44, 45, 46, 47, 48, 49, 50, 11, 12, 51, 52, 53, 54, 55, 13, 56, 57, 58, 59, 60, 61, 62, 14, 63, 64, 65, 66, 67, 68, 69, 70, 71, 72, 73, 74, 75, 76, 77, 78, 79, 80, 81, 82, 83, 84, 85, 86, 87, 88, 89, 90, 5, 91, 92, 93, 94, 95, 15, 96, 97, 98, 99, 100, 101, 102, 16, 103, 104, 105, 106, 107, 108, 109, 110, 111, 112, 113, 114, 115, 116, 117, 118, 119, 120, 121, 122, 123, 17, 124, 125, 126, 127, 128, 129, 130, 131, 132, 133, 134, 135, 136, 137, 138, 139, 140, 141, 142, 143, 144, 145, 146, 147, 148, 149, 150, 151, 152, 153, 154, 155, 156, 157, 158, 159, 160, 161, 162, 163, 164, 165, 166, 167, 39, 40, 10]
  (.seq none (.seq none (.reg [⟨none, [], [0, 1, 2]⟩] [])
  (.cond .leaf
  .leaf))
  (.seq (some ([5], [41, 42, 43, 44, 45, 46, 47, 48, 49, 50, 11, 12, 51, 52, 53, 54, 55, 13, 56, 57, 58, 59, 60, 61, 62, 14, 63, 64, 65, 66, 67, 68, 69, 70, 71, 72, 73, 74, 75, 76, 77, 78, 79, 80, 81, 82, 83, 84, 85, 86, 87, 88, 89, 90, 5, 91, 92, 93, 94, 95, 15, 96, 97, 98, 99, 100, 101, 102, 16, 103, 104, 105, 106, 107, 108, 109, 110, 111, 112, 113, 114, 115, 116, 117, 118, 119, 120, 121, 122, 123, 17, 124, 125, 126, 127, 128, 129, 130, 131, 132, 133, 134, 135, 136, 137, 138, 139, 140, 141, 142, 143, 144, 145, 146, 147, 148, 149, 150, 151, 152, 153, 154, 155, 156, 157, 158, 159, 160, 161, 162, 163, 164, 165, 166, 167])) (.sub (.seq none (.seq none (.reg [⟨none, [], [0, 1, 2, 3, 4, 5]⟩] [])
  (.cond .leaf
  .leaf))
  (.seq none (.reg [⟨none, [], [0, 1, 2, 3, 4]⟩] [])
  (.seq none (.reg [⟨none, [], [0]⟩] [])
  (.seq none (.seq none (.reg [⟨none, [], [0, 1, 2]⟩] [])
  (.sub (.loop [12, 53] [54, 55, 13, 56, 57, 58, 59, 60, 61, 62, 14, 63, 64, 65, 66, 67, 68, 69, 70, 71, 72, 73, 74, 12, 75, 53]
  (.seq none (.reg [⟨none, [], [0]⟩] [])
  (.seq none (.cond .leaf
  .leaf)
  (.seq (some ([12], [55, 13, 56, 57, 58, 59, 60, 61, 62, 14, 63, 64, 65, 66, 67, 68, 69, 70, 71, 72, 73, 74, 12])) (.sub (.seq none (.reg [⟨none, [], [0, 1]⟩] [])
  (.seq none (.reg [⟨none, [], [0, 1, 2, 3, 4, 5, 6, 7]⟩] [])
  (.seq none (.reg [⟨none, [], [0, 1, 2]⟩, ⟨some (2, true), [68], [3, 4, 5]⟩, ⟨some (5, false), [71], [6, 7, 8]⟩, ⟨some (2, true), [72], [9]⟩, ⟨none, [], [10]⟩] [])
  (.cond (.reg [⟨none, [], [0, 1]⟩] [])
  .leaf)))))
  (.reg [⟨none, [], [0, 1]⟩] [])))))))
  (.seq none (.seq none (.reg [⟨none, [], [0, 1]⟩] [])
  (.cond (.seq none (.reg [⟨none, [], [0, 1, 2, 3, 4, 5]⟩] [])
  (.seq none (.reg [⟨none, [], [0, 1, 2, 3, 4, 5, 6, 7, 8]⟩] [])
  .leaf))
  .leaf))
  (.seq none (.seq none (.reg [⟨none, [], [0, 1, 2]⟩] [])
  (.sub (.loop [93] [94, 95, 15, 96, 97, 98, 99, 100, 101, 102, 16, 103, 104, 105, 106, 107, 108, 109, 110, 111, 112, 113, 114, 115, 116, 117, 118, 119, 120, 121, 122, 123, 17, 124, 125, 126, 127, 128, 129, 130, 131, 132, 133, 134, 135, 136, 137, 138, 139, 140, 141, 142, 143, 144, 145, 146, 147, 148, 149, 150, 151, 93]
  (.seq none (.reg [⟨none, [], [0]⟩] [])
  (.seq none (.cond .leaf
  .leaf)
  (.seq (some ([], [95, 15, 96, 97, 98, 99, 100, 101, 102, 16, 103, 104, 105, 106, 107, 108, 109, 110, 111, 112, 113, 114, 115, 116, 117, 118, 119, 120, 121, 122, 123, 17, 124, 125, 126, 127, 128, 129, 130, 131, 132, 133, 134, 135, 136, 137, 138, 139, 140, 141, 142, 143, 144, 145, 146, 147, 148, 149, 150])) (.sub (.seq none (.reg [⟨none, [], [0, 1]⟩] [])
  (.seq none (.reg [⟨none, [], [0, 1, 2, 3, 4, 5, 6, 7]⟩] [])
  (.seq none (.seq none (.reg [⟨none, [], [0, 1, 2]⟩, ⟨some (2, false), [108], [3, 4, 5]⟩, ⟨none, [], [6]⟩] [])
  (.cond .leaf
  .leaf))
  (.seq none (.reg [⟨none, [], [0, 1, 2, 3, 4, 5]⟩] [])
  (.seq none (.seq none (.reg [⟨none, [], [0, 1, 2, 3, 4, 5, 6]⟩] [])
  (.sub (.loop [121] [122, 123, 17, 124, 125, 126, 127, 128, 129, 130, 131, 132, 133, 134, 135, 121]
  (.seq none (.reg [⟨none, [], [0]⟩] [])
  (.seq none (.cond .leaf
  .leaf)
  (.seq none (.sub (.seq none (.reg [⟨none, [], [0, 1]⟩] [])
  (.reg [⟨none, [], [0, 1, 2, 3, 4, 5, 6, 7, 8, 9, 10, 11]⟩] [])))
  (.reg [⟨none, [], [0, 1]⟩] [])))))))
  (.reg [⟨none, [], [0, 1, 2, 3, 4, 5, 6, 7, 8, 9, 10, 11, 12, 13, 14, 15]⟩] [])))))))
  (.reg [⟨none, [], [0, 1]⟩] [])))))))
  (.seq none (.reg [⟨none, [], [0, 1, 2, 3, 4]⟩] [])
  (.reg [⟨none, [], [0, 1, 2, 3, 4, 5, 6, 7, 8, 9, 10, 11, 12]⟩] [])))))))))
  (.reg [⟨none, [], [0, 1, 2]⟩] [])))))))
  (.reg [⟨none, [], [0, 1, 2]⟩] []))))))
  (.seq none (.reg [⟨none, [], [0, 1]⟩] [])
  .leaf)))))))
def S_l09Valleys (a0 a1 : Value) (w : World) (K : Value → World → Prop) : Prop :=
  eff Pg (Instr.buildSlice 76 0 #[]) w fun t18_1 w =>
  rd Pg (Builtin.len_ #[34] 3 #[a1]) w fun t20_2 =>
  eff Pg (Instr.makeSlice 34 t20_2 t20_2) w fun t22_3 w =>
  rd Pg (Builtin.len_ #[34] 3 #[t22_3]) w fun t24_4 =>
  loopS (fun N5 g6 s7 w =>
  pur Pg (binOp Go.BinOp.lss 3 (nth s7 0) t24_4) fun t26_8 =>
  ifB t26_8 (pur Pg (Instr.indexAt 34 t22_3 (nth s7 0)) fun t30_9 =>
  effU Pg (Instr.storeAt 2 t30_9 (Go.Value.int Go.IntKind.i64 (-1))) w fun w =>
  pur Pg (binOp Go.BinOp.add 3 (nth s7 0) (Go.Value.int Go.IntKind.i64 1)) fun t31_10 =>
  N5 [t31_10] w)
  (loopS (fun N11 g12 s13 w =>
  pur Pg (binOp Go.BinOp.leq 2 (nth s13 1) (Go.Value.int Go.IntKind.i64 99)) fun t33_14 =>
  ifB t33_14 (loopS (fun N15 g16 s17 w =>
  pur Pg (binOp Go.BinOp.lss 2 (nth s17 1) t20_2) fun t38_18 =>
  ifB t38_18 (joinS (fun g19 s20 w =>
  pur Pg (binOp Go.BinOp.add 2 (nth s17 1) (Go.Value.int Go.IntKind.i64 1)) fun t40_22 =>
  N15 [(nth s20 0), t40_22] w) fun J21 =>
  pur Pg (Instr.indexAt 34 a1 (nth s17 1)) fun t43_23 =>
  rd Pg (Instr.loadAt 2 t43_23) w fun t44_24 =>
  rd Pg (binSem Go.BinOp.neq 2 (Go.Operand.tmp 44) (Go.Operand.tmp 45) t44_24 (nth s13 1)) w fun t46_25 =>
  ifB t46_25 (J21 [(nth s17 0)] w)
  (callS Pg n_l09Near #[a0, t20_2, (nth s17 1)] w fun t50_26 w =>
  rd Pg (Builtin.len_ #[34] 3 #[t50_26]) w fun t52_27 =>
  loopS (fun N28 g29 s30 w =>
  pur Pg (binOp Go.BinOp.lss 3 (nth s30 1) t52_27) fun t54_31 =>
  ifB t54_31 (joinS (fun g32 s33 w =>
  pur Pg (binOp Go.BinOp.add 3 (nth s30 1) (Go.Value.int Go.IntKind.i64 1)) fun t75_35 =>
  N28 [(nth s33 0), t75_35] w) fun J34 =>
  pur Pg (Instr.indexAt 34 t50_26 (nth s30 1)) fun t59_36 =>
  rd Pg (Instr.loadAt 2 t59_36) w fun t60_37 =>
  pur Pg (Instr.indexAt 34 t22_3 t60_37) fun t61_38 =>
  rd Pg (Instr.loadAt 2 t61_38) w fun t62_39 =>
  pur Pg (binOp Go.BinOp.geq 2 t62_39 (Go.Value.int Go.IntKind.i64 0)) fun t64_40 =>
  joinS (fun g41 s42 w =>
  joinS (fun g44 s45 w =>
  joinS (fun g47 s48 w =>
  pickS t64_40 (nth s48 0) (Go.Value.bool Bool.false) fun t73_50 =>
  ifB t73_50 (J34 [t62_39] w)
  (J34 [(nth s30 0)] w)) fun J49 =>
  ifG t64_40 true (pickS (nth s42 0) (Go.Value.bool Bool.true) (nth s45 0) fun t72_51 =>
  J49 [t72_51] w)
  (J49 [undef] w)) fun J46 =>
  ifG (nth s42 0) false (pur Pg (binOp Go.BinOp.lss 2 t62_39 (nth s30 0)) fun t71_52 =>
  J46 [t71_52] w)
  (J46 [undef] w)) fun J43 =>
  ifG t64_40 true (pur Pg (binOp Go.BinOp.lss 2 (nth s30 0) (Go.Value.int Go.IntKind.i64 0)) fun t67_53 =>
  J43 [t67_53] w)
  (J43 [undef] w))
  (pur Pg (binOp Go.BinOp.lss 2 (nth s30 0) (Go.Value.int Go.IntKind.i64 0)) fun t77_54 =>
  ifB t77_54 (rd Pg (Builtin.len_ #[76] 3 #[(nth s17 0)]) w fun t81_55 =>
  pur Pg (Instr.indexAt 34 t22_3 (nth s17 1)) fun t82_56 =>
  effU Pg (Instr.storeAt 2 t82_56 t81_55) w fun w =>
  eff Pg (Instr.buildSlice 34 1 #[(0, (nth s17 1))]) w fun t87_57 w =>
  pur Pg (Instr.build 80 #[(0, (nth s13 1)), (1, (nth s17 1)), (2, (Go.Value.int Go.IntKind.i64 (-1))), (3, t87_57)]) fun t88_58 =>
  eff Pg (Instr.buildSlice 76 1 #[(0, t88_58)]) w fun t89_59 w =>
  eff Pg (Builtin.append_ #[76, 76] 76 #[(nth s17 0), t89_59]) w fun t90_60 w =>
  J21 [t90_60] w)
  (rd Pg (Builtin.len_ #[34] 3 #[t50_26]) w fun t92_61 =>
  loopS (fun N62 g63 s64 w =>
  pur Pg (binOp Go.BinOp.lss 3 (nth s64 0) t92_61) fun t94_65 =>
  ifB t94_65 (joinS (fun g66 s67 w =>
  pur Pg (binOp Go.BinOp.add 3 (nth s64 0) (Go.Value.int Go.IntKind.i64 1)) fun t151_69 =>
  N62 [t151_69] w) fun J68 =>
  pur Pg (Instr.indexAt 34 t50_26 (nth s64 0)) fun t99_70 =>
  rd Pg (Instr.loadAt 2 t99_70) w fun t100_71 =>
  pur Pg (Instr.indexAt 34 t22_3 t100_71) fun t101_72 =>
  rd Pg (Instr.loadAt 2 t101_72) w fun t102_73 =>
  pur Pg (binOp Go.BinOp.lss 2 t102_73 (Go.Value.int Go.IntKind.i64 0)) fun t104_74 =>
  joinS (fun g75 s76 w =>
  pickS t104_74 (Go.Value.bool Bool.true) (nth s76 0) fun t109_78 =>
  ifB t109_78 (J68 [] w)
  (pur Pg (Instr.indexAt 76 (nth s17 0) t102_73) fun t113_79 =>
  pur Pg (Instr.fieldAt 80 t113_79 2) fun t114_80 =>
  effU Pg (Instr.storeAt 2 t114_80 (nth s13 1)) w fun w =>
  pur Pg (Instr.indexAt 76 (nth s17 0) t102_73) fun t117_81 =>
  pur Pg (Instr.fieldAt 80 t117_81 3) fun t118_82 =>
  rd Pg (Instr.loadAt 34 t118_82) w fun t119_83 =>
  rd Pg (Builtin.len_ #[34] 3 #[t119_83]) w fun t120_84 =>
  loopS (fun N85 g86 s87 w =>
  pur Pg (binOp Go.BinOp.lss 3 (nth s87 0) t120_84) fun t122_88 =>
  ifB t122_88 (pur Pg (Instr.indexAt 76 (nth s17 0) t102_73) fun t127_89 =>
  pur Pg (Instr.fieldAt 80 t127_89 3) fun t128_90 =>
  rd Pg (Instr.loadAt 34 t128_90) w fun t129_91 =>
  pur Pg (Instr.indexAt 34 t129_91 (nth s87 0)) fun t131_92 =>
  rd Pg (Instr.loadAt 2 t131_92) w fun t132_93 =>
  pur Pg (Instr.indexAt 34 t22_3 t132_93) fun t134_94 =>
  effU Pg (Instr.storeAt 2 t134_94 (nth s30 0)) w fun w =>
  pur Pg (binOp Go.BinOp.add 3 (nth s87 0) (Go.Value.int Go.IntKind.i64 1)) fun t135_95 =>
  N85 [t135_95] w)
  (drawS w fun w =>
  pur Pg (Instr.indexAt 76 (nth s17 0) (nth s30 0)) fun t140_96 =>
  pur Pg (Instr.fieldAt 80 t140_96 3) fun t141_97 =>
  rd Pg (Instr.loadAt 34 t141_97) w fun t142_98 =>
  pur Pg (Instr.indexAt 76 (nth s17 0) t102_73) fun t145_99 =>
  pur Pg (Instr.fieldAt 80 t145_99 3) fun t146_100 =>
  rd Pg (Instr.loadAt 34 t146_100) w fun t147_101 =>
  eff Pg (Builtin.append_ #[34, 34] 34 #[t142_98, t147_101]) w fun t148_102 w =>
  pur Pg (Instr.indexAt 76 (nth s17 0) (nth s30 0)) fun t149_103 =>
  pur Pg (Instr.fieldAt 80 t149_103 3) fun t150_104 =>
  effU Pg (Instr.storeAt 34 t150_104 t148_102) w fun w =>
  J68 [] w)) [(Go.Value.int Go.IntKind.i64 0)] w)) fun J77 =>
  ifG t104_74 false (rd Pg (binSem Go.BinOp.eql 2 (Go.Operand.tmp 106) (Go.Operand.tmp 107) t102_73 (nth s30 0)) w fun t108_105 =>
  J77 [t108_105] w)
  (J77 [undef] w))
  (pur Pg (Instr.indexAt 34 t22_3 (nth s17 1)) fun t155_106 =>
  effU Pg (Instr.storeAt 2 t155_106 (nth s30 0)) w fun w =>
  pur Pg (Instr.indexAt 76 (nth s17 0) (nth s30 0)) fun t160_107 =>
  pur Pg (Instr.fieldAt 80 t160_107 3) fun t161_108 =>
  rd Pg (Instr.loadAt 34 t161_108) w fun t162_109 =>
  eff Pg (Instr.buildSlice 34 1 #[(0, (nth s17 1))]) w fun t164_110 w =>
  eff Pg (Builtin.append_ #[34, 34] 34 #[t162_109, t164_110]) w fun t165_111 w =>
  pur Pg (Instr.indexAt 76 (nth s17 0) (nth s30 0)) fun t166_112 =>
  pur Pg (Instr.fieldAt 80 t166_112 3) fun t167_113 =>
  effU Pg (Instr.storeAt 34 t167_113 t165_111) w fun w =>
  J21 [(nth s17 0)] w)) [(Go.Value.int Go.IntKind.i64 0)] w))) [(Go.Value.int Go.IntKind.i64 (-1)), (Go.Value.int Go.IntKind.i64 0)] w))
  (pur Pg (binOp Go.BinOp.add 2 (nth s13 1) (Go.Value.int Go.IntKind.i64 1)) fun t35_114 =>
  N11 [(nth s17 0), t35_114] w)) [(nth s13 0), (Go.Value.int Go.IntKind.i64 0)] w)
  (K (nth s13 0) w)) [t18_1, (Go.Value.int Go.IntKind.i64 0)] w)) [(Go.Value.int Go.IntKind.i64 0)] w
theorem eq_l09Valleys : ∀ (a0 a1 : Value) (w : World) (K : Value → World → Prop), S_l09Valleys a0 a1 w K = codeS Pg (Try.f55.body.getD .skip) ann_l09Valleys (topX Pg Try.f55.results K) (fun t => Array.getD #[a0, a1] t undef) w := by
  intro a0 a1 w K
  kernel_rfl
theorem call_l09Valleys (a0 a1 : Value) (w : World) (K : Value → World → Prop) (h : S_l09Valleys a0 a1 w K) : callS Pg n_l09Valleys #[a0, a1] w K :=
  callS_of mixed Try.func55 (c := Try.f55.body.getD .skip) (by kernel_rfl) (by kernel_rfl) (ann := ann_l09Valleys) (by kernel_rfl) (Nat.le_of_ble_eq_true (by kernel_rfl)) (by rw [← eq_l09Valleys]; exact h)

-- loop.example/g01165/spec.l07Width
def ann_l07Width : Ann :=
  (.seq none (.reg [⟨none, [], [0]⟩] [])
  (.seq none (.reg [⟨none, [], [0, 1, 2, 3, 4, 5, 6, 7]⟩] [])
  .leaf))
def S_l07Width (a0 : Value) (w : World) (K : Value → World → Prop) : Prop :=
  nilS a0 fun t4_1 =>
  pur Pg (Instr.fieldAt 26 t4_1 0) fun t5_2 =>
  rd Pg (Instr.loadAt 24 t5_2) w fun t6_3 =>
  pur Pg (Instr.indexAt 24 t6_3 (Go.Value.int Go.IntKind.i64 0)) fun t7_4 =>
  rd Pg (Instr.loadAt 34 t7_4) w fun t8_5 =>
  rd Pg (Builtin.len_ #[34] 3 #[t8_5]) w fun t9_6 =>
  K t9_6 w
theorem eq_l07Width : ∀ (a0 : Value) (w : World) (K : Value → World → Prop), S_l07Width a0 w K = codeS Pg (Try.f56.body.getD .skip) ann_l07Width (topX Pg Try.f56.results K) (fun t => Array.getD #[a0] t undef) w := by
  intro a0 w K
  kernel_rfl
theorem call_l07Width (a0 : Value) (w : World) (K : Value → World → Prop) (h : S_l07Width a0 w K) : callS Pg n_l07Width #[a0] w K :=
  callS_of mixed Try.func56 (c := Try.f56.body.getD .skip) (by kernel_rfl) (by kernel_rfl) (ann := ann_l07Width) (by kernel_rfl) (Nat.le_of_ble_eq_true (by kernel_rfl)) (by rw [← eq_l07Width]; exact h)

-- loop.example/g01165/spec.l00Max
def ann_l00Max : Ann :=
  (.seq none (.reg [⟨none, [], [0]⟩] [])
  (.seq none (.seq none (.reg [⟨none, [], [0, 1, 2]⟩] [])
  (.cond (.seq none (.reg [⟨none, [], [0, 1]⟩] [])
  .leaf)
  .leaf))
  (.seq none (.reg [⟨none, [], [0, 1]⟩] [])
  .leaf)))
def S_l00Max (a0 a1 : Value) (w : World) (K : Value → World → Prop) : Prop :=
  pur Pg (binOp Go.BinOp.gtr 2 a0 a1) fun t7_1 =>
  ifB t7_1 (K a0 w)
  (K a1 w)
theorem eq_l00Max : ∀ (a0 a1 : Value) (w : World) (K : Value → World → Prop), S_l00Max a0 a1 w K = codeS Pg (Try.f57.body.getD .skip) ann_l00Max (topX Pg Try.f57.results K) (fun t => Array.getD #[a0, a1] t undef) w := by
  intro a0 a1 w K
  kernel_rfl
theorem call_l00Max (a0 a1 : Value) (w : World) (K : Value → World → Prop) (h : S_l00Max a0 a1 w K) : callS Pg n_l00Max #[a0, a1] w K :=
  callS_of mixed Try.func57 (c := Try.f57.body.getD .skip) (by kernel_rfl) (by kernel_rfl) (ann := ann_l00Max) (by kernel_rfl) (Nat.le_of_ble_eq_true (by kernel_rfl)) (by rw [← eq_l00Max]; exact h)

-- loop.example/g01165/spec.l07Rows
def ann_l07Rows : Ann :=
  (.seq none (.reg [⟨none, [], [0]⟩] [])
  (.seq none (.reg [⟨none, [], [0, 1]⟩] [])
  (.seq none (.seq none (.reg [⟨none, [], [0]⟩] [])
  (.sub (.loop [5, 6] [8, 9, 10, 11, 15, 16, 17, 18, 19, 20, 21, 22, 23, 24, 5, 12, 13, 14, 6]
  (.seq none (.seq none (.reg [⟨none, [], [0, 1, 2, 3]⟩] [])
  (.cond .leaf
  .leaf))
  (.seq none (.sub (.reg [⟨none, [], [0, 1, 2, 3, 4, 5, 6, 7, 8, 9, 10]⟩] []))
  (.reg [⟨none, [], [0, 1, 2, 3]⟩] []))))))
  (.seq none (.reg [⟨none, [], [0, 1]⟩] [])
  .leaf))))
def S_l07Rows (a0 a1 : Value) (w : World) (K : Value → World → Prop) : Prop :=
  eff Pg (Instr.buildSlice 24 0 #[]) w fun t7_1 w =>
  loopS (fun N2 g3 s4 w =>
  rd Pg (Builtin.len_ #[34] 3 #[a1]) w fun t10_5 =>
  pur Pg (binOp Go.BinOp.lss 2 (nth s4 1) t10_5) fun t11_6 =>
  ifB t11_6 (pur Pg (binOp Go.BinOp.add 2 (nth s4 1) a0) fun t20_7 =>
  pur Pg (Instr.sliceAt 34 a1 (some (nth s4 1)) (some t20_7) none) fun t21_8 =>
  callS Pg n_l00Own #[t21_8] w fun t22_9 w =>
  eff Pg (Instr.buildSlice 24 1 #[(0, t22_9)]) w fun t23_10 w =>
  eff Pg (Builtin.append_ #[24, 24] 24 #[(nth s4 0), t23_10]) w fun t24_11 w =>
  pur Pg (binOp Go.BinOp.add 2 (nth s4 1) a0) fun t14_12 =>
  N2 [t24_11, t14_12] w)
  (K (nth s4 0) w)) [t7_1, (Go.Value.int Go.IntKind.i64 0)] w
theorem eq_l07Rows : ∀ (a0 a1 : Value) (w : World) (K : Value → World → Prop), S_l07Rows a0 a1 w K = codeS Pg (Try.f58.body.getD .skip) ann_l07Rows (topX Pg Try.f58.results K) (fun t => Array.getD #[a0, a1] t undef) w := by
  intro a0 a1 w K
  kernel_rfl
theorem call_l07Rows (a0 a1 : Value) (w : World) (K : Value → World → Prop) (h : S_l07Rows a0 a1 w K) : callS Pg n_l07Rows #[a0, a1] w K :=
  callS_of mixed Try.func58 (c := Try.f58.body.getD .skip) (by kernel_rfl) (by kernel_rfl) (ann := ann_l07Rows) (by kernel_rfl) (Nat.le_of_ble_eq_true (by kernel_rfl)) (by rw [← eq_l07Rows]; exact h)

-- (*loop.example/g01165/spec.l00Src).next
def ann_l00Src_next : Ann :=
  (.seq none (.reg [⟨none, [], [0]⟩] [])
  (.seq none (.reg [⟨none, [], [0]⟩] [])
  (.seq (some ([3], [4, 5, 6, 7, 8, 9, 10, 11, 12, 13, 14, 15, 16, 17, 18, 19, 20, 21, 22, 23, 24, 3])) (.seq none (.reg [⟨none, [], [0, 1, 2, 3, 4, 5, 6, 7, 8, 9]⟩] [])
  (.cond (.reg [⟨none, [], [0, 1, 2, 3, 4, 5, 6, 7, 8, 9, 10, 11]⟩] [])
  .leaf))
  (.seq none (.reg [⟨none, [], [0, 1, 2, 3, 4, 5, 6, 7]⟩] [])
  (.seq none (.reg [⟨none, [], [0, 1, 2, 3, 4, 5, 6, 7, 8, 9, 10, 11, 12]⟩] [])
  (.seq none (.seq none (.reg [⟨none, [], [0, 1, 2, 3, 4, 5, 6, 7, 8, 9]⟩] [])
  (.cond (.seq none (.reg [⟨none, [], [0, 1]⟩] [])
  .leaf)
  .leaf))
  (.seq none (.reg [⟨none, [], [0, 1, 2, 3, 4, 5, 6, 7]⟩] [])
  .leaf)))))))
def S_l00Src_next (a0 : Value) (w : World) (K : Value → World → Prop) : Prop :=
  joinS (fun g1 s2 w =>
  nilS a0 fun t26_4 =>
  pur Pg (Instr.fieldAt 85 t26_4 1) fun t27_5 =>
  rd Pg (Instr.loadAt 3 t27_5) w fun t28_6 =>
  pur Pg (binOp Go.BinOp.add 3 t28_6 (Go.Value.int Go.IntKind.i64 1)) fun t29_7 =>
  nilS a0 fun t30_8 =>
  pur Pg (Instr.fieldAt 85 t30_8 1) fun t31_9 =>
  effU Pg (Instr.storeAt 3 t31_9 t29_7) w fun w =>
  nilS a0 fun t34_10 =>
  pur Pg (Instr.fieldAt 85 t34_10 2) fun t35_11 =>
  rd Pg (Instr.loadAt 83 t35_11) w fun t36_12 =>
  pur Pg (binOp Go.BinOp.mul 83 t36_12 (Go.Value.int Go.IntKind.u64 6364136223846793005)) fun t37_13 =>
  eff Pg (convert 3 83 (nth s2 0)) w fun t39_14 w =>
  pur Pg (binOp Go.BinOp.add 83 t37_13 t39_14) fun t40_15 =>
  pur Pg (binOp Go.BinOp.add 83 t40_15 (Go.Value.int Go.IntKind.u64 1442695040888963407)) fun t41_16 =>
  nilS a0 fun t42_17 =>
  pur Pg (Instr.fieldAt 85 t42_17 2) fun t43_18 =>
  effU Pg (Instr.storeAt 83 t43_18 t41_16) w fun w =>
  drawS w fun w =>
  nilS a0 fun t45_19 =>
  pur Pg (Instr.fieldAt 85 t45_19 1) fun t46_20 =>
  rd Pg (Instr.loadAt 3 t46_20) w fun t47_21 =>
  nilS a0 fun t49_22 =>
  pur Pg (Instr.fieldAt 85 t49_22 0) fun t50_23 =>
  rd Pg (Instr.loadAt 22 t50_23) w fun t51_24 =>
  rd Pg (Builtin.len_ #[22] 3 #[t51_24]) w fun t52_25 =>
  pur Pg (binOp Go.BinOp.leq 3 t47_21 t52_25) fun t53_26 =>
  ifB t53_26 (K (nth s2 0) w)
  (nilS a0 fun t56_27 =>
  pur Pg (Instr.fieldAt 85 t56_27 2) fun t57_28 =>
  rd Pg (Instr.loadAt 83 t57_28) w fun t58_29 =>
  pur Pg (binOp Go.BinOp.shr 83 t58_29 (Go.Value.int Go.IntKind.u64 40)) fun t59_30 =>
  pur Pg (binOp Go.BinOp.and 83 t59_30 (Go.Value.int Go.IntKind.u64 255)) fun t60_31 =>
  eff Pg (convert 83 2 t60_31) w fun t61_32 w =>
  K t61_32 w)) fun J3 =>
  drawS w fun w =>
  nilS a0 fun t5_33 =>
  pur Pg (Instr.fieldAt 85 t5_33 1) fun t6_34 =>
  rd Pg (Instr.loadAt 3 t6_34) w fun t7_35 =>
  nilS a0 fun t9_36 =>
  pur Pg (Instr.fieldAt 85 t9_36 0) fun t10_37 =>
  rd Pg (Instr.loadAt 22 t10_37) w fun t11_38 =>
  rd Pg (Builtin.len_ #[22] 3 #[t11_38]) w fun t12_39 =>
  pur Pg (binOp Go.BinOp.lss 3 t7_35 t12_39) fun t13_40 =>
  ifB t13_40 (drawS w fun w =>
  nilS a0 fun t15_41 =>
  pur Pg (Instr.fieldAt 85 t15_41 0) fun t16_42 =>
  rd Pg (Instr.loadAt 22 t16_42) w fun t17_43 =>
  nilS a0 fun t19_44 =>
  pur Pg (Instr.fieldAt 85 t19_44 1) fun t20_45 =>
  rd Pg (Instr.loadAt 3 t20_45) w fun t21_46 =>
  pur Pg (Instr.indexAt 22 t17_43 t21_46) fun t22_47 =>
  rd Pg (Instr.loadAt 5 t22_47) w fun t23_48 =>
  eff Pg (convert 5 3 t23_48) w fun t24_49 w =>
  J3 [t24_49] w)
  (J3 [(Go.Value.int Go.IntKind.i64 0)] w)
theorem eq_l00Src_next : ∀ (a0 : Value) (w : World) (K : Value → World → Prop), S_l00Src_next a0 w K = codeS Pg (Try.f59.body.getD .skip) ann_l00Src_next (topX Pg Try.f59.results K) (fun t => Array.getD #[a0] t undef) w := by
  intro a0 w K
  kernel_rfl
theorem call_l00Src_next (a0 : Value) (w : World) (K : Value → World → Prop) (h : S_l00Src_next a0 w K) : callS Pg n_l00Src_next #[a0] w K :=
  callS_of mixed Try.func59 (c := Try.f59.body.getD .skip) (by kernel_rfl) (by kernel_rfl) (ann := ann_l00Src_next) (by kernel_rfl) (Nat.le_of_ble_eq_true (by kernel_rfl)) (by rw [← eq_l00Src_next]; exact h)

-- (*loop.example/g01165/spec.l00Src).one
def ann_l00Src_one : Ann :=
  (.seq none (.reg [⟨none, [], [0]⟩] [])
  (.seq none (.reg [⟨none, [], [0, 1, 2, 3, 4]⟩] [])
  .leaf))
def S_l00Src_one (a0 a1 : Value) (w : World) (K : Value → World → Prop) : Prop :=
  callS Pg n_l00Src_pick #[a0, a1] w fun t7_1 w =>
  rd Pg (binSem Go.BinOp.eql 2 (Go.Operand.tmp 7) (Go.Operand.const (Go.Value.int Go.IntKind.i64 0)) t7_1 (Go.Value.int Go.IntKind.i64 0)) w fun t8_2 =>
  K t8_2 w
theorem eq_l00Src_one : ∀ (a0 a1 : Value) (w : World) (K : Value → World → Prop), S_l00Src_one a0 a1 w K = codeS Pg (Try.f60.body.getD .skip) ann_l00Src_one (topX Pg Try.f60.results K) (fun t => Array.getD #[a0, a1] t undef) w := by
  intro a0 a1 w K
  kernel_rfl
theorem call_l00Src_one (a0 a1 : Value) (w : World) (K : Value → World → Prop) (h : S_l00Src_one a0 a1 w K) : callS Pg n_l00Src_one #[a0, a1] w K :=
  callS_of mixed Try.func60 (c := Try.f60.body.getD .skip) (by kernel_rfl) (by kernel_rfl) (ann := ann_l00Src_one) (by kernel_rfl) (Nat.le_of_ble_eq_true (by kernel_rfl)) (by rw [← eq_l00Src_one]; exact h)

-- loop.example/g01165/impl.rowsOk
def ann_rowsOk : Ann :=
  (.seq none (.reg [⟨none, [], [0, 1, 2]⟩] [])
  (.seq none (.seq none (.reg [⟨none, [], [0, 1, 2, 3]⟩, ⟨some (3, false), [16], [4, 5, 6, 7, 8, 9, 10, 11]⟩, ⟨none, [], [12]⟩] [])
  (.cond (.seq none (.reg [⟨none, [], [0]⟩] [])
  .leaf)
  .leaf))
  (.seq none (.reg [⟨none, [], [0, 1, 2, 3, 4]⟩] [])
  .leaf)))
def S_rowsOk (a0 a1 : Value) (w : World) (K : Value → World → Prop) : Prop :=
  eff Pg (Instr.box 24 a0) w fun t2_1 w =>
  eff Pg (Instr.box 2 a1) w fun t3_2 w =>
  drawS w fun w =>
  rd Pg (Instr.loadAt 24 t2_1) w fun t5_3 =>
  rd Pg (Builtin.len_ #[24] 3 #[t5_3]) w fun t6_4 =>
  rd Pg (binSem Go.BinOp.eql 3 (Go.Operand.tmp 6) (Go.Operand.const (Go.Value.int Go.IntKind.i64 0)) t6_4 (Go.Value.int Go.IntKind.i64 0)) w fun t7_5 =>
  joinS (fun g6 s7 w =>
  pickS t7_5 (Go.Value.bool Bool.true) (nth s7 0) fun t17_9 =>
  ifB t17_9 (K (Go.Value.bool Bool.false) w)
  (rd Pg (Instr.loadAt 24 t2_1) w fun t18_10 =>
  callS Pg n_slices_ContainsFunc_int64_int64 #[t18_10, (Value.func (.func n_rowsOk_1) #[] #[t2_1, t3_2])] w fun t20_11 w =>
  pur Pg (Op.unary Go.UnOp.not t20_11) fun t21_12 =>
  K t21_12 w)) fun J8 =>
  ifG t7_5 false (rd Pg (Instr.loadAt 24 t2_1) w fun t9_13 =>
  pur Pg (Instr.indexAt 24 t9_13 (Go.Value.int Go.IntKind.i64 0)) fun t10_14 =>
  rd Pg (Instr.loadAt 34 t10_14) w fun t11_15 =>
  rd Pg (Builtin.len_ #[34] 3 #[t11_15]) w fun t12_16 =>
  rd Pg (Instr.loadAt 24 t2_1) w fun t13_17 =>
  rd Pg (Builtin.len_ #[24] 3 #[t13_17]) w fun t14_18 =>
  callS Pg n_sizeOk #[t12_16, t14_18] w fun t15_19 w =>
  pur Pg (Op.unary Go.UnOp.not t15_19) fun t16_20 =>
  J8 [t16_20] w)
  (J8 [undef] w)
theorem eq_rowsOk : ∀ (a0 a1 : Value) (w : World) (K : Value → World → Prop), S_rowsOk a0 a1 w K = codeS Pg (Try.f61.body.getD .skip) ann_rowsOk (topX Pg Try.f61.results K) (fun t => Array.getD #[a0, a1] t undef) w := by
  intro a0 a1 w K
  kernel_rfl
theorem call_rowsOk (a0 a1 : Value) (w : World) (K : Value → World → Prop) (h : S_rowsOk a0 a1 w K) : callS Pg n_rowsOk #[a0, a1] w K :=
  callS_of mixed Try.func61 (c := Try.f61.body.getD .skip) (by kernel_rfl) (by kernel_rfl) (ann := ann_rowsOk) (by kernel_rfl) (Nat.le_of_ble_eq_true (by kernel_rfl)) (by rw [← eq_rowsOk]; exact h)

-- (*loop.example/g01165/impl.Grey).sizes
def ann_Grey_sizes : Ann :=
  (.seq none (.reg [⟨none, [], [0, 1]⟩] [])
  (.seq none (.reg [⟨none, [], [0, 1, 2, 3, 4, 5, 6, 7, 8, 9, 10, 11, 12, 13]⟩] [])
  .leaf))
def S_Grey_sizes (a0 : Value) (w : World) (K : Value → World → Prop) : Prop :=
  drawS w fun w =>
  nilS a0 fun t5_1 =>
  pur Pg (Instr.fieldAt 26 t5_1 0) fun t6_2 =>
  rd Pg (Instr.loadAt 24 t6_2) w fun t7_3 =>
  pur Pg (Instr.indexAt 24 t7_3 (Go.Value.int Go.IntKind.i64 0)) fun t8_4 =>
  rd Pg (Instr.loadAt 34 t8_4) w fun t9_5 =>
  rd Pg (Builtin.len_ #[34] 3 #[t9_5]) w fun t10_6 =>
  nilS a0 fun t12_7 =>
  pur Pg (Instr.fieldAt 26 t12_7 0) fun t13_8 =>
  rd Pg (Instr.loadAt 24 t13_8) w fun t14_9 =>
  rd Pg (Builtin.len_ #[24] 3 #[t14_9]) w fun t15_10 =>
  K (Value.tuple #[t10_6, t15_10]) w
theorem eq_Grey_sizes : ∀ (a0 : Value) (w : World) (K : Value → World → Prop), S_Grey_sizes a0 w K = codeS Pg (Try.f62.body.getD .skip) ann_Grey_sizes (topX Pg Try.f62.results K) (fun t => Array.getD #[a0] t undef) w := by
  intro a0 w K
  kernel_rfl
theorem call_Grey_sizes (a0 : Value) (w : World) (K : Value → World → Prop) (h : S_Grey_sizes a0 w K) : callS Pg n_Grey_sizes #[a0] w K :=
  callS_of mixed Try.func62 (c := Try.f62.body.getD .skip) (by kernel_rfl) (by kernel_rfl) (ann := ann_Grey_sizes) (by kernel_rfl) (Nat.le_of_ble_eq_true (by kernel_rfl)) (by rw [← eq_Grey_sizes]; exact h)

-- loop.example/g01165/impl.blank
def ann_blank : Ann :=
  (.seq none (.reg [⟨none, [], [0]⟩] [])
  (.seq none (.reg [⟨none, [], [0, 1, 2, 3, 4, 5, 6, 7, 8]⟩] [])
  .leaf))
def S_blank (a0 a1 : Value) (w : World) (K : Value → World → Prop) : Prop :=
  pur Pg (binOp Go.BinOp.mul 2 a0 a1) fun t9_1 =>
  eff Pg (Instr.makeSlice 116 t9_1 t9_1) w fun t10_2 w =>
  pur Pg (Instr.build 118 #[(0, a0), (1, a1), (2, t10_2)]) fun t11_3 =>
  eff Pg (Instr.box 118 t11_3) w fun t12_4 w =>
  K t12_4 w
theorem eq_blank : ∀ (a0 a1 : Value) (w : World) (K : Value → World → Prop), S_blank a0 a1 w K = codeS Pg (Try.f63.body.getD .skip) ann_blank (topX Pg Try.f63.results K) (fun t => Array.getD #[a0, a1] t undef) w := by
  intro a0 a1 w K
  kernel_rfl
theorem call_blank (a0 a1 : Value) (w : World) (K : Value → World → Prop) (h : S_blank a0 a1 w K) : callS Pg n_blank #[a0, a1] w K :=
  callS_of mixed Try.func63 (c := Try.f63.body.getD .skip) (by kernel_rfl) (by kernel_rfl) (ann := ann_blank) (by kernel_rfl) (Nat.le_of_ble_eq_true (by kernel_rfl)) (by rw [← eq_blank]; exact h)

-- (*loop.example/g01165/impl.image).grid
def ann_image_grid : Ann :=
  (.seq none (.reg [⟨none, [], [0]⟩] [])
  (.seq none (.reg [⟨none, [], [0, 1]⟩] [])
  (.seq none (.seq none (.reg [⟨none, [], [0, 1, 2, 3, 4]⟩] [])
  (.sub (.loop [5, 14] [15, 16, 6, 17, 7, 18, 19, 20, 21, 22, 23, 24, 8, 25, 26, 27, 28, 29, 30, 31, 32, 33, 34, 35, 36, 5, 37, 14]
  (.seq none (.reg [⟨none, [], [0]⟩] [])
  (.seq none (.cond .leaf
  .leaf)
  (.seq none (.sub (.seq none (.reg [⟨none, [], [0, 1]⟩] [])
  (.seq none (.reg [⟨none, [], [0, 1]⟩] [])
  (.seq none (.seq none (.reg [⟨none, [], [0, 1, 2, 3, 4]⟩] [])
  (.sub (.loop [7, 22] [23, 24, 8, 25, 26, 27, 28, 29, 30, 31, 7, 32, 22]
  (.seq none (.reg [⟨none, [], [0]⟩] [])
  (.seq none (.cond .leaf
  .leaf)
  (.seq none (.sub (.seq none (.reg [⟨none, [], [0, 1]⟩] [])
  (.reg [⟨none, [], [0, 1, 2, 3, 4, 5, 6, 7]⟩] [])))
  (.reg [⟨none, [], [0, 1]⟩] [])))))))
  (.reg [⟨none, [], [0, 1, 2, 3, 4]⟩] [])))))
  (.reg [⟨none, [], [0, 1]⟩] [])))))))
  (.seq none (.reg [⟨none, [], [0, 1]⟩] [])
  .leaf))))
def S_image_grid (a0 a1 : Value) (w : World) (K : Value → World → Prop) : Prop :=
  eff Pg (Instr.buildSlice 24 0 #[]) w fun t9_1 w =>
  nilS a0 fun t11_2 =>
  pur Pg (Instr.fieldAt 118 t11_2 1) fun t12_3 =>
  rd Pg (Instr.loadAt 2 t12_3) w fun t13_4 =>
  loopS (fun N5 g6 s7 w =>
  pur Pg (binOp Go.BinOp.lss 2 (nth s7 1) t13_4) fun t15_8 =>
  ifB t15_8 (eff Pg (Instr.buildSlice 34 0 #[]) w fun t17_9 w =>
  nilS a0 fun t19_10 =>
  pur Pg (Instr.fieldAt 118 t19_10 0) fun t20_11 =>
  rd Pg (Instr.loadAt 2 t20_11) w fun t21_12 =>
  loopS (fun N13 g14 s15 w =>
  pur Pg (binOp Go.BinOp.lss 2 (nth s15 1) t21_12) fun t23_16 =>
  ifB t23_16 (callV Pg a1 #[(nth s15 1), (nth s7 1)] w fun t29_17 w =>
  eff Pg (Instr.buildSlice 34 1 #[(0, t29_17)]) w fun t30_18 w =>
  eff Pg (Builtin.append_ #[34, 34] 34 #[(nth s15 0), t30_18]) w fun t31_19 w =>
  pur Pg (binOp Go.BinOp.add 2 (nth s15 1) (Go.Value.int Go.IntKind.i64 1)) fun t32_20 =>
  N13 [t31_19, t32_20] w)
  (eff Pg (Instr.buildSlice 24 1 #[(0, (nth s15 0))]) w fun t35_21 w =>
  eff Pg (Builtin.append_ #[24, 24] 24 #[(nth s7 0), t35_21]) w fun t36_22 w =>
  pur Pg (binOp Go.BinOp.add 2 (nth s7 1) (Go.Value.int Go.IntKind.i64 1)) fun t37_23 =>
  N5 [t36_22, t37_23] w)) [t17_9, (Go.Value.int Go.IntKind.i64 0)] w)
  (K (nth s7 0) w)) [t9_1, (Go.Value.int Go.IntKind.i64 0)] w
theorem eq_image_grid : ∀ (a0 a1 : Value) (w : World) (K : Value → World → Prop), S_image_grid a0 a1 w K = codeS Pg (Try.f64.body.getD .skip) ann_image_grid (topX Pg Try.f64.results K) (fun t => Array.getD #[a0, a1] t undef) w := by
  intro a0 a1 w K
  kernel_rfl
theorem call_image_grid (a0 a1 : Value) (w : World) (K : Value → World → Prop) (h : S_image_grid a0 a1 w K) : callS Pg n_image_grid #[a0, a1] w K :=
  callS_of mixed Try.func64 (c := Try.f64.body.getD .skip) (by kernel_rfl) (by kernel_rfl) (ann := ann_image_grid) (by kernel_rfl) (Nat.le_of_ble_eq_true (by kernel_rfl)) (by rw [← eq_image_grid]; exact h)

-- (*loop.example/g01165/impl.Grey).remade$1
def ann_Grey_remade_1 : Ann :=
  (.seq none (.reg [⟨none, [], [0]⟩] [])
  (.seq none (.reg [⟨none, [], [0, 1, 2, 3, 4, 5]⟩] [])
  .leaf))
def S_Grey_remade_1 (a0 a1 a2 : Value) (w : World) (K : Value → World → Prop) : Prop :=
  rd Pg (Instr.loadAt 59 a2) w fun t6_1 =>
  pur Pg (Instr.build 39 #[(0, a0), (1, a1)]) fun t9_2 =>
  callV Pg t6_1 #[t9_2] w fun t10_3 w =>
  K t10_3 w
theorem eq_Grey_remade_1 : ∀ (a0 a1 a2 : Value) (w : World) (K : Value → World → Prop), S_Grey_remade_1 a0 a1 a2 w K = codeS Pg (Try.f65.body.getD .skip) ann_Grey_remade_1 (topX Pg Try.f65.results K) (fun t => Array.getD #[a0, a1, a2] t undef) w := by
  intro a0 a1 a2 w K
  kernel_rfl
theorem call_Grey_remade_1 (a0 a1 a2 : Value) (w : World) (K : Value → World → Prop) (h : S_Grey_remade_1 a0 a1 a2 w K) : callS Pg n_Grey_remade_1 #[a0, a1, a2] w K :=
  callS_of mixed Try.func65 (c := Try.f65.body.getD .skip) (by kernel_rfl) (by kernel_rfl) (ann := ann_Grey_remade_1) (by kernel_rfl) (Nat.le_of_ble_eq_true (by kernel_rfl)) (by rw [← eq_Grey_remade_1]; exact h)

-- slices.SortStableFunc[[]loop.example/g01165/impl.Spot,loop.example/g01165/impl.Spot]
def ann_slices_SortStableFunc_impl_Spot_impl_Spot : Ann :=
  (.reg [⟨none, [], [0, 1, 2, 3, 4]⟩] [])
def S_slices_SortStableFunc_impl_Spot_impl_Spot (a0 a1 : Value) (w : World) (K : Value → World → Prop) : Prop :=
  rd Pg (Builtin.len_ #[63] 3 #[a0]) w fun t6_1 =>
  callS Pg n_slices_stableCmpFunc_impl_Spot #[a0, t6_1, a1] w fun t8_2 w =>
  K (Value.tuple #[]) w
theorem eq_slices_SortStableFunc_impl_Spot_impl_Spot : ∀ (a0 a1 : Value) (w : World) (K : Value → World → Prop), S_slices_SortStableFunc_impl_Spot_impl_Spot a0 a1 w K = codeS Pg (Try.f66.body.getD .skip) ann_slices_SortStableFunc_impl_Spot_impl_Spot (topX Pg Try.f66.results K) (fun t => Array.getD #[a0, a1] t undef) w := by
  intro a0 a1 w K
  kernel_rfl
theorem call_slices_SortStableFunc_impl_Spot_impl_Spot (a0 a1 : Value) (w : World) (K : Value → World → Prop) (h : S_slices_SortStableFunc_impl_Spot_impl_Spot a0 a1 w K) : callS Pg n_slices_SortStableFunc_impl_Spot_impl_Spot #[a0, a1] w K :=
  callS_of mixed Try.func66 (c := Try.f66.body.getD .skip) (by kernel_rfl) (by kernel_rfl) (ann := ann_slices_SortStableFunc_impl_Spot_impl_Spot) (by kernel_rfl) (Nat.le_of_ble_eq_true (by kernel_rfl)) (by rw [← eq_slices_SortStableFunc_impl_Spot_impl_Spot]; exact h)

-- (*loop.example/g01165/impl.Grey).valleys$1
def ann_Grey_valleys_1 : Ann :=
  (.seq none (.reg [⟨none, [], [0, 1, 2]⟩] [])
  (.seq none (.reg [⟨none, [], [0, 1, 3, 4, 2, 5, 6, 7]⟩] [2, 3, 4])
  .leaf))
def S_Grey_valleys_1 (a0 a1 a2 : Value) (w : World) (K : Value → World → Prop) : Prop :=
  eff Pg (Instr.box 39 a0) w fun t3_1 w =>
  eff Pg (Instr.box 39 a1) w fun t4_2 w =>
  drawF w fun S3 w =>
  rd Pg (Instr.loadAt 71 a2) w fun t6_4 =>
  rd Pg (Instr.loadAt 39 t3_1) w fun t7_5 =>
  rdF Pg S3 (Instr.loadAt 71 a2) fun t9_6 =>
  rdF Pg S3 (Instr.loadAt 39 t4_2) fun t10_7 =>
  callS Pg n_Grey_at #[t6_4, t7_5] w fun t8_8 w =>
  S3 w ∧
  callS Pg n_Grey_at #[t9_6, t10_7] w fun t11_9 w =>
  callS Pg n_cmp_Compare_int64 #[t8_8, t11_9] w fun t12_10 w =>
  K t12_10 w
theorem eq_Grey_valleys_1 : ∀ (a0 a1 a2 : Value) (w : World) (K : Value → World → Prop), S_Grey_valleys_1 a0 a1 a2 w K = codeS Pg (Try.f67.body.getD .skip) ann_Grey_valleys_1 (topX Pg Try.f67.results K) (fun t => Array.getD #[a0, a1, a2] t undef) w := by
  intro a0 a1 a2 w K
  kernel_rfl
theorem call_Grey_valleys_1 (a0 a1 a2 : Value) (w : World) (K : Value → World → Prop) (h : S_Grey_valleys_1 a0 a1 a2 w K) : callS Pg n_Grey_valleys_1 #[a0, a1, a2] w K :=
  callS_of mixed Try.func67 (c := Try.f67.body.getD .skip) (by kernel_rfl) (by kernel_rfl) (ann := ann_Grey_valleys_1) (by kernel_rfl) (Nat.le_of_ble_eq_true (by kernel_rfl)) (by rw [← eq_Grey_valleys_1]; exact h)

-- cmp.Compare[int64]
def ann_cmp_Compare_int64 : Ann :=
  (.seq none (.reg [⟨none, [], [0]⟩] [])
  (.seq none (.reg [⟨none, [], [0, 1, 2]⟩] [])
  (.seq none (.reg [⟨none, [], [0, 1, 2]⟩] [])
  (.seq none (.seq none (.reg [⟨none, [], [0]⟩] [])
  (.cond (.seq none (.seq none (.reg [⟨none, [], [0]⟩] [])
  (.cond (.seq none (.reg [⟨none, [], [0]⟩] [])
  .leaf)
  .leaf))
  (.seq none (.reg [⟨none, [], [0]⟩] [])
  .leaf))
  .leaf))
  (.seq none (.seq none (.reg [⟨none, [], [0]⟩] [])
  (.cond (.seq none (.reg [⟨none, [], [0]⟩] [])
  .leaf)
  .leaf))
  (.seq none (.seq none (.reg [⟨none, [], [0, 1, 2]⟩] [])
  (.cond (.seq none (.reg [⟨none, [], [0]⟩] [])
  .leaf)
  .leaf))
  (.seq none (.seq none (.reg [⟨none, [], [0, 1, 2]⟩] [])
  (.cond (.seq none (.reg [⟨none, [], [0]⟩] [])
  .leaf)
  .leaf))
  (.seq none (.reg [⟨none, [], [0]⟩] [])
  .leaf))))))))
def S_cmp_Compare_int64 (a0 a1 : Value) (w : World) (K : Value → World → Prop) : Prop :=
  callS Pg n_cmp_isNaN_int64 #[a0] w fun t8_1 w =>
  callS Pg n_cmp_isNaN_int64 #[a1] w fun t10_2 w =>
  ifB t8_1 (ifB t10_2 (K (Go.Value.int Go.IntKind.i64 0) w)
  (K (Go.Value.int Go.IntKind.i64 (-1)) w))
  (ifB t10_2 (K (Go.Value.int Go.IntKind.i64 1) w)
  (pur Pg (binOp Go.BinOp.lss 2 a0 a1) fun t16_3 =>
  ifB t16_3 (K (Go.Value.int Go.IntKind.i64 (-1)) w)
  (pur Pg (binOp Go.BinOp.gtr 2 a0 a1) fun t19_4 =>
  ifB t19_4 (K (Go.Value.int Go.IntKind.i64 1) w)
  (K (Go.Value.int Go.IntKind.i64 0) w))))
theorem eq_cmp_Compare_int64 : ∀ (a0 a1 : Value) (w : World) (K : Value → World → Prop), S_cmp_Compare_int64 a0 a1 w K = codeS Pg (Try.f68.body.getD .skip) ann_cmp_Compare_int64 (topX Pg Try.f68.results K) (fun t => Array.getD #[a0, a1] t undef) w := by
  intro a0 a1 w K
  kernel_rfl
theorem call_cmp_Compare_int64 (a0 a1 : Value) (w : World) (K : Value → World → Prop) (h : S_cmp_Compare_int64 a0 a1 w K) : callS Pg n_cmp_Compare_int64 #[a0, a1] w K :=
  callS_of mixed Try.func68 (c := Try.f68.body.getD .skip) (by kernel_rfl) (by kernel_rfl) (ann := ann_cmp_Compare_int64) (by kernel_rfl) (Nat.le_of_ble_eq_true (by kernel_rfl)) (by rw [← eq_cmp_Compare_int64]; exact h)

-- loop.example/g01165/impl.around
def ann_around : Ann :=
  (.seq none (.reg [⟨none, [], [0]⟩] [])
  (.seq none (.reg [⟨none, [], [0, 1]⟩] [])
  (.seq none (.seq none (.reg [⟨none, [], [0]⟩] [])
  (.sub (.loop [7, 8] [11, 12, 9, 15, 16, 19, 20, 21, 22, 23, 24, 25, 26, 27, 28, 29, 30, 31, 32, 33, 34, 35, 36, 37, 38, 39, 40, 41, 42, 43, 44, 45, 7, 17, 18, 13, 14, 8]
  (.seq none (.seq none (.reg [⟨none, [], [0, 1]⟩] [])
  (.cond .leaf
  .leaf))
  (.seq none (.sub (.seq none (.reg [⟨none, [], [0]⟩] [])
  (.sub (.loop [7, 9] [15, 16, 19, 20, 21, 22, 23, 24, 25, 26, 27, 28, 29, 30, 31, 32, 33, 34, 35, 36, 37, 38, 39, 40, 41, 42, 43, 44, 45, 7, 17, 18, 9]
  (.seq none (.seq none (.reg [⟨none, [], [0, 1]⟩] [])
  (.cond .leaf
  .leaf))
  (.seq (some ([7], [19, 20, 21, 22, 23, 24, 25, 26, 27, 28, 29, 30, 31, 32, 33, 34, 35, 36, 37, 38, 39, 40, 41, 42, 43, 44, 45, 7])) (.sub (.seq none (.reg [⟨none, [], [0, 1, 2]⟩, ⟨some (2, false), [23], [3, 4]⟩, ⟨none, [], [5, 6]⟩, ⟨some (6, true), [27], [7, 8]⟩, ⟨some (8, false), [29], [9, 10]⟩, ⟨some (6, true), [31], [11, 12]⟩, ⟨some (12, false), [33], [13, 14]⟩, ⟨some (6, true), [34], [15]⟩, ⟨none, [], [16]⟩] [])
  (.cond (.reg [⟨none, [], [0, 1, 2, 3, 4, 5, 6, 7, 8, 9, 10]⟩] [])
  .leaf)))
  (.reg [⟨none, [], [0, 1, 2]⟩] [])))))))
  (.reg [⟨none, [], [0, 1, 2]⟩] []))))))
  (.seq none (.reg [⟨none, [], [0, 1]⟩] [])
  .leaf))))
def S_around (a0 a1 a2 : Value) (w : World) (K : Value → World → Prop) : Prop :=
  eff Pg (Instr.buildSlice 63 0 #[]) w fun t10_1 w =>
  loopS (fun N2 g3 s4 w =>
  pur Pg (binOp Go.BinOp.leq 2 (nth s4 1) (Go.Value.int Go.IntKind.i64 1)) fun t12_5 =>
  ifB t12_5 (loopS (fun N6 g7 s8 w =>
  pur Pg (binOp Go.BinOp.leq 2 (nth s8 1) (Go.Value.int Go.IntKind.i64 1)) fun t16_9 =>
  ifB t16_9 (joinS (fun g10 s11 w =>
  pur Pg (binOp Go.BinOp.add 2 (nth s8 1) (Go.Value.int Go.IntKind.i64 1)) fun t18_13 =>
  N6 [(nth s11 0), t18_13] w) fun J12 =>
  rd Pg (binSem Go.BinOp.neq 2 (Go.Operand.tmp 19) (Go.Operand.const (Go.Value.int Go.IntKind.i64 0)) (nth s8 1) (Go.Value.int Go.IntKind.i64 0)) w fun t20_14 =>
  joinS (fun g15 s16 w =>
  pickS t20_14 (Go.Value.bool Bool.true) (nth s16 0) fun t24_18 =>
  joinS (fun g19 s20 w =>
  joinS (fun g22 s23 w =>
  joinS (fun g25 s26 w =>
  joinS (fun g28 s29 w =>
  joinS (fun g31 s32 w =>
  pickS t24_18 (nth s32 0) (Go.Value.bool Bool.false) fun t35_34 =>
  ifB t35_34 (pur Pg (binOp Go.BinOp.add 2 a0 (nth s8 1)) fun t39_35 =>
  pur Pg (binOp Go.BinOp.add 2 a1 (nth s4 1)) fun t42_36 =>
  pur Pg (Instr.build 39 #[(0, t39_35), (1, t42_36)]) fun t43_37 =>
  eff Pg (Instr.buildSlice 63 1 #[(0, t43_37)]) w fun t44_38 w =>
  eff Pg (Builtin.append_ #[63, 63] 63 #[(nth s8 0), t44_38]) w fun t45_39 w =>
  J12 [t45_39] w)
  (J12 [(nth s8 0)] w)) fun J33 =>
  ifG t24_18 true (pickS (nth s26 0) (Go.Value.bool Bool.true) (nth s29 0) fun t34_40 =>
  J33 [t34_40] w)
  (J33 [undef] w)) fun J30 =>
  ifG (nth s26 0) false (rd Pg (binSem Go.BinOp.eql 2 (Go.Operand.tmp 32) (Go.Operand.const (Go.Value.int Go.IntKind.i64 0)) (nth s4 1) (Go.Value.int Go.IntKind.i64 0)) w fun t33_41 =>
  J30 [t33_41] w)
  (J30 [undef] w)) fun J27 =>
  ifG t24_18 true (pickS (nth s20 0) (Go.Value.bool Bool.true) (nth s23 0) fun t30_42 =>
  J27 [t30_42] w)
  (J27 [undef] w)) fun J24 =>
  ifG (nth s20 0) false (rd Pg (binSem Go.BinOp.eql 2 (Go.Operand.tmp 28) (Go.Operand.const (Go.Value.int Go.IntKind.i64 0)) (nth s8 1) (Go.Value.int Go.IntKind.i64 0)) w fun t29_43 =>
  J24 [t29_43] w)
  (J24 [undef] w)) fun J21 =>
  ifG t24_18 true (J21 [a2] w)
  (J21 [undef] w)) fun J17 =>
  ifG t20_14 false (rd Pg (binSem Go.BinOp.neq 2 (Go.Operand.tmp 22) (Go.Operand.const (Go.Value.int Go.IntKind.i64 0)) (nth s4 1) (Go.Value.int Go.IntKind.i64 0)) w fun t23_44 =>
  J17 [t23_44] w)
  (J17 [undef] w))
  (pur Pg (binOp Go.BinOp.add 2 (nth s4 1) (Go.Value.int Go.IntKind.i64 1)) fun t14_45 =>
  N2 [(nth s8 0), t14_45] w)) [(nth s4 0), (Go.Value.int Go.IntKind.i64 (-1))] w)
  (K (nth s4 0) w)) [t10_1, (Go.Value.int Go.IntKind.i64 (-1))] w
theorem eq_around : ∀ (a0 a1 a2 : Value) (w : World) (K : Value → World → Prop), S_around a0 a1 a2 w K = codeS Pg (Try.f69.body.getD .skip) ann_around (topX Pg Try.f69.results K) (fun t => Array.getD #[a0, a1, a2] t undef) w := by
  intro a0 a1 a2 w K
  kernel_rfl
theorem call_around (a0 a1 a2 : Value) (w : World) (K : Value → World → Prop) (h : S_around a0 a1 a2 w K) : callS Pg n_around #[a0, a1, a2] w K :=
  callS_of mixed Try.func69 (c := Try.f69.body.getD .skip) (by kernel_rfl) (by kernel_rfl) (ann := ann_around) (by kernel_rfl) (Nat.le_of_ble_eq_true (by kernel_rfl)) (by rw [← eq_around]; exact h)

-- slices.Contains[[]*loop.example/g01165/impl.valley,*loop.example/g01165/impl.valley]
def ann_slices_Contains_impl_valley_impl_valley : Ann :=
  (.seq none (.reg [⟨none, [], [0]⟩] [])
  (.seq none (.reg [⟨none, [], [0, 1, 2, 3, 4]⟩] [])
  .leaf))
def S_slices_Contains_impl_valley_impl_valley (a0 a1 : Value) (w : World) (K : Value → World → Prop) : Prop :=
  callS Pg n_slices_Index_impl_valley_impl_valley #[a0, a1] w fun t7_1 w =>
  pur Pg (binOp Go.BinOp.geq 3 t7_1 (Go.Value.int Go.IntKind.i64 0)) fun t8_2 =>
  K t8_2 w
theorem eq_slices_Contains_impl_valley_impl_valley : ∀ (a0 a1 : Value) (w : World) (K : Value → World → Prop), S_slices_Contains_impl_valley_impl_valley a0 a1 w K = codeS Pg (Try.f70.body.getD .skip) ann_slices_Contains_impl_valley_impl_valley (topX Pg Try.f70.results K) (fun t => Array.getD #[a0, a1] t undef) w := by
  intro a0 a1 w K
  kernel_rfl
theorem call_slices_Contains_impl_valley_impl_valley (a0 a1 : Value) (w : World) (K : Value → World → Prop) (h : S_slices_Contains_impl_valley_impl_valley a0 a1 w K) : callS Pg n_slices_Contains_impl_valley_impl_valley #[a0, a1] w K :=
  callS_of mixed Try.func70 (c := Try.f70.body.getD .skip) (by kernel_rfl) (by kernel_rfl) (ann := ann_slices_Contains_impl_valley_impl_valley) (by kernel_rfl) (Nat.le_of_ble_eq_true (by kernel_rfl)) (by rw [← eq_slices_Contains_impl_valley_impl_valley]; exact h)

-- (*loop.example/g01165/impl.Grey).place
def ann_Grey_place : Ann :=
  (.seq none (.reg [⟨none, [], [0, 1]⟩] [])
  (.seq none (.reg [⟨none, [], [0, 1, 2, 3, 4, 5, 6]⟩] [])
  (.seq none (.reg [⟨none, [], [0, 1, 2, 3, 4, 5, 6, 7]⟩] [])
  .leaf)))
def S_Grey_place (a0 a1 : Value) (w : World) (K : Value → World → Prop) : Prop :=
  eff Pg (Instr.box 39 a1) w fun t3_1 w =>
  callS Pg n_Grey_sizes #[a0] w fun t9_2 w =>
  pur Pg (Instr.extract t9_2 0) fun t10_3 =>
  pur Pg (Instr.extract t9_2 1) fun t11_4 =>
  pur Pg (Instr.fieldAt 39 t3_1 1) fun t12_5 =>
  rd Pg (Instr.loadAt 2 t12_5) w fun t13_6 =>
  pur Pg (binOp Go.BinOp.mul 2 t13_6 t10_3) fun t15_7 =>
  pur Pg (Instr.fieldAt 39 t3_1 0) fun t16_8 =>
  rd Pg (Instr.loadAt 2 t16_8) w fun t17_9 =>
  pur Pg (binOp Go.BinOp.add 2 t15_7 t17_9) fun t18_10 =>
  K t18_10 w
theorem eq_Grey_place : ∀ (a0 a1 : Value) (w : World) (K : Value → World → Prop), S_Grey_place a0 a1 w K = codeS Pg (Try.f71.body.getD .skip) ann_Grey_place (topX Pg Try.f71.results K) (fun t => Array.getD #[a0, a1] t undef) w := by
  intro a0 a1 w K
  kernel_rfl
theorem call_Grey_place (a0 a1 : Value) (w : World) (K : Value → World → Prop) (h : S_Grey_place a0 a1 w K) : callS Pg n_Grey_place #[a0, a1] w K :=
  callS_of mixed Try.func71 (c := Try.f71.body.getD .skip) (by kernel_rfl) (by kernel_rfl) (ann := ann_Grey_place) (by kernel_rfl) (Nat.le_of_ble_eq_true (by kernel_rfl)) (by rw [← eq_Grey_place]; exact h)

-- slices.SortFunc[[]*loop.example/g01165/impl.valley,*loop.example/g01165/impl.valley]
def ann_slices_SortFunc_impl_valley_impl_valley : Ann :=
  (.seq none (.reg [⟨none, [], [0, 1, 2]⟩] [])
  (.reg [⟨none, [], [0, 1, 2, 3, 4, 5, 6]⟩] []))
def S_slices_SortFunc_impl_valley_impl_valley (a0 a1 : Value) (w : World) (K : Value → World → Prop) : Prop :=
  rd Pg (Builtin.len_ #[60] 3 #[a0]) w fun t6_1 =>
  eff Pg (convert 3 112 t6_1) w fun t10_2 w =>
  callS Pg n_math_bits_Len #[t10_2] w fun t11_3 w =>
  callS Pg n_slices_pdqsortCmpFunc_impl_valley #[a0, (Go.Value.int Go.IntKind.i64 0), t6_1, t11_3, a1] w fun t13_4 w =>
  K (Value.tuple #[]) w
theorem eq_slices_SortFunc_impl_valley_impl_valley : ∀ (a0 a1 : Value) (w : World) (K : Value → World → Prop), S_slices_SortFunc_impl_valley_impl_valley a0 a1 w K = codeS Pg (Try.f72.body.getD .skip) ann_slices_SortFunc_impl_valley_impl_valley (topX Pg Try.f72.results K) (fun t => Array.getD #[a0, a1] t undef) w := by
  intro a0 a1 w K
  kernel_rfl
theorem call_slices_SortFunc_impl_valley_impl_valley (a0 a1 : Value) (w : World) (K : Value → World → Prop) (h : S_slices_SortFunc_impl_valley_impl_valley a0 a1 w K) : callS Pg n_slices_SortFunc_impl_valley_impl_valley #[a0, a1] w K :=
  callS_of mixed Try.func72 (c := Try.f72.body.getD .skip) (by kernel_rfl) (by kernel_rfl) (ann := ann_slices_SortFunc_impl_valley_impl_valley) (by kernel_rfl) (Nat.le_of_ble_eq_true (by kernel_rfl)) (by rw [← eq_slices_SortFunc_impl_valley_impl_valley]; exact h)

-- (*loop.example/g01165/impl.Grey).valleys$2
def ann_Grey_valleys_2 : Ann :=
  (.seq none (.reg [⟨none, [], [0]⟩] [])
  (.seq none (.reg [⟨none, [], [0, 1, 2, 3, 4, 5, 6, 7]⟩] [])
  .leaf))
def S_Grey_valleys_2 (a0 a1 a2 : Value) (w : World) (K : Value → World → Prop) : Prop :=
  rd Pg (Instr.loadAt 98 a2) w fun t6_1 =>
  rd Pg (Instr.lookup 98 t6_1 a0 Bool.false) w fun t8_2 =>
  rd Pg (Instr.loadAt 98 a2) w fun t9_3 =>
  rd Pg (Instr.lookup 98 t9_3 a1 Bool.false) w fun t11_4 =>
  callS Pg n_cmp_Compare_int #[t8_2, t11_4] w fun t12_5 w =>
  K t12_5 w
theorem eq_Grey_valleys_2 : ∀ (a0 a1 a2 : Value) (w : World) (K : Value → World → Prop), S_Grey_valleys_2 a0 a1 a2 w K = codeS Pg (Try.f73.body.getD .skip) ann_Grey_valleys_2 (topX Pg Try.f73.results K) (fun t => Array.getD #[a0, a1, a2] t undef) w := by
  intro a0 a1 a2 w K
  kernel_rfl
theorem call_Grey_valleys_2 (a0 a1 a2 : Value) (w : World) (K : Value → World → Prop) (h : S_Grey_valleys_2 a0 a1 a2 w K) : callS Pg n_Grey_valleys_2 #[a0, a1, a2] w K :=
  callS_of mixed Try.func73 (c := Try.f73.body.getD .skip) (by kernel_rfl) (by kernel_rfl) (ann := ann_Grey_valleys_2) (by kernel_rfl) (Nat.le_of_ble_eq_true (by kernel_rfl)) (by rw [← eq_Grey_valleys_2]; exact h)

-- cmp.Compare[int]
def ann_cmp_Compare_int : Ann :=
  (.seq none (.reg [⟨none, [], [0]⟩] [])
  (.seq none (.reg [⟨none, [], [0, 1, 2]⟩] [])
  (.seq none (.reg [⟨none, [], [0, 1, 2]⟩] [])
  (.seq none (.seq none (.reg [⟨none, [], [0]⟩] [])
  (.cond (.seq none (.seq none (.reg [⟨none, [], [0]⟩] [])
  (.cond (.seq none (.reg [⟨none, [], [0]⟩] [])
  .leaf)
  .leaf))
  (.seq none (.reg [⟨none, [], [0]⟩] [])
  .leaf))
  .leaf))
  (.seq none (.seq none (.reg [⟨none, [], [0]⟩] [])
  (.cond (.seq none (.reg [⟨none, [], [0]⟩] [])
  .leaf)
  .leaf))
  (.seq none (.seq none (.reg [⟨none, [], [0, 1, 2]⟩] [])
  (.cond (.seq none (.reg [⟨none, [], [0]⟩] [])
  .leaf)
  .leaf))
  (.seq none (.seq none (.reg [⟨none, [], [0, 1, 2]⟩] [])
  (.cond (.seq none (.reg [⟨none, [], [0]⟩] [])
  .leaf)
  .leaf))
  (.seq none (.reg [⟨none, [], [0]⟩] [])
  .leaf))))))))
def S_cmp_Compare_int (a0 a1 : Value) (w : World) (K : Value → World → Prop) : Prop :=
  callS Pg n_cmp_isNaN_int #[a0] w fun t8_1 w =>
  callS Pg n_cmp_isNaN_int #[a1] w fun t10_2 w =>
  ifB t8_1 (ifB t10_2 (K (Go.Value.int Go.IntKind.i64 0) w)
  (K (Go.Value.int Go.IntKind.i64 (-1)) w))
  (ifB t10_2 (K (Go.Value.int Go.IntKind.i64 1) w)
  (pur Pg (binOp Go.BinOp.lss 3 a0 a1) fun t16_3 =>
  ifB t16_3 (K (Go.Value.int Go.IntKind.i64 (-1)) w)
  (pur Pg (binOp Go.BinOp.gtr 3 a0 a1) fun t19_4 =>
  ifB t19_4 (K (Go.Value.int Go.IntKind.i64 1) w)
  (K (Go.Value.int Go.IntKind.i64 0) w))))
theorem eq_cmp_Compare_int : ∀ (a0 a1 : Value) (w : World) (K : Value → World → Prop), S_cmp_Compare_int a0 a1 w K = codeS Pg (Try.f74.body.getD .skip) ann_cmp_Compare_int (topX Pg Try.f74.results K) (fun t => Array.getD #[a0, a1] t undef) w := by
  intro a0 a1 w K
  kernel_rfl
theorem call_cmp_Compare_int (a0 a1 : Value) (w : World) (K : Value → World → Prop) (h : S_cmp_Compare_int a0 a1 w K) : callS Pg n_cmp_Compare_int #[a0, a1] w K :=
  callS_of mixed Try.func74 (c := Try.f74.body.getD .skip) (by kernel_rfl) (by kernel_rfl) (ann := ann_cmp_Compare_int) (by kernel_rfl) (Nat.le_of_ble_eq_true (by kernel_rfl)) (by rw [← eq_cmp_Compare_int]; exact h)

-- (*loop.example/g01165/impl.Grey).heights$1
def ann_Grey_heights_1 : Ann :=
  (.seq none (.reg [⟨none, [], [0, 1]⟩] [])
  (.seq none (.reg [⟨none, [], [0]⟩] [])
  .leaf))
def S_Grey_heights_1 (a0 : Value) (w : World) (K : Value → World → Prop) : Prop :=
  eff Pg (Instr.box 39 a0) w fun t1_1 w =>
  K (Go.Value.int Go.IntKind.i64 100) w
theorem eq_Grey_heights_1 : ∀ (a0 : Value) (w : World) (K : Value → World → Prop), S_Grey_heights_1 a0 w K = codeS Pg (Try.f75.body.getD .skip) ann_Grey_heights_1 (topX Pg Try.f75.results K) (fun t => Array.getD #[a0] t undef) w := by
  intro a0 w K
  kernel_rfl
theorem call_Grey_heights_1 (a0 : Value) (w : World) (K : Value → World → Prop) (h : S_Grey_heights_1 a0 w K) : callS Pg n_Grey_heights_1 #[a0] w K :=
  callS_of mixed Try.func75 (c := Try.f75.body.getD .skip) (by kernel_rfl) (by kernel_rfl) (ann := ann_Grey_heights_1) (by kernel_rfl) (Nat.le_of_ble_eq_true (by kernel_rfl)) (by rw [← eq_Grey_heights_1]; exact h)

-- loop.example/g01165/impl.made
def ann_made : Ann :=
  (.seq none (.reg [⟨none, [], [0, 1]⟩] [])
  (.seq none (.reg [⟨none, [], [0, 1, 2, 3, 4]⟩] [])
  (.seq none (.reg [⟨none, [], [0, 1, 2]⟩] [])
  (.seq none (.reg [⟨none, [], [0, 1]⟩] [])
  .leaf))))
def S_made (a0 a1 a2 : Value) (w : World) (K : Value → World → Prop) : Prop :=
  eff Pg (Instr.box 107 a2) w fun t5_1 w =>
  callS Pg n_blank #[a0, a1] w fun t10_2 w =>
  eff Pg (Instr.alloc 91 true (.tuple #[])) w fun t7_3 w =>
  effU Pg (Instr.storeAt 91 t7_3 t10_2) w fun w =>
  rd Pg (Instr.loadAt 91 t7_3) w fun t11_4 =>
  callS Pg n_image_each #[t11_4, (Value.func (.func n_made_1) #[] #[t7_3, t5_1])] w fun t13_5 w =>
  rd Pg (Instr.loadAt 91 t7_3) w fun t14_6 =>
  K t14_6 w
theorem eq_made : ∀ (a0 a1 a2 : Value) (w : World) (K : Value → World → Prop), S_made a0 a1 a2 w K = codeS Pg (Try.f76.body.getD .skip) ann_made (topX Pg Try.f76.results K) (fun t => Array.getD #[a0, a1, a2] t undef) w := by
  intro a0 a1 a2 w K
  kernel_rfl
theorem call_made (a0 a1 a2 : Value) (w : World) (K : Value → World → Prop) (h : S_made a0 a1 a2 w K) : callS Pg n_made #[a0, a1, a2] w K :=
  callS_of mixed Try.func76 (c := Try.f76.body.getD .skip) (by kernel_rfl) (by kernel_rfl) (ann := ann_made) (by kernel_rfl) (Nat.le_of_ble_eq_true (by kernel_rfl)) (by rw [← eq_made]; exact h)

-- (*loop.example/g01165/impl.Grey).below$1
def ann_Grey_below_1 : Ann :=
  (.seq none (.reg [⟨none, [], [0]⟩] [])
  (.seq none (.reg [⟨none, [], [0, 1, 2, 3, 4, 5, 6, 7, 8, 9, 10, 11, 12]⟩] [])
  .leaf))
def S_Grey_below_1 (a0 a1 a2 a3 : Value) (w : World) (K : Value → World → Prop) : Prop :=
  drawS w fun w =>
  rd Pg (Instr.loadAt 71 a2) w fun t7_1 =>
  nilS t7_1 fun t8_2 =>
  pur Pg (Instr.fieldAt 26 t8_2 0) fun t9_3 =>
  rd Pg (Instr.loadAt 24 t9_3) w fun t10_4 =>
  pur Pg (Instr.indexAt 24 t10_4 a1) fun t12_5 =>
  rd Pg (Instr.loadAt 34 t12_5) w fun t13_6 =>
  pur Pg (Instr.indexAt 34 t13_6 a0) fun t15_7 =>
  rd Pg (Instr.loadAt 2 t15_7) w fun t16_8 =>
  rd Pg (Instr.loadAt 2 a3) w fun t17_9 =>
  pur Pg (binOp Go.BinOp.leq 2 t16_8 t17_9) fun t18_10 =>
  K t18_10 w
theorem eq_Grey_below_1 : ∀ (a0 a1 a2 a3 : Value) (w : World) (K : Value → World → Prop), S_Grey_below_1 a0 a1 a2 a3 w K = codeS Pg (Try.f77.body.getD .skip) ann_Grey_below_1 (topX Pg Try.f77.results K) (fun t => Array.getD #[a0, a1, a2, a3] t undef) w := by
  intro a0 a1 a2 a3 w K
  kernel_rfl
theorem call_Grey_below_1 (a0 a1 a2 a3 : Value) (w : World) (K : Value → World → Prop) (h : S_Grey_below_1 a0 a1 a2 a3 w K) : callS Pg n_Grey_below_1 #[a0, a1, a2, a3] w K :=
  callS_of mixed Try.func77 (c := Try.f77.body.getD .skip) (by kernel_rfl) (by kernel_rfl) (ann := ann_Grey_below_1) (by kernel_rfl) (Nat.le_of_ble_eq_true (by kernel_rfl)) (by rw [← eq_Grey_below_1]; exact h)

-- (*loop.example/g01165/impl.image).labels
def ann_image_labels : Ann :=
  (.seq none (.reg [⟨none, [], [0, 1, 2]⟩] [])
  (.seq none (.reg [⟨none, [], [0, 1, 2]⟩] [])
  (.seq none (.seq none (.reg [⟨none, [], [0, 1, 2, 3]⟩] [])
  (.sub (.loop [7, 15] [16, 17, 18, 9, 19, 20, 21, 22, 23, 24, 7, 25, 26, 27, 28, 29, 30, 31, 32, 33, 34, 10, 35, 36, 37, 38, 15]
  (.seq none (.reg [⟨none, [], [0]⟩] [])
  (.seq none (.cond .leaf
  .leaf)
  (.seq (some ([7], [17, 18, 9, 19, 20, 21, 22, 23, 24, 7, 25, 26, 27, 28, 29, 30, 31, 32, 33, 34, 10, 35, 36, 37])) (.sub (.seq none (.reg [⟨none, [], [0, 1, 2, 3]⟩] [])
  (.seq none (.seq none (.reg [⟨none, [], [0, 1, 2, 3]⟩] [])
  (.cond .leaf
  .leaf))
  (.seq none (.reg [⟨none, [], [0, 1, 2]⟩] [])
  (.seq none (.reg [⟨none, [], [0, 1, 2, 3, 4, 5]⟩] [])
  (.sub (.loop [] [31, 32, 33, 34, 10, 35, 36, 37]
  (.seq none (.reg [⟨none, [], [0, 1]⟩] [])
  (.seq none (.cond .leaf
  .leaf)
  (.sub (.seq none (.reg [⟨none, [], [0, 1, 2, 3]⟩] [])
  (.reg [⟨none, [], [0, 1, 2, 3]⟩] []))))))))))))
  (.reg [⟨none, [], [0, 1]⟩] [])))))))
  (.seq none (.reg [⟨none, [], [0, 1, 2, 3]⟩] [])
  .leaf))))
def S_image_labels (a0 a1 : Value) (w : World) (K : Value → World → Prop) : Prop :=
  eff Pg (Instr.box 91 a0) w fun t2_1 w =>
  eff Pg (Instr.makeMap 104 none) w fun t11_2 w =>
  rd Pg (Instr.loadAt 91 t2_1) w fun t12_3 =>
  callS Pg n_image_spots #[t12_3] w fun t13_4 w =>
  rd Pg (Builtin.len_ #[63] 3 #[t13_4]) w fun t14_5 =>
  loopS (fun N6 g7 s8 w =>
  pur Pg (binOp Go.BinOp.lss 3 (nth s8 1) t14_5) fun t16_9 =>
  ifB t16_9 (joinS (fun g10 s11 w =>
  pur Pg (binOp Go.BinOp.add 3 (nth s8 1) (Go.Value.int Go.IntKind.i64 1)) fun t38_13 =>
  N6 [(nth s11 0), t38_13] w) fun J12 =>
  pur Pg (Instr.indexAt 63 t13_4 (nth s8 1)) fun t17_14 =>
  rd Pg (Instr.loadAt 39 t17_14) w fun t18_15 =>
  eff Pg (Instr.alloc 39 true (.tuple #[])) w fun t9_16 w =>
  effU Pg (Instr.storeAt 39 t9_16 t18_15) w fun w =>
  rd Pg (Instr.loadAt 39 t9_16) w fun t20_17 =>
  rd Pg (Instr.lookup 104 t11_2 t20_17 Bool.false) w fun t21_18 =>
  pur Pg (binOp Go.BinOp.gtr 2 t21_18 (Go.Value.int Go.IntKind.i64 0)) fun t22_19 =>
  ifB t22_19 (J12 [(nth s8 0)] w)
  (pur Pg (binOp Go.BinOp.add 2 (nth s8 0) (Go.Value.int Go.IntKind.i64 1)) fun t24_20 =>
  rd Pg (Instr.loadAt 39 t9_16) w fun t25_21 =>
  eff Pg (Instr.buildSlice 63 1 #[(0, t25_21)]) w fun t26_22 w =>
  callS Pg n_spread #[t26_22, a1, (Value.func (.func n_image_labels_1) #[] #[t2_1])] w fun t29_23 w =>
  eff Pg (Instr.range 127 t29_23) w fun t30_24 w =>
  loopS (fun N25 g26 s27 w =>
  eff Pg (Instr.next t30_24 Bool.false 0) w fun t31_28 w =>
  pur Pg (Instr.extract t31_28 0) fun t32_29 =>
  ifB t32_29 (eff Pg (Instr.entry t30_24) w fun t33_30 w =>
  pur Pg (Instr.extract t33_30 0) fun t34_31 =>
  eff Pg (Instr.alloc 39 true (.tuple #[])) w fun t10_32 w =>
  effU Pg (Instr.storeAt 39 t10_32 t34_31) w fun w =>
  rd Pg (Instr.loadAt 39 t10_32) w fun t36_33 =>
  effU Pg (Instr.mapUpdate 104 t11_2 t36_33 t24_20) w fun w =>
  N25 [] w)
  (J12 [t24_20] w)) [] w))
  (K (Value.tuple #[t11_2, (nth s8 0)]) w)) [(Go.Value.int Go.IntKind.i64 0), (Go.Value.int Go.IntKind.i64 0)] w
theorem eq_image_labels : ∀ (a0 a1 : Value) (w : World) (K : Value → World → Prop), S_image_labels a0 a1 w K = codeS Pg (Try.f78.body.getD .skip) ann_image_labels (topX Pg Try.f78.results K) (fun t => Array.getD #[a0, a1] t undef) w := by
  intro a0 a1 w K
  kernel_rfl
theorem call_image_labels (a0 a1 : Value) (w : World) (K : Value → World → Prop) (h : S_image_labels a0 a1 w K) : callS Pg n_image_labels #[a0, a1] w K :=
  callS_of mixed Try.func78 (c := Try.f78.body.getD .skip) (by kernel_rfl) (by kernel_rfl) (ann := ann_image_labels) (by kernel_rfl) (Nat.le_of_ble_eq_true (by kernel_rfl)) (by rw [← eq_image_labels]; exact h)

-- slices.EqualFunc[[][]int64,[][]int64,[]int64,[]int64]
def ann_slices_EqualFunc_int64_int64_int64_int64 : Ann :=
  (.seq none (.reg [⟨none, [], [0]⟩] [])
  (.seq none (.seq none (.reg [⟨none, [], [0, 1, 2, 3, 4]⟩] [])
  (.cond (.seq none (.reg [⟨none, [], [0]⟩] [])
  .leaf)
  .leaf))
  (.seq none (.seq none (.reg [⟨none, [], [0, 1, 2]⟩] [])
  (.sub (.loop [17] [18, 19, 20, 21, 7, 8, 22, 23, 24, 25, 9, 26, 27, 28, 29, 30, 6, 31, 17]
  (.seq none (.reg [⟨none, [], [0]⟩] [])
  (.seq none (.cond .leaf
  .leaf)
  (.seq none (.sub (.seq none (.reg [⟨none, [], [0, 1, 2, 3, 4]⟩] [])
  (.seq none (.reg [⟨none, [], [0, 1, 2, 3, 4]⟩] [])
  (.seq none (.reg [⟨none, [], [0, 1, 2, 3, 4]⟩] [])
  (.cond (.seq none (.reg [⟨none, [], [0]⟩] [])
  .leaf)
  .leaf)))))
  (.reg [⟨none, [], [0, 1]⟩] [])))))))
  (.seq none (.reg [⟨none, [], [0]⟩] [])
  .leaf))))
def S_slices_EqualFunc_int64_int64_int64_int64 (a0 a1 a2 : Value) (w : World) (K : Value → World → Prop) : Prop :=
  rd Pg (Builtin.len_ #[24] 3 #[a0]) w fun t11_1 =>
  rd Pg (Builtin.len_ #[24] 3 #[a1]) w fun t13_2 =>
  rd Pg (binSem Go.BinOp.neq 3 (Go.Operand.tmp 11) (Go.Operand.tmp 13) t11_1 t13_2) w fun t14_3 =>
  ifB t14_3 (K (Go.Value.bool Bool.false) w)
  (rd Pg (Builtin.len_ #[24] 3 #[a0]) w fun t16_4 =>
  loopS (fun N5 g6 s7 w =>
  pur Pg (binOp Go.BinOp.lss 3 (nth s7 0) t16_4) fun t18_8 =>
  ifB t18_8 (pur Pg (Instr.indexAt 24 a0 (nth s7 0)) fun t20_9 =>
  rd Pg (Instr.loadAt 34 t20_9) w fun t21_10 =>
  pur Pg (Instr.indexAt 24 a1 (nth s7 0)) fun t24_11 =>
  rd Pg (Instr.loadAt 34 t24_11) w fun t25_12 =>
  callV Pg a2 #[t21_10, t25_12] w fun t29_13 w =>
  pur Pg (Op.unary Go.UnOp.not t29_13) fun t30_14 =>
  ifB t30_14 (K (Go.Value.bool Bool.false) w)
  (pur Pg (binOp Go.BinOp.add 3 (nth s7 0) (Go.Value.int Go.IntKind.i64 1)) fun t31_15 =>
  N5 [t31_15] w))
  (K (Go.Value.bool Bool.true) w)) [(Go.Value.int Go.IntKind.i64 0)] w)
theorem eq_slices_EqualFunc_int64_int64_int64_int64 : ∀ (a0 a1 a2 : Value) (w : World) (K : Value → World → Prop), S_slices_EqualFunc_int64_int64_int64_int64 a0 a1 a2 w K = codeS Pg (Try.f79.body.getD .skip) ann_slices_EqualFunc_int64_int64_int64_int64 (topX Pg Try.f79.results K) (fun t => Array.getD #[a0, a1, a2] t undef) w := by
  intro a0 a1 a2 w K
  kernel_rfl
theorem call_slices_EqualFunc_int64_int64_int64_int64 (a0 a1 a2 : Value) (w : World) (K : Value → World → Prop) (h : S_slices_EqualFunc_int64_int64_int64_int64 a0 a1 a2 w K) : callS Pg n_slices_EqualFunc_int64_int64_int64_int64 #[a0, a1, a2] w K :=
  callS_of mixed Try.func79 (c := Try.f79.body.getD .skip) (by kernel_rfl) (by kernel_rfl) (ann := ann_slices_EqualFunc_int64_int64_int64_int64) (by kernel_rfl) (Nat.le_of_ble_eq_true (by kernel_rfl)) (by rw [← eq_slices_EqualFunc_int64_int64_int64_int64]; exact h)

-- loop.example/g01165/impl.sameLists$1
def ann_sameLists_1 : Ann :=
  (.seq none (.reg [⟨none, [], [0]⟩] [])
  (.seq none (.reg [⟨none, [], [0, 1, 2, 3]⟩] [])
  .leaf))
def S_sameLists_1 (a0 a1 : Value) (w : World) (K : Value → World → Prop) : Prop :=
  callS Pg n_slices_Equal_int64_int64 #[a0, a1] w fun t7_1 w =>
  K t7_1 w
theorem eq_sameLists_1 : ∀ (a0 a1 : Value) (w : World) (K : Value → World → Prop), S_sameLists_1 a0 a1 w K = codeS Pg (Try.f80.body.getD .skip) ann_sameLists_1 (topX Pg Try.f80.results K) (fun t => Array.getD #[a0, a1] t undef) w := by
  intro a0 a1 w K
  kernel_rfl
theorem call_sameLists_1 (a0 a1 : Value) (w : World) (K : Value → World → Prop) (h : S_sameLists_1 a0 a1 w K) : callS Pg n_sameLists_1 #[a0, a1] w K :=
  callS_of mixed Try.func80 (c := Try.f80.body.getD .skip) (by kernel_rfl) (by kernel_rfl) (ann := ann_sameLists_1) (by kernel_rfl) (Nat.le_of_ble_eq_true (by kernel_rfl)) (by rw [← eq_sameLists_1]; exact h)

-- slices.Equal[[]int64,int64]
def ann_slices_Equal_int64_int64 : Ann :=
  (.seq none (.reg [⟨none, [], [0]⟩] [])
  (.seq none (.seq none (.reg [⟨none, [], [0, 1, 2, 3, 4]⟩] [])
  (.cond (.seq none (.reg [⟨none, [], [0]⟩] [])
  .leaf)
  .leaf))
  (.seq none (.seq none (.reg [⟨none, [], [0, 1, 2]⟩] [])
  (.sub (.loop [13] [14, 15, 5, 16, 17, 18, 19, 20, 21, 22, 23, 24, 4, 25, 13]
  (.seq none (.reg [⟨none, [], [0]⟩] [])
  (.seq none (.cond .leaf
  .leaf)
  (.seq none (.sub (.seq none (.reg [⟨none, [], [0, 1]⟩] [])
  (.seq none (.reg [⟨none, [], [0, 1, 2, 3, 4, 5, 6, 7, 8]⟩] [])
  (.cond (.seq none (.reg [⟨none, [], [0]⟩] [])
  .leaf)
  .leaf))))
  (.reg [⟨none, [], [0, 1]⟩] [])))))))
  (.seq none (.reg [⟨none, [], [0]⟩] [])
  .leaf))))
def S_slices_Equal_int64_int64 (a0 a1 : Value) (w : World) (K : Value → World → Prop) : Prop :=
  rd Pg (Builtin.len_ #[34] 3 #[a0]) w fun t7_1 =>
  rd Pg (Builtin.len_ #[34] 3 #[a1]) w fun t9_2 =>
  rd Pg (binSem Go.BinOp.neq 3 (Go.Operand.tmp 7) (Go.Operand.tmp 9) t7_1 t9_2) w fun t10_3 =>
  ifB t10_3 (K (Go.Value.bool Bool.false) w)
  (rd Pg (Builtin.len_ #[34] 3 #[a0]) w fun t12_4 =>
  loopS (fun N5 g6 s7 w =>
  pur Pg (binOp Go.BinOp.lss 3 (nth s7 0) t12_4) fun t14_8 =>
  ifB t14_8 (drawS w fun w =>
  pur Pg (Instr.indexAt 34 a0 (nth s7 0)) fun t18_9 =>
  rd Pg (Instr.loadAt 2 t18_9) w fun t19_10 =>
  pur Pg (Instr.indexAt 34 a1 (nth s7 0)) fun t22_11 =>
  rd Pg (Instr.loadAt 2 t22_11) w fun t23_12 =>
  rd Pg (binSem Go.BinOp.neq 2 (Go.Operand.tmp 19) (Go.Operand.tmp 23) t19_10 t23_12) w fun t24_13 =>
  ifB t24_13 (K (Go.Value.bool Bool.false) w)
  (pur Pg (binOp Go.BinOp.add 3 (nth s7 0) (Go.Value.int Go.IntKind.i64 1)) fun t25_14 =>
  N5 [t25_14] w))
  (K (Go.Value.bool Bool.true) w)) [(Go.Value.int Go.IntKind.i64 0)] w)
theorem eq_slices_Equal_int64_int64 : ∀ (a0 a1 : Value) (w : World) (K : Value → World → Prop), S_slices_Equal_int64_int64 a0 a1 w K = codeS Pg (Try.f81.body.getD .skip) ann_slices_Equal_int64_int64 (topX Pg Try.f81.results K) (fun t => Array.getD #[a0, a1] t undef) w := by
  intro a0 a1 w K
  kernel_rfl
theorem call_slices_Equal_int64_int64 (a0 a1 : Value) (w : World) (K : Value → World → Prop) (h : S_slices_Equal_int64_int64 a0 a1 w K) : callS Pg n_slices_Equal_int64_int64 #[a0, a1] w K :=
  callS_of mixed Try.func81 (c := Try.f81.body.getD .skip) (by kernel_rfl) (by kernel_rfl) (ann := ann_slices_Equal_int64_int64) (by kernel_rfl) (Nat.le_of_ble_eq_true (by kernel_rfl)) (by rw [← eq_slices_Equal_int64_int64]; exact h)

-- loop.example/g01165/laws.szInt64S
def ann_laws_szInt64S : Ann :=
  (.seq none (.reg [⟨none, [], [0]⟩] [])
  (.seq none (.reg [⟨none, [], [0, 1, 2, 3, 4]⟩] [])
  (.seq none (.seq none (.reg [⟨none, [], [0, 1]⟩] [])
  (.cond (.seq none (.reg [⟨none, [], [0]⟩] [])
  .leaf)
  .leaf))
  (.seq none (.reg [⟨none, [], [0, 1]⟩] [])
  .leaf))))
def S_laws_szInt64S (a0 a1 : Value) (w : World) (K : Value → World → Prop) : Prop :=
  rd Pg (Builtin.len_ #[34] 3 #[a0]) w fun t7_1 =>
  pur Pg (binOp Go.BinOp.sub 3 a1 t7_1) fun t8_2 =>
  pur Pg (binOp Go.BinOp.lss 3 t8_2 (Go.Value.int Go.IntKind.i64 0)) fun t10_3 =>
  ifB t10_3 (K (Go.Value.int Go.IntKind.i64 (-1)) w)
  (K t8_2 w)
theorem eq_laws_szInt64S : ∀ (a0 a1 : Value) (w : World) (K : Value → World → Prop), S_laws_szInt64S a0 a1 w K = codeS Pg (Try.f82.body.getD .skip) ann_laws_szInt64S (topX Pg Try.f82.results K) (fun t => Array.getD #[a0, a1] t undef) w := by
  intro a0 a1 w K
  kernel_rfl
theorem call_laws_szInt64S (a0 a1 : Value) (w : World) (K : Value → World → Prop) (h : S_laws_szInt64S a0 a1 w K) : callS Pg n_laws_szInt64S #[a0, a1] w K :=
  callS_of mixed Try.func82 (c := Try.f82.body.getD .skip) (by kernel_rfl) (by kernel_rfl) (ann := ann_laws_szInt64S) (by kernel_rfl) (Nat.le_of_ble_eq_true (by kernel_rfl)) (by rw [← eq_laws_szInt64S]; exact h)

-- loop.example/g01165/spec.l07Table
def ann_l07Table : Ann :=
  (.seq none (.reg [⟨none, [], [0]⟩] [])
  (.seq none (.seq none (.reg [⟨none, [], [0, 1, 2, 3, 4]⟩, ⟨some (4, false), [17], [5, 6, 7, 8, 9, 10]⟩, ⟨none, [], [11]⟩] [])
  (.cond (.seq none (.reg [⟨none, [], [0]⟩] [])
  .leaf)
  .leaf))
  (.seq none (.seq none (.reg [⟨none, [], [0]⟩] [])
  (.sub (.loop [5] [19, 20, 21, 22, 25, 26, 27, 28, 29, 30, 31, 32, 33, 34, 4, 6, 35, 36, 37, 38, 39, 40, 41, 44, 45, 46, 47, 48, 49, 50, 51, 52, 53, 42, 43, 23, 24, 5]
  (.seq none (.seq none (.reg [⟨none, [], [0, 1, 2, 3]⟩] [])
  (.cond .leaf
  .leaf))
  (.seq none (.sub (.seq none (.seq none (.reg [⟨none, [], [0, 1, 2, 3, 4, 5, 6, 7, 8, 9]⟩] [])
  (.cond (.seq none (.reg [⟨none, [], [0]⟩] [])
  .leaf)
  .leaf))
  (.seq none (.reg [⟨none, [], [0]⟩] [])
  (.sub (.loop [6] [35, 36, 37, 38, 39, 40, 41, 44, 45, 46, 47, 48, 49, 50, 51, 52, 53, 4, 42, 43, 6]
  (.seq none (.seq none (.reg [⟨none, [], [0, 1, 2, 3, 4, 5, 6]⟩] [])
  (.cond .leaf
  .leaf))
  (.seq none (.sub (.seq none (.reg [⟨none, [], [0, 1, 2, 3, 4, 5, 6, 7, 8, 9]⟩] [])
  (.cond (.seq none (.reg [⟨none, [], [0]⟩] [])
  .leaf)
  .leaf)))
  (.reg [⟨none, [], [0, 1, 2]⟩] []))))))))
  (.reg [⟨none, [], [0, 1, 2]⟩] []))))))
  (.seq none (.reg [⟨none, [], [0]⟩] [])
  .leaf))))
def S_l07Table (a0 a1 : Value) (w : World) (K : Value → World → Prop) : Prop :=
  rd Pg (Builtin.len_ #[24] 3 #[a0]) w fun t8_1 =>
  callS Pg n_l01Side #[t8_1] w fun t9_2 w =>
  pur Pg (Op.unary Go.UnOp.not t9_2) fun t10_3 =>
  joinS (fun g4 s5 w =>
  pickS t10_3 (Go.Value.bool Bool.true) (nth s5 0) fun t18_7 =>
  ifB t18_7 (K (Go.Value.bool Bool.false) w)
  (loopS (fun N8 g9 s10 w =>
  rd Pg (Builtin.len_ #[24] 3 #[a0]) w fun t21_11 =>
  pur Pg (binOp Go.BinOp.lss 3 (nth s10 0) t21_11) fun t22_12 =>
  ifB t22_12 (drawS w fun w =>
  pur Pg (Instr.indexAt 24 a0 (nth s10 0)) fun t27_13 =>
  rd Pg (Instr.loadAt 34 t27_13) w fun t28_14 =>
  rd Pg (Builtin.len_ #[34] 3 #[t28_14]) w fun t29_15 =>
  pur Pg (Instr.indexAt 24 a0 (Go.Value.int Go.IntKind.i64 0)) fun t31_16 =>
  rd Pg (Instr.loadAt 34 t31_16) w fun t32_17 =>
  rd Pg (Builtin.len_ #[34] 3 #[t32_17]) w fun t33_18 =>
  rd Pg (binSem Go.BinOp.neq 3 (Go.Operand.tmp 29) (Go.Operand.tmp 33) t29_15 t33_18) w fun t34_19 =>
  ifB t34_19 (K (Go.Value.bool Bool.false) w)
  (loopS (fun N20 g21 s22 w =>
  pur Pg (Instr.indexAt 24 a0 (nth s10 0)) fun t38_23 =>
  rd Pg (Instr.loadAt 34 t38_23) w fun t39_24 =>
  rd Pg (Builtin.len_ #[34] 3 #[t39_24]) w fun t40_25 =>
  pur Pg (binOp Go.BinOp.lss 3 (nth s22 0) t40_25) fun t41_26 =>
  ifB t41_26 (pur Pg (Instr.indexAt 24 a0 (nth s10 0)) fun t46_27 =>
  rd Pg (Instr.loadAt 34 t46_27) w fun t47_28 =>
  pur Pg (Instr.indexAt 34 t47_28 (nth s22 0)) fun t49_29 =>
  rd Pg (Instr.loadAt 2 t49_29) w fun t50_30 =>
  callS Pg n_l00In #[t50_30, (Go.Value.int Go.IntKind.i64 0), a1] w fun t52_31 w =>
  pur Pg (Op.unary Go.UnOp.not t52_31) fun t53_32 =>
  ifB t53_32 (K (Go.Value.bool Bool.false) w)
  (pur Pg (binOp Go.BinOp.add 3 (nth s22 0) (Go.Value.int Go.IntKind.i64 1)) fun t43_33 =>
  N20 [t43_33] w))
  (pur Pg (binOp Go.BinOp.add 3 (nth s10 0) (Go.Value.int Go.IntKind.i64 1)) fun t24_34 =>
  N8 [t24_34] w)) [(Go.Value.int Go.IntKind.i64 0)] w))
  (K (Go.Value.bool Bool.true) w)) [(Go.Value.int Go.IntKind.i64 0)] w)) fun J6 =>
  ifG t10_3 false (pur Pg (Instr.indexAt 24 a0 (Go.Value.int Go.IntKind.i64 0)) fun t13_35 =>
  rd Pg (Instr.loadAt 34 t13_35) w fun t14_36 =>
  rd Pg (Builtin.len_ #[34] 3 #[t14_36]) w fun t15_37 =>
  callS Pg n_l01Side #[t15_37] w fun t16_38 w =>
  pur Pg (Op.unary Go.UnOp.not t16_38) fun t17_39 =>
  J6 [t17_39] w)
  (J6 [undef] w)
theorem eq_l07Table : ∀ (a0 a1 : Value) (w : World) (K : Value → World → Prop), S_l07Table a0 a1 w K = codeS Pg (Try.f83.body.getD .skip) ann_l07Table (topX Pg Try.f83.results K) (fun t => Array.getD #[a0, a1] t undef) w := by
  intro a0 a1 w K
  kernel_rfl
theorem call_l07Table (a0 a1 : Value) (w : World) (K : Value → World → Prop) (h : S_l07Table a0 a1 w K) : callS Pg n_l07Table #[a0, a1] w K :=
  callS_of mixed Try.func83 (c := Try.f83.body.getD .skip) (by kernel_rfl) (by kernel_rfl) (ann := ann_l07Table) (by kernel_rfl) (Nat.le_of_ble_eq_true (by kernel_rfl)) (by rw [← eq_l07Table]; exact h)

-- loop.example/g01165/laws.toInt64S
def ann_laws_toInt64S : Ann :=
  (.seq none (.reg [⟨none, [], [0]⟩] [])
  (.seq none (.reg [⟨none, [], [0, 1, 2, 3]⟩] [])
  (.seq none (.seq none (.reg [⟨none, [], [0]⟩] [])
  (.sub (.loop [4] [8, 9, 10, 11, 14, 15, 16, 17, 18, 19, 20, 12, 13, 4]
  (.seq none (.seq none (.reg [⟨none, [], [0, 1, 2, 3]⟩] [])
  (.cond .leaf
  .leaf))
  (.seq none (.sub (.reg [⟨none, [], [0, 1, 2, 3, 4, 5, 6, 7]⟩] []))
  (.reg [⟨none, [], [0, 1, 2]⟩] []))))))
  (.seq none (.reg [⟨none, [], [0, 1]⟩] [])
  .leaf))))
def S_laws_toInt64S (a0 : Value) (w : World) (K : Value → World → Prop) : Prop :=
  rd Pg (Builtin.len_ #[34] 3 #[a0]) w fun t6_1 =>
  eff Pg (Instr.makeSlice 34 t6_1 t6_1) w fun t7_2 w =>
  loopS (fun N3 g4 s5 w =>
  rd Pg (Builtin.len_ #[34] 3 #[a0]) w fun t10_6 =>
  pur Pg (binOp Go.BinOp.lss 3 (nth s5 0) t10_6) fun t11_7 =>
  ifB t11_7 (pur Pg (Instr.indexAt 34 a0 (nth s5 0)) fun t18_8 =>
  rd Pg (Instr.loadAt 2 t18_8) w fun t19_9 =>
  pur Pg (Instr.indexAt 34 t7_2 (nth s5 0)) fun t20_10 =>
  effU Pg (Instr.storeAt 2 t20_10 t19_9) w fun w =>
  pur Pg (binOp Go.BinOp.add 3 (nth s5 0) (Go.Value.int Go.IntKind.i64 1)) fun t13_11 =>
  N3 [t13_11] w)
  (K t7_2 w)) [(Go.Value.int Go.IntKind.i64 0)] w
theorem eq_laws_toInt64S : ∀ (a0 : Value) (w : World) (K : Value → World → Prop), S_laws_toInt64S a0 w K = codeS Pg (Try.f84.body.getD .skip) ann_laws_toInt64S (topX Pg Try.f84.results K) (fun t => Array.getD #[a0] t undef) w := by
  intro a0 w K
  kernel_rfl
theorem call_laws_toInt64S (a0 : Value) (w : World) (K : Value → World → Prop) (h : S_laws_toInt64S a0 w K) : callS Pg n_laws_toInt64S #[a0] w K :=
  callS_of mixed Try.func84 (c := Try.f84.body.getD .skip) (by kernel_rfl) (by kernel_rfl) (ann := ann_laws_toInt64S) (by kernel_rfl) (Nat.le_of_ble_eq_true (by kernel_rfl)) (by rw [← eq_laws_toInt64S]; exact h)

-- loop.example/g01165/spec.l09Near
def ann_l09Near : Ann :=
  (.seq none (.reg [⟨none, [], [0]⟩] [])
  (.seq none (.reg [⟨none, [], [0, 1]⟩] [])
  (.seq none (.reg [⟨none, [], [0, 1]⟩] [])
  (.seq none (.seq none (.reg [⟨none, [], [0, 1, 2]⟩] [])
  (.sub (.loop [7, 16] [17, 18, 9, 19, 20, 21, 22, 23, 24, 25, 26, 27, 10, 28, 29, 30, 31, 32, 33, 34, 35, 36, 11, 37, 38, 39, 40, 41, 42, 43, 44, 45, 46, 47, 48, 49, 50, 51, 52, 53, 54, 55, 56, 7, 57, 16]
  (.seq none (.reg [⟨none, [], [0]⟩] [])
  (.seq none (.cond .leaf
  .leaf)
  (.seq (some ([7], [18, 9, 19, 20, 21, 22, 23, 24, 25, 26, 27, 10, 28, 29, 30, 31, 32, 33, 34, 35, 36, 11, 37, 38, 39, 40, 41, 42, 43, 44, 45, 46, 47, 48, 49, 50, 51, 52, 53, 54, 55, 56, 7])) (.sub (.seq none (.reg [⟨none, [], [0, 1]⟩] [])
  (.seq none (.reg [⟨none, [], [0, 1, 2, 3, 4, 5, 6, 7, 8, 9]⟩] [])
  (.seq none (.reg [⟨none, [], [0, 1, 2, 3, 4, 5, 6, 7, 8, 9]⟩] [])
  (.seq none (.reg [⟨none, [], [0, 1, 2, 3, 4]⟩, ⟨some (4, true), [47], [5, 6, 7, 8, 9, 10]⟩, ⟨none, [], [11]⟩] [])
  (.cond (.reg [⟨none, [], [0, 1, 2, 3, 4, 5, 6, 7, 8]⟩] [])
  .leaf))))))
  (.reg [⟨none, [], [0, 1]⟩] [])))))))
  (.seq none (.reg [⟨none, [], [0, 1]⟩] [])
  .leaf)))))
def S_l09Near (a0 a1 a2 : Value) (w : World) (K : Value → World → Prop) : Prop :=
  eff Pg (Instr.buildSlice 34 0 #[]) w fun t12_1 w =>
  callS Pg n_l03Steps #[(Go.Value.bool Bool.false)] w fun t13_2 w =>
  rd Pg (Builtin.len_ #[63] 3 #[t13_2]) w fun t15_3 =>
  loopS (fun N4 g5 s6 w =>
  pur Pg (binOp Go.BinOp.lss 3 (nth s6 1) t15_3) fun t17_7 =>
  ifB t17_7 (joinS (fun g8 s9 w =>
  pur Pg (binOp Go.BinOp.add 3 (nth s6 1) (Go.Value.int Go.IntKind.i64 1)) fun t57_11 =>
  N4 [(nth s9 0), t57_11] w) fun J10 =>
  drawS w fun w =>
  pur Pg (binOp Go.BinOp.rem 2 a2 a0) fun t21_12 =>
  pur Pg (Instr.indexAt 63 t13_2 (nth s6 1)) fun t24_13 =>
  pur Pg (Instr.fieldAt 39 t24_13 0) fun t25_14 =>
  rd Pg (Instr.loadAt 2 t25_14) w fun t26_15 =>
  pur Pg (binOp Go.BinOp.add 2 t21_12 t26_15) fun t27_16 =>
  drawS w fun w =>
  pur Pg (binOp Go.BinOp.quo 2 a2 a0) fun t30_17 =>
  pur Pg (Instr.indexAt 63 t13_2 (nth s6 1)) fun t33_18 =>
  pur Pg (Instr.fieldAt 39 t33_18 1) fun t34_19 =>
  rd Pg (Instr.loadAt 2 t34_19) w fun t35_20 =>
  pur Pg (binOp Go.BinOp.add 2 t30_17 t35_20) fun t36_21 =>
  pur Pg (binOp Go.BinOp.sub 2 a0 (Go.Value.int Go.IntKind.i64 1)) fun t39_22 =>
  callS Pg n_l00In #[t27_16, (Go.Value.int Go.IntKind.i64 0), t39_22] w fun t40_23 w =>
  joinS (fun g24 s25 w =>
  pickS t40_23 (nth s25 0) (Go.Value.bool Bool.false) fun t48_27 =>
  ifB t48_27 (pur Pg (binOp Go.BinOp.mul 2 t36_21 a0) fun t52_28 =>
  pur Pg (binOp Go.BinOp.add 2 t52_28 t27_16) fun t54_29 =>
  eff Pg (Instr.buildSlice 34 1 #[(0, t54_29)]) w fun t55_30 w =>
  eff Pg (Builtin.append_ #[34, 34] 34 #[(nth s6 0), t55_30]) w fun t56_31 w =>
  J10 [t56_31] w)
  (J10 [(nth s6 0)] w)) fun J26 =>
  ifG t40_23 true (pur Pg (binOp Go.BinOp.quo 2 a1 a0) fun t45_32 =>
  pur Pg (binOp Go.BinOp.sub 2 t45_32 (Go.Value.int Go.IntKind.i64 1)) fun t46_33 =>
  callS Pg n_l00In #[t36_21, (Go.Value.int Go.IntKind.i64 0), t46_33] w fun t47_34 w =>
  J26 [t47_34] w)
  (J26 [undef] w))
  (K (nth s6 0) w)) [t12_1, (Go.Value.int Go.IntKind.i64 0)] w
theorem eq_l09Near : ∀ (a0 a1 a2 : Value) (w : World) (K : Value → World → Prop), S_l09Near a0 a1 a2 w K = codeS Pg (Try.f85.body.getD .skip) ann_l09Near (topX Pg Try.f85.results K) (fun t => Array.getD #[a0, a1, a2] t undef) w := by
  intro a0 a1 a2 w K
  kernel_rfl
theorem call_l09Near (a0 a1 a2 : Value) (w : World) (K : Value → World → Prop) (h : S_l09Near a0 a1 a2 w K) : callS Pg n_l09Near #[a0, a1, a2] w K :=
  callS_of mixed Try.func85 (c := Try.f85.body.getD .skip) (by kernel_rfl) (by kernel_rfl) (ann := ann_l09Near) (by kernel_rfl) (Nat.le_of_ble_eq_true (by kernel_rfl)) (by rw [← eq_l09Near]; exact h)

-- loop.example/g01165/spec.l00Own
def ann_l00Own : Ann :=
  (.seq none (.reg [⟨none, [], [0]⟩] [])
  (.seq none (.reg [⟨none, [], [0, 1, 2, 3]⟩] [])
  .leaf))
def S_l00Own (a0 : Value) (w : World) (K : Value → World → Prop) : Prop :=
  eff Pg (Instr.buildSlice 34 0 #[]) w fun t3_1 w =>
  eff Pg (Builtin.append_ #[34, 34] 34 #[t3_1, a0]) w fun t5_2 w =>
  K t5_2 w
theorem eq_l00Own : ∀ (a0 : Value) (w : World) (K : Value → World → Prop), S_l00Own a0 w K = codeS Pg (Try.f86.body.getD .skip) ann_l00Own (topX Pg Try.f86.results K) (fun t => Array.getD #[a0] t undef) w := by
  intro a0 w K
  kernel_rfl
theorem call_l00Own (a0 : Value) (w : World) (K : Value → World → Prop) (h : S_l00Own a0 w K) : callS Pg n_l00Own #[a0] w K :=
  callS_of mixed Try.func86 (c := Try.f86.body.getD .skip) (by kernel_rfl) (by kernel_rfl) (ann := ann_l00Own) (by kernel_rfl) (Nat.le_of_ble_eq_true (by kernel_rfl)) (by rw [← eq_l00Own]; exact h)

-- loop.example/g01165/impl.sizeOk
def ann_sizeOk : Ann :=
  (.seq none (.reg [⟨none, [], [0]⟩] [])
  (.seq none (.reg [⟨none, [], [0, 1, 2]⟩, ⟨some (2, true), [9], [3, 4]⟩, ⟨none, [], [5, 6]⟩] [])
  .leaf))
def S_sizeOk (a0 a1 : Value) (w : World) (K : Value → World → Prop) : Prop :=
  callS Pg n_in #[a0, (Go.Value.int Go.IntKind.i64 1), (Go.Value.int Go.IntKind.i64 16)] w fun t6_1 w =>
  joinS (fun g2 s3 w =>
  pickS t6_1 (nth s3 0) (Go.Value.bool Bool.false) fun t10_5 =>
  K t10_5 w) fun J4 =>
  ifG t6_1 true (callS Pg n_in #[a1, (Go.Value.int Go.IntKind.i64 1), (Go.Value.int Go.IntKind.i64 16)] w fun t9_6 w =>
  J4 [t9_6] w)
  (J4 [undef] w)
theorem eq_sizeOk : ∀ (a0 a1 : Value) (w : World) (K : Value → World → Prop), S_sizeOk a0 a1 w K = codeS Pg (Try.f87.body.getD .skip) ann_sizeOk (topX Pg Try.f87.results K) (fun t => Array.getD #[a0, a1] t undef) w := by
  intro a0 a1 w K
  kernel_rfl
theorem call_sizeOk (a0 a1 : Value) (w : World) (K : Value → World → Prop) (h : S_sizeOk a0 a1 w K) : callS Pg n_sizeOk #[a0, a1] w K :=
  callS_of mixed Try.func87 (c := Try.f87.body.getD .skip) (by kernel_rfl) (by kernel_rfl) (ann := ann_sizeOk) (by kernel_rfl) (Nat.le_of_ble_eq_true (by kernel_rfl)) (by rw [← eq_sizeOk]; exact h)

-- slices.ContainsFunc[[][]int64,[]int64]
def ann_slices_ContainsFunc_int64_int64 : Ann :=
  (.seq none (.reg [⟨none, [], [0]⟩] [])
  (.seq none (.reg [⟨none, [], [0, 1, 2, 3, 4]⟩] [])
  .leaf))
def S_slices_ContainsFunc_int64_int64 (a0 a1 : Value) (w : World) (K : Value → World → Prop) : Prop :=
  callS Pg n_slices_IndexFunc_int64_int64 #[a0, a1] w fun t7_1 w =>
  pur Pg (binOp Go.BinOp.geq 3 t7_1 (Go.Value.int Go.IntKind.i64 0)) fun t8_2 =>
  K t8_2 w
theorem eq_slices_ContainsFunc_int64_int64 : ∀ (a0 a1 : Value) (w : World) (K : Value → World → Prop), S_slices_ContainsFunc_int64_int64 a0 a1 w K = codeS Pg (Try.f88.body.getD .skip) ann_slices_ContainsFunc_int64_int64 (topX Pg Try.f88.results K) (fun t => Array.getD #[a0, a1] t undef) w := by
  intro a0 a1 w K
  kernel_rfl
theorem call_slices_ContainsFunc_int64_int64 (a0 a1 : Value) (w : World) (K : Value → World → Prop) (h : S_slices_ContainsFunc_int64_int64 a0 a1 w K) : callS Pg n_slices_ContainsFunc_int64_int64 #[a0, a1] w K :=
  callS_of mixed Try.func88 (c := Try.f88.body.getD .skip) (by kernel_rfl) (by kernel_rfl) (ann := ann_slices_ContainsFunc_int64_int64) (by kernel_rfl) (Nat.le_of_ble_eq_true (by kernel_rfl)) (by rw [← eq_slices_ContainsFunc_int64_int64]; exact h)

end Go.Proofs.Ytfdmphgbodmkpaa
