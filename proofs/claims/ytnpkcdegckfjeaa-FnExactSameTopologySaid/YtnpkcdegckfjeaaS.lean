/- The S-forms of this seat's functions, printed by a program (gen.py) and held against the code by the kernel. -/
import Derived.Test.YtnpkcdegckfjeaaPrim6
import Derived.Test.YtnpkcdegckfjeaaChecked
import Derived.KernelRfl
namespace Go.Proofs.Ytnpkcdegckfjeaa
open Go Go.SL
set_option maxRecDepth 100000
noncomputable abbrev Pg : Program := Try.prog
theorem mixed : Pg.follows .mixedOrders = true := by kernel_rfl
abbrev ty_int64 : TypeId := 2
abbrev ty_int : TypeId := 3
abbrev ty_bool : TypeId := 4
abbrev ty_uint8 : TypeId := 5
abbrev ty_abi_BoundsErrorCode : TypeId := 6
abbrev ty_runtime_boundsError : TypeId := 8
abbrev ty_string : TypeId := 9
abbrev ty_runtime_errorString : TypeId := 10
abbrev ty_runtime_plainError : TypeId := 11
abbrev ty_uintptr : TypeId := 12
abbrev ty_runtime_errorAddressString : TypeId := 14
abbrev ty_Pruntime_TypeAssertionError : TypeId := 15
abbrev ty_Pruntime_PanicNilError : TypeId := 16
abbrev ty_Pabi_Type : TypeId := 17
abbrev ty_maps_unhashableTypeError : TypeId := 19
abbrev ty_int32 : TypeId := 21
abbrev ty_Sstring : TypeId := 22
abbrev ty_laws_Picture : TypeId := 24
abbrev ty_impl_Picture : TypeId := 28
abbrev ty_Pimpl_Picture : TypeId := 37
abbrev ty_Pimpl_image : TypeId := 41
abbrev ty_impl_Spot : TypeId := 50
abbrev ty_Sbool : TypeId := 51
abbrev ty_impl_image : TypeId := 56
abbrev ty_M_impl_Spot_bool : TypeId := 59
abbrev ty_Simpl_Spot : TypeId := 61
abbrev ty_Suint8 : TypeId := 76
abbrev ty_uint : TypeId := 83
abbrev ty_Pstrings_Builder : TypeId := 84
abbrev ty_strings_Builder : TypeId := 86
abbrev ty_error : TypeId := 89
abbrev ty_slices_sortedHint : TypeId := 94
abbrev ty_uint32 : TypeId := 103
abbrev ty_uint64 : TypeId := 105
abbrev ty_Puint8 : TypeId := 106
abbrev ty_slices_xorshift : TypeId := 107
abbrev ty_Pint : TypeId := 111
abbrev ty_unsafe_Pointer : TypeId := 114
abbrev ty_Pslices_xorshift : TypeId := 117
abbrev ty_runtime_TypeAssertionError : TypeId := 121
abbrev ty_0_Pruntime_PanicNilError : TypeId := 122
abbrev ty_runtime_PanicNilError : TypeId := 124
abbrev ty_abi_TFlag : TypeId := 126
abbrev ty_abi_Kind : TypeId := 127
abbrev ty_abi_NameOff : TypeId := 129
abbrev ty_abi_TypeOff : TypeId := 130
abbrev ty_abi_Type : TypeId := 132
abbrev n_main_main : FuncId := 0
abbrev n_gosem_cut : FuncId := 1
abbrev n_gosem_cut_init : FuncId := 2
abbrev n_laws_FnExactDepthOf : FuncId := 3
abbrev n_laws_FnExactTreeCode : FuncId := 4
abbrev n_laws_FnExactSameTopology : FuncId := 5
abbrev n_laws_szPicture : FuncId := 6
abbrev n_spec_DepthOf : FuncId := 7
abbrev n_laws_toPicture : FuncId := 8
abbrev n_impl_DepthOf : FuncId := 9
abbrev n_laws_eqPicture : FuncId := 10
abbrev n_spec_TreeCode : FuncId := 11
abbrev n_impl_TreeCode : FuncId := 12
abbrev n_spec_SameTopology : FuncId := 13
abbrev n_impl_SameTopology : FuncId := 14
abbrev n_laws_szStringS : FuncId := 15
abbrev n_l01Is : FuncId := 16
abbrev n_l05Tree : FuncId := 17
abbrev n_laws_toStringS : FuncId := 18
abbrev n_imageOf : FuncId := 19
abbrev n_image_tree : FuncId := 20
abbrev n_laws_eqStringS : FuncId := 21
abbrev n_l01Side : FuncId := 22
abbrev n_l05Pad : FuncId := 23
abbrev n_l05Node : FuncId := 24
abbrev n_l01Width : FuncId := 25
abbrev n_l01Height : FuncId := 26
abbrev n_sizeOk : FuncId := 27
abbrev n_blank : FuncId := 28
abbrev n_image_set : FuncId := 29
abbrev n_image_framed : FuncId := 30
abbrev n_spread : FuncId := 31
abbrev n_image_tree_1 : FuncId := 32
abbrev n_image_has : FuncId := 33
abbrev n_image_get : FuncId := 34
abbrev n_image_below : FuncId := 35
abbrev n_l00In : FuncId := 36
abbrev n_l01Black : FuncId := 37
abbrev n_l01Make : FuncId := 38
abbrev n_l01Invert : FuncId := 39
abbrev n_l05Part : FuncId := 40
abbrev n_l01Spots : FuncId := 41
abbrev n_l03Steps : FuncId := 42
abbrev n_l01Has : FuncId := 43
abbrev n_l05Insert : FuncId := 44
abbrev n_l00Max : FuncId := 45
abbrev n_in : FuncId := 46
abbrev n_made : FuncId := 47
abbrev n_image_framed_1 : FuncId := 48
abbrev n_around : FuncId := 49
abbrev n_image_below_1 : FuncId := 50
abbrev n_slices_Sort_string_string : FuncId := 51
abbrev n_strings_Join : FuncId := 52
abbrev n_l01List : FuncId := 53
abbrev n_l03Reach : FuncId := 54
abbrev n_image_each : FuncId := 55
abbrev n_made_1 : FuncId := 56
abbrev n_slices_pdqsortOrdered_string : FuncId := 57
abbrev n_math_bits_Len : FuncId := 58
abbrev n_Builder_Grow : FuncId := 59
abbrev n_Builder_WriteString : FuncId := 60
abbrev n_Builder_String : FuncId := 61
abbrev n_slices_insertionSortOrdered_string : FuncId := 62
abbrev n_slices_heapSortOrdered_string : FuncId := 63
abbrev n_slices_breakPatternsOrdered_string : FuncId := 64
abbrev n_slices_choosePivotOrdered_string : FuncId := 65
abbrev n_slices_reverseRangeOrdered_string : FuncId := 66
abbrev n_slices_partialInsertionSortOrdered_string : FuncId := 67
abbrev n_cmp_Less_string : FuncId := 68
abbrev n_slices_partitionEqualOrdered_string : FuncId := 69
abbrev n_slices_partitionOrdered_string : FuncId := 70
abbrev n_math_bits_Len32 : FuncId := 71
abbrev n_math_bits_Len64 : FuncId := 72
abbrev n_Builder_copyCheck : FuncId := 73
abbrev n_Builder_grow : FuncId := 74
abbrev n_slices_siftDownOrdered_string : FuncId := 75
abbrev n_slices_nextPowerOfTwo : FuncId := 76
abbrev n_xorshift_Next : FuncId := 77
abbrev n_slices_medianAdjacentOrdered_string : FuncId := 78
abbrev n_slices_medianOrdered_string : FuncId := 79
abbrev n_cmp_isNaN_string : FuncId := 80
abbrev n_internal_abi_NoEscape : FuncId := 81
abbrev n_internal_bytealg_MakeNoZero : FuncId := 82
abbrev n_slices_order2Ordered_string : FuncId := 83
abbrev n_boundsError_Error : FuncId := 84
abbrev n_boundsError_RuntimeError : FuncId := 85
abbrev n_errorString_Error : FuncId := 86
abbrev n_errorString_RuntimeError : FuncId := 87
abbrev n_plainError_Error : FuncId := 88
abbrev n_plainError_RuntimeError : FuncId := 89
abbrev n_errorAddressString_Error : FuncId := 90
abbrev n_errorAddressString_RuntimeError : FuncId := 91
abbrev n_TypeAssertionError_Error : FuncId := 92
abbrev n_TypeAssertionError_RuntimeError : FuncId := 93
abbrev n_PanicNilError_Error : FuncId := 94
abbrev n_PanicNilError_RuntimeError : FuncId := 95
abbrev n_Type_Align : FuncId := 96
abbrev n_unhashableTypeError_Error : FuncId := 97
abbrev n_unhashableTypeError_RuntimeError : FuncId := 98
abbrev n_image_count : FuncId := 99
abbrev n_Spot_plus : FuncId := 100
abbrev n_Builder_Reset : FuncId := 101
abbrev n_Kind_String : FuncId := 102
-- loop.example/g01165/laws.FnExactDepthOf
def ann_laws_FnExactDepthOf : Ann :=
  (.seq none (.reg [⟨none, [], [0, 1]⟩] [])
  (.seq none (.reg [⟨none, [], [0]⟩] [])
  (.seq none (.reg [⟨none, [], [0, 1, 2, 3]⟩] [])
  (.seq none (.seq none (.reg [⟨none, [], [0, 1]⟩] [])
  (.cond (.seq none (.reg [⟨none, [], [0]⟩] [])
  .leaf)
  .leaf))
  (.seq none (.reg [⟨none, [], [0, 1, 2, 3, 4, 5, 6, 7]⟩] [])
  (.seq none (.reg [⟨none, [], [0, 1, 2, 3]⟩] [])
  (.seq none (.reg [⟨none, [], [0, 1, 2, 3, 4, 5, 6]⟩] [])
  (.seq none (.seq none (.reg [⟨none, [], [0, 1, 2, 3]⟩, ⟨some (3, false), [33], [4, 5, 6]⟩, ⟨none, [], [7]⟩] [])
  (.cond (.seq none (.reg [⟨none, [], [0]⟩] [])
  .leaf)
  .leaf))
  (.seq none (.seq none (.reg [⟨none, [], [0, 1, 2, 3, 4]⟩] [0, 2])
  (.cond (.seq none (.reg [⟨none, [], [0]⟩] [])
  .leaf)
  .leaf))
  (.seq none (.reg [⟨none, [], [0]⟩] [])
  .leaf))))))))))
def S_laws_FnExactDepthOf (a0 : Value) (w : World) (K : Value → World → Prop) : Prop :=
  eff Pg (Instr.box 24 a0) w fun t1_1 w =>
  rd Pg (Instr.loadAt 24 t1_1) w fun t9_2 =>
  callS Pg n_laws_szPicture #[t9_2, (Go.Value.int Go.IntKind.i64 1048576)] w fun t11_3 w =>
  pur Pg (binOp Go.BinOp.lss 3 t11_3 (Go.Value.int Go.IntKind.i64 0)) fun t13_4 =>
  ifB t13_4 (K (Go.Value.bool Bool.true) w)
  (rd Pg (Instr.loadAt 24 t1_1) w fun t15_5 =>
  callS Pg n_laws_toPicture #[t15_5] w fun t16_6 w =>
  callS Pg n_spec_DepthOf #[t16_6] w fun t17_7 w =>
  pur Pg (Instr.extract t17_7 0) fun t18_8 =>
  pur Pg (Instr.extract t17_7 1) fun t19_9 =>
  rd Pg (Instr.loadAt 24 t1_1) w fun t20_10 =>
  callS Pg n_laws_toPicture #[t20_10] w fun t21_11 w =>
  eff Pg (Instr.alloc 28 true (.tuple #[])) w fun t6_12 w =>
  effU Pg (Instr.storeAt 28 t6_12 t21_11) w fun w =>
  rd Pg (Instr.loadAt 28 t6_12) w fun t23_13 =>
  callS Pg n_impl_DepthOf #[t23_13] w fun t24_14 w =>
  pur Pg (Instr.extract t24_14 0) fun t25_15 =>
  pur Pg (Instr.extract t24_14 1) fun t26_16 =>
  rd Pg (binSem Go.BinOp.neq 2 (Go.Operand.tmp 27) (Go.Operand.tmp 28) t25_15 t18_8) w fun t29_17 =>
  joinS (fun g18 s19 w =>
  pickS t29_17 (Go.Value.bool Bool.true) (nth s19 0) fun t34_21 =>
  ifB t34_21 (K (Go.Value.bool Bool.false) w)
  (drawF w fun S22 w =>
  rdF Pg S22 (Instr.loadAt 28 t6_12) fun t35_23 =>
  rd Pg (Instr.loadAt 24 t1_1) w fun t36_24 =>
  callS Pg n_laws_toPicture #[t36_24] w fun t37_25 w =>
  S22 w ∧
  callS Pg n_laws_eqPicture #[t35_23, t37_25] w fun t38_26 w =>
  pur Pg (Op.unary Go.UnOp.not t38_26) fun t39_27 =>
  ifB t39_27 (K (Go.Value.bool Bool.false) w)
  (K (Go.Value.bool Bool.true) w))) fun J20 =>
  ifG t29_17 false (rd Pg (binSem Go.BinOp.neq 4 (Go.Operand.tmp 31) (Go.Operand.tmp 32) t26_16 t19_9) w fun t33_28 =>
  J20 [t33_28] w)
  (J20 [undef] w))
theorem eq_laws_FnExactDepthOf : ∀ (a0 : Value) (w : World) (K : Value → World → Prop), S_laws_FnExactDepthOf a0 w K = codeS Pg (Try.f3.body.getD .skip) ann_laws_FnExactDepthOf (topX Pg Try.f3.results K) (fun t => Array.getD #[a0] t undef) w := by
  intro a0 w K
  kernel_rfl
theorem call_laws_FnExactDepthOf (a0 : Value) (w : World) (K : Value → World → Prop) (h : S_laws_FnExactDepthOf a0 w K) : callS Pg n_laws_FnExactDepthOf #[a0] w K :=
  callS_of mixed Try.func3 (c := Try.f3.body.getD .skip) (by kernel_rfl) (by kernel_rfl) (ann := ann_laws_FnExactDepthOf) (by kernel_rfl) (Nat.le_of_ble_eq_true (by kernel_rfl)) (by rw [← eq_laws_FnExactDepthOf]; exact h)

-- loop.example/g01165/laws.FnExactTreeCode
def ann_laws_FnExactTreeCode : Ann :=
  (.seq none (.reg [⟨none, [], [0, 1]⟩] [])
  (.seq none (.reg [⟨none, [], [0]⟩] [])
  (.seq none (.reg [⟨none, [], [0, 1, 2, 3]⟩] [])
  (.seq none (.seq none (.reg [⟨none, [], [0, 1]⟩] [])
  (.cond (.seq none (.reg [⟨none, [], [0]⟩] [])
  .leaf)
  .leaf))
  (.seq none (.reg [⟨none, [], [0, 1, 2, 3, 4, 5, 6, 7]⟩] [])
  (.seq none (.reg [⟨none, [], [0, 1, 2, 3]⟩] [])
  (.seq none (.reg [⟨none, [], [0, 1, 2, 3, 4, 5, 6]⟩] [])
  (.seq none (.seq none (.reg [⟨none, [], [0, 1, 2, 3]⟩, ⟨some (3, false), [33], [4, 5, 6]⟩, ⟨none, [], [7]⟩] [])
  (.cond (.seq none (.reg [⟨none, [], [0]⟩] [])
  .leaf)
  .leaf))
  (.seq none (.seq none (.reg [⟨none, [], [0, 1, 2, 3, 4]⟩] [0, 2])
  (.cond (.seq none (.reg [⟨none, [], [0]⟩] [])
  .leaf)
  .leaf))
  (.seq none (.reg [⟨none, [], [0]⟩] [])
  .leaf))))))))))
def S_laws_FnExactTreeCode (a0 : Value) (w : World) (K : Value → World → Prop) : Prop :=
  eff Pg (Instr.box 24 a0) w fun t1_1 w =>
  rd Pg (Instr.loadAt 24 t1_1) w fun t9_2 =>
  callS Pg n_laws_szPicture #[t9_2, (Go.Value.int Go.IntKind.i64 1048576)] w fun t11_3 w =>
  pur Pg (binOp Go.BinOp.lss 3 t11_3 (Go.Value.int Go.IntKind.i64 0)) fun t13_4 =>
  ifB t13_4 (K (Go.Value.bool Bool.true) w)
  (rd Pg (Instr.loadAt 24 t1_1) w fun t15_5 =>
  callS Pg n_laws_toPicture #[t15_5] w fun t16_6 w =>
  callS Pg n_spec_TreeCode #[t16_6] w fun t17_7 w =>
  pur Pg (Instr.extract t17_7 0) fun t18_8 =>
  pur Pg (Instr.extract t17_7 1) fun t19_9 =>
  rd Pg (Instr.loadAt 24 t1_1) w fun t20_10 =>
  callS Pg n_laws_toPicture #[t20_10] w fun t21_11 w =>
  eff Pg (Instr.alloc 28 true (.tuple #[])) w fun t6_12 w =>
  effU Pg (Instr.storeAt 28 t6_12 t21_11) w fun w =>
  rd Pg (Instr.loadAt 28 t6_12) w fun t23_13 =>
  callS Pg n_impl_TreeCode #[t23_13] w fun t24_14 w =>
  pur Pg (Instr.extract t24_14 0) fun t25_15 =>
  pur Pg (Instr.extract t24_14 1) fun t26_16 =>
  rd Pg (binSem Go.BinOp.neq 9 (Go.Operand.tmp 27) (Go.Operand.tmp 28) t25_15 t18_8) w fun t29_17 =>
  joinS (fun g18 s19 w =>
  pickS t29_17 (Go.Value.bool Bool.true) (nth s19 0) fun t34_21 =>
  ifB t34_21 (K (Go.Value.bool Bool.false) w)
  (drawF w fun S22 w =>
  rdF Pg S22 (Instr.loadAt 28 t6_12) fun t35_23 =>
  rd Pg (Instr.loadAt 24 t1_1) w fun t36_24 =>
  callS Pg n_laws_toPicture #[t36_24] w fun t37_25 w =>
  S22 w ∧
  callS Pg n_laws_eqPicture #[t35_23, t37_25] w fun t38_26 w =>
  pur Pg (Op.unary Go.UnOp.not t38_26) fun t39_27 =>
  ifB t39_27 (K (Go.Value.bool Bool.false) w)
  (K (Go.Value.bool Bool.true) w))) fun J20 =>
  ifG t29_17 false (rd Pg (binSem Go.BinOp.neq 4 (Go.Operand.tmp 31) (Go.Operand.tmp 32) t26_16 t19_9) w fun t33_28 =>
  J20 [t33_28] w)
  (J20 [undef] w))
theorem eq_laws_FnExactTreeCode : ∀ (a0 : Value) (w : World) (K : Value → World → Prop), S_laws_FnExactTreeCode a0 w K = codeS Pg (Try.f4.body.getD .skip) ann_laws_FnExactTreeCode (topX Pg Try.f4.results K) (fun t => Array.getD #[a0] t undef) w := by
  intro a0 w K
  kernel_rfl
theorem call_laws_FnExactTreeCode (a0 : Value) (w : World) (K : Value → World → Prop) (h : S_laws_FnExactTreeCode a0 w K) : callS Pg n_laws_FnExactTreeCode #[a0] w K :=
  callS_of mixed Try.func4 (c := Try.f4.body.getD .skip) (by kernel_rfl) (by kernel_rfl) (ann := ann_laws_FnExactTreeCode) (by kernel_rfl) (Nat.le_of_ble_eq_true (by kernel_rfl)) (by rw [← eq_laws_FnExactTreeCode]; exact h)

-- loop.example/g01165/laws.FnExactSameTopology
def ann_laws_FnExactSameTopology : Ann :=
  (.seq none (.reg [⟨none, [], [0, 1, 2]⟩] [])
  (.seq none (.reg [⟨none, [], [0]⟩] [])
  (.seq none (.reg [⟨none, [], [0, 1, 2, 3]⟩] [])
  (.seq none (.seq none (.reg [⟨none, [], [0, 1]⟩] [])
  (.cond (.seq none (.reg [⟨none, [], [0]⟩] [])
  .leaf)
  .leaf))
  (.seq none (.reg [⟨none, [], [0, 1, 2, 3]⟩] [])
  (.seq none (.seq none (.reg [⟨none, [], [0, 1]⟩] [])
  (.cond (.seq none (.reg [⟨none, [], [0]⟩] [])
  .leaf)
  .leaf))
  (.seq none (.reg [⟨none, [], [0, 2, 1, 3, 4, 5]⟩] [1, 2])
  (.seq none (.reg [⟨none, [], [0, 1, 2, 3]⟩] [])
  (.seq none (.reg [⟨none, [], [0, 1, 2, 3]⟩] [])
  (.seq none (.reg [⟨none, [], [0, 1, 2, 3]⟩] [])
  (.seq none (.seq none (.reg [⟨none, [], [0, 1, 2]⟩] [])
  (.cond (.seq none (.reg [⟨none, [], [0]⟩] [])
  .leaf)
  .leaf))
  (.seq none (.seq none (.reg [⟨none, [], [0, 1, 2, 3, 4]⟩] [0, 2])
  (.cond (.seq none (.reg [⟨none, [], [0]⟩] [])
  .leaf)
  .leaf))
  (.seq none (.seq none (.reg [⟨none, [], [0, 1, 2, 3, 4]⟩] [0, 2])
  (.cond (.seq none (.reg [⟨none, [], [0]⟩] [])
  .leaf)
  .leaf))
  (.seq none (.reg [⟨none, [], [0]⟩] [])
  .leaf))))))))))))))
def S_laws_FnExactSameTopology (a0 a1 : Value) (w : World) (K : Value → World → Prop) : Prop :=
  eff Pg (Instr.box 24 a0) w fun t2_1 w =>
  eff Pg (Instr.box 24 a1) w fun t3_2 w =>
  rd Pg (Instr.loadAt 24 t2_1) w fun t10_3 =>
  callS Pg n_laws_szPicture #[t10_3, (Go.Value.int Go.IntKind.i64 1048576)] w fun t12_4 w =>
  pur Pg (binOp Go.BinOp.lss 3 t12_4 (Go.Value.int Go.IntKind.i64 0)) fun t14_5 =>
  ifB t14_5 (K (Go.Value.bool Bool.true) w)
  (rd Pg (Instr.loadAt 24 t3_2) w fun t15_6 =>
  callS Pg n_laws_szPicture #[t15_6, t12_4] w fun t17_7 w =>
  pur Pg (binOp Go.BinOp.lss 3 t17_7 (Go.Value.int Go.IntKind.i64 0)) fun t19_8 =>
  ifB t19_8 (K (Go.Value.bool Bool.true) w)
  (drawF w fun S9 w =>
  rd Pg (Instr.loadAt 24 t2_1) w fun t20_10 =>
  rdF Pg S9 (Instr.loadAt 24 t3_2) fun t22_11 =>
  callS Pg n_laws_toPicture #[t20_10] w fun t21_12 w =>
  S9 w ∧
  callS Pg n_laws_toPicture #[t22_11] w fun t23_13 w =>
  callS Pg n_spec_SameTopology #[t21_12, t23_13] w fun t24_14 w =>
  rd Pg (Instr.loadAt 24 t2_1) w fun t25_15 =>
  callS Pg n_laws_toPicture #[t25_15] w fun t26_16 w =>
  eff Pg (Instr.alloc 28 true (.tuple #[])) w fun t7_17 w =>
  effU Pg (Instr.storeAt 28 t7_17 t26_16) w fun w =>
  rd Pg (Instr.loadAt 24 t3_2) w fun t27_18 =>
  callS Pg n_laws_toPicture #[t27_18] w fun t28_19 w =>
  eff Pg (Instr.alloc 28 true (.tuple #[])) w fun t8_20 w =>
  effU Pg (Instr.storeAt 28 t8_20 t28_19) w fun w =>
  rd Pg (Instr.loadAt 28 t7_17) w fun t29_21 =>
  rd Pg (Instr.loadAt 28 t8_20) w fun t30_22 =>
  callS Pg n_impl_SameTopology #[t29_21, t30_22] w fun t31_23 w =>
  rd Pg (binSem Go.BinOp.neq 4 (Go.Operand.tmp 32) (Go.Operand.tmp 33) t31_23 t24_14) w fun t34_24 =>
  ifB t34_24 (K (Go.Value.bool Bool.false) w)
  (drawF w fun S25 w =>
  rdF Pg S25 (Instr.loadAt 28 t7_17) fun t35_26 =>
  rd Pg (Instr.loadAt 24 t2_1) w fun t36_27 =>
  callS Pg n_laws_toPicture #[t36_27] w fun t37_28 w =>
  S25 w ∧
  callS Pg n_laws_eqPicture #[t35_26, t37_28] w fun t38_29 w =>
  pur Pg (Op.unary Go.UnOp.not t38_29) fun t39_30 =>
  ifB t39_30 (K (Go.Value.bool Bool.false) w)
  (drawF w fun S31 w =>
  rdF Pg S31 (Instr.loadAt 28 t8_20) fun t40_32 =>
  rd Pg (Instr.loadAt 24 t3_2) w fun t41_33 =>
  callS Pg n_laws_toPicture #[t41_33] w fun t42_34 w =>
  S31 w ∧
  callS Pg n_laws_eqPicture #[t40_32, t42_34] w fun t43_35 w =>
  pur Pg (Op.unary Go.UnOp.not t43_35) fun t44_36 =>
  ifB t44_36 (K (Go.Value.bool Bool.false) w)
  (K (Go.Value.bool Bool.true) w)))))
theorem eq_laws_FnExactSameTopology : ∀ (a0 a1 : Value) (w : World) (K : Value → World → Prop), S_laws_FnExactSameTopology a0 a1 w K = codeS Pg (Try.f5.body.getD .skip) ann_laws_FnExactSameTopology (topX Pg Try.f5.results K) (fun t => Array.getD #[a0, a1] t undef) w := by
  intro a0 a1 w K
  kernel_rfl
theorem call_laws_FnExactSameTopology (a0 a1 : Value) (w : World) (K : Value → World → Prop) (h : S_laws_FnExactSameTopology a0 a1 w K) : callS Pg n_laws_FnExactSameTopology #[a0, a1] w K :=
  callS_of mixed Try.func5 (c := Try.f5.body.getD .skip) (by kernel_rfl) (by kernel_rfl) (ann := ann_laws_FnExactSameTopology) (by kernel_rfl) (Nat.le_of_ble_eq_true (by kernel_rfl)) (by rw [← eq_laws_FnExactSameTopology]; exact h)

-- loop.example/g01165/laws.szPicture
def ann_laws_szPicture : Ann :=
  (.seq none (.reg [⟨none, [], [0, 1]⟩] [])
  (.seq none (.reg [⟨none, [], [0, 1, 2, 3, 4]⟩] [])
  (.seq none (.seq none (.reg [⟨none, [], [0, 1]⟩] [])
  (.cond (.seq none (.reg [⟨none, [], [0]⟩] [])
  .leaf)
  .leaf))
  (.seq none (.reg [⟨none, [], [0, 1]⟩] [])
  .leaf))))
def S_laws_szPicture (a0 a1 : Value) (w : World) (K : Value → World → Prop) : Prop :=
  eff Pg (Instr.box 24 a0) w fun t2_1 w =>
  pur Pg (Instr.fieldAt 24 t2_1 0) fun t5_2 =>
  rd Pg (Instr.loadAt 22 t5_2) w fun t6_3 =>
  callS Pg n_laws_szStringS #[t6_3, a1] w fun t8_4 w =>
  pur Pg (binOp Go.BinOp.lss 3 t8_4 (Go.Value.int Go.IntKind.i64 0)) fun t10_5 =>
  ifB t10_5 (K (Go.Value.int Go.IntKind.i64 (-1)) w)
  (K t8_4 w)
theorem eq_laws_szPicture : ∀ (a0 a1 : Value) (w : World) (K : Value → World → Prop), S_laws_szPicture a0 a1 w K = codeS Pg (Try.f6.body.getD .skip) ann_laws_szPicture (topX Pg Try.f6.results K) (fun t => Array.getD #[a0, a1] t undef) w := by
  intro a0 a1 w K
  kernel_rfl
theorem call_laws_szPicture (a0 a1 : Value) (w : World) (K : Value → World → Prop) (h : S_laws_szPicture a0 a1 w K) : callS Pg n_laws_szPicture #[a0, a1] w K :=
  callS_of mixed Try.func6 (c := Try.f6.body.getD .skip) (by kernel_rfl) (by kernel_rfl) (ann := ann_laws_szPicture) (by kernel_rfl) (Nat.le_of_ble_eq_true (by kernel_rfl)) (by rw [← eq_laws_szPicture]; exact h)

-- loop.example/g01165/spec.DepthOf
def ann_spec_DepthOf : Ann :=
  (.seq none (.reg [⟨none, [], [0, 1, 2]⟩] [])
  (.seq none (.seq none (.reg [⟨none, [], [0, 1]⟩] [])
  (.cond (.seq none (.reg [⟨none, [], [0, 1]⟩] [])
  .leaf)
  .leaf))
  (.seq none (.reg [⟨none, [], [0, 1, 2, 3, 4, 5]⟩] [])
  (.seq none (.reg [⟨none, [], [0, 1, 2]⟩] [])
  .leaf))))
def S_spec_DepthOf (a0 : Value) (w : World) (K : Value → World → Prop) : Prop :=
  eff Pg (Instr.box 28 a0) w fun t1_1 w =>
  callS Pg n_l01Is #[t1_1] w fun t6_2 w =>
  pur Pg (Op.unary Go.UnOp.not t6_2) fun t7_3 =>
  ifB t7_3 (K (Value.tuple #[(Go.Value.int Go.IntKind.i64 0), (Go.Value.bool Bool.false)]) w)
  (callS Pg n_l05Tree #[t1_1] w fun t9_4 w =>
  pur Pg (Instr.extract t9_4 0) fun t10_5 =>
  pur Pg (Instr.extract t9_4 1) fun t11_6 =>
  K (Value.tuple #[t11_6, (Go.Value.bool Bool.true)]) w)
theorem eq_spec_DepthOf : ∀ (a0 : Value) (w : World) (K : Value → World → Prop), S_spec_DepthOf a0 w K = codeS Pg (Try.f7.body.getD .skip) ann_spec_DepthOf (topX Pg Try.f7.results K) (fun t => Array.getD #[a0] t undef) w := by
  intro a0 w K
  kernel_rfl
theorem call_spec_DepthOf (a0 : Value) (w : World) (K : Value → World → Prop) (h : S_spec_DepthOf a0 w K) : callS Pg n_spec_DepthOf #[a0] w K :=
  callS_of mixed Try.func7 (c := Try.f7.body.getD .skip) (by kernel_rfl) (by kernel_rfl) (ann := ann_spec_DepthOf) (by kernel_rfl) (Nat.le_of_ble_eq_true (by kernel_rfl)) (by rw [← eq_spec_DepthOf]; exact h)

-- loop.example/g01165/laws.toPicture
def ann_laws_toPicture : Ann :=
  (.seq none (.reg [⟨none, [], [0, 1]⟩] [])
  (.seq none (.reg [⟨none, [], [0]⟩] [])
  (.seq none (.reg [⟨none, [], [0, 1, 2, 3, 4]⟩] [])
  (.seq none (.reg [⟨none, [], [0, 1]⟩] [])
  .leaf))))
def S_laws_toPicture (a0 : Value) (w : World) (K : Value → World → Prop) : Prop :=
  eff Pg (Instr.box 24 a0) w fun t1_1 w =>
  eff Pg (Instr.alloc 28 true (.tuple #[])) w fun t2_2 w =>
  eff Pg (Instr.alloc 28 true (.tuple #[])) w fun t3_3 w =>
  pur Pg (Instr.fieldAt 24 t1_1 0) fun t4_4 =>
  rd Pg (Instr.loadAt 22 t4_4) w fun t5_5 =>
  callS Pg n_laws_toStringS #[t5_5] w fun t6_6 w =>
  pur Pg (Instr.fieldAt 28 t3_3 0) fun t7_7 =>
  effU Pg (Instr.storeAt 22 t7_7 t6_6) w fun w =>
  rd Pg (Instr.loadAt 28 t3_3) w fun t8_8 =>
  effU Pg (Instr.storeAt 28 t2_2 t8_8) w fun w =>
  rd Pg (resCell 28 t2_2) w fun r9 =>
  K r9 w
theorem eq_laws_toPicture : ∀ (a0 : Value) (w : World) (K : Value → World → Prop), S_laws_toPicture a0 w K = codeS Pg (Try.f8.body.getD .skip) ann_laws_toPicture (topX Pg Try.f8.results K) (fun t => Array.getD #[a0] t undef) w := by
  intro a0 w K
  kernel_rfl
theorem call_laws_toPicture (a0 : Value) (w : World) (K : Value → World → Prop) (h : S_laws_toPicture a0 w K) : callS Pg n_laws_toPicture #[a0] w K :=
  callS_of mixed Try.func8 (c := Try.f8.body.getD .skip) (by kernel_rfl) (by kernel_rfl) (ann := ann_laws_toPicture) (by kernel_rfl) (Nat.le_of_ble_eq_true (by kernel_rfl)) (by rw [← eq_laws_toPicture]; exact h)

-- loop.example/g01165/impl.DepthOf
def ann_impl_DepthOf : Ann :=
  (.seq none (.reg [⟨none, [], [0, 1, 2]⟩] [])
  (.seq none (.reg [⟨none, [], [0, 1, 2, 3, 4, 5, 6]⟩] [])
  (.seq none (.seq none (.reg [⟨none, [], [0, 1]⟩] [])
  (.cond (.seq none (.reg [⟨none, [], [0, 1]⟩] [])
  .leaf)
  .leaf))
  (.seq none (.reg [⟨none, [], [0, 1, 2, 3, 4, 5, 6]⟩] [])
  (.seq none (.reg [⟨none, [], [0, 1, 2]⟩] [])
  .leaf)))))
def S_impl_DepthOf (a0 : Value) (w : World) (K : Value → World → Prop) : Prop :=
  eff Pg (Instr.box 28 a0) w fun t1_1 w =>
  rd Pg (Instr.loadAt 28 t1_1) w fun t9_2 =>
  callS Pg n_imageOf #[t9_2] w fun t10_3 w =>
  pur Pg (Instr.extract t10_3 0) fun t11_4 =>
  pur Pg (Instr.extract t10_3 1) fun t12_5 =>
  pur Pg (Op.unary Go.UnOp.not t12_5) fun t14_6 =>
  ifB t14_6 (K (Value.tuple #[(Go.Value.int Go.IntKind.i64 0), (Go.Value.bool Bool.false)]) w)
  (callS Pg n_image_tree #[t11_4] w fun t17_7 w =>
  pur Pg (Instr.extract t17_7 0) fun t18_8 =>
  pur Pg (Instr.extract t17_7 1) fun t19_9 =>
  K (Value.tuple #[t19_9, (Go.Value.bool Bool.true)]) w)
theorem eq_impl_DepthOf : ∀ (a0 : Value) (w : World) (K : Value → World → Prop), S_impl_DepthOf a0 w K = codeS Pg (Try.f9.body.getD .skip) ann_impl_DepthOf (topX Pg Try.f9.results K) (fun t => Array.getD #[a0] t undef) w := by
  intro a0 w K
  kernel_rfl
theorem call_impl_DepthOf (a0 : Value) (w : World) (K : Value → World → Prop) (h : S_impl_DepthOf a0 w K) : callS Pg n_impl_DepthOf #[a0] w K :=
  callS_of mixed Try.func9 (c := Try.f9.body.getD .skip) (by kernel_rfl) (by kernel_rfl) (ann := ann_impl_DepthOf) (by kernel_rfl) (Nat.le_of_ble_eq_true (by kernel_rfl)) (by rw [← eq_impl_DepthOf]; exact h)

-- loop.example/g01165/laws.eqPicture
def ann_laws_eqPicture : Ann :=
  (.seq none (.reg [⟨none, [], [0, 1, 2]⟩] [])
  (.seq none (.seq none (.reg [⟨none, [], [0, 1, 2, 3, 4, 5]⟩] [])
  (.cond (.seq none (.reg [⟨none, [], [0]⟩] [])
  .leaf)
  .leaf))
  (.seq none (.reg [⟨none, [], [0]⟩] [])
  .leaf)))
def S_laws_eqPicture (a0 a1 : Value) (w : World) (K : Value → World → Prop) : Prop :=
  eff Pg (Instr.box 28 a0) w fun t2_1 w =>
  eff Pg (Instr.box 28 a1) w fun t3_2 w =>
  pur Pg (Instr.fieldAt 28 t2_1 0) fun t5_3 =>
  rd Pg (Instr.loadAt 22 t5_3) w fun t6_4 =>
  pur Pg (Instr.fieldAt 28 t3_2 0) fun t7_5 =>
  rd Pg (Instr.loadAt 22 t7_5) w fun t8_6 =>
  callS Pg n_laws_eqStringS #[t6_4, t8_6] w fun t9_7 w =>
  pur Pg (Op.unary Go.UnOp.not t9_7) fun t10_8 =>
  ifB t10_8 (K (Go.Value.bool Bool.false) w)
  (K (Go.Value.bool Bool.true) w)
theorem eq_laws_eqPicture : ∀ (a0 a1 : Value) (w : World) (K : Value → World → Prop), S_laws_eqPicture a0 a1 w K = codeS Pg (Try.f10.body.getD .skip) ann_laws_eqPicture (topX Pg Try.f10.results K) (fun t => Array.getD #[a0, a1] t undef) w := by
  intro a0 a1 w K
  kernel_rfl
theorem call_laws_eqPicture (a0 a1 : Value) (w : World) (K : Value → World → Prop) (h : S_laws_eqPicture a0 a1 w K) : callS Pg n_laws_eqPicture #[a0, a1] w K :=
  callS_of mixed Try.func10 (c := Try.f10.body.getD .skip) (by kernel_rfl) (by kernel_rfl) (ann := ann_laws_eqPicture) (by kernel_rfl) (Nat.le_of_ble_eq_true (by kernel_rfl)) (by rw [← eq_laws_eqPicture]; exact h)

-- loop.example/g01165/spec.TreeCode
def ann_spec_TreeCode : Ann :=
  (.seq none (.reg [⟨none, [], [0, 1, 2]⟩] [])
  (.seq none (.seq none (.reg [⟨none, [], [0, 1]⟩] [])
  (.cond (.seq none (.reg [⟨none, [], [0, 1]⟩] [])
  .leaf)
  .leaf))
  (.seq none (.reg [⟨none, [], [0, 1, 2, 3, 4, 5]⟩] [])
  (.seq none (.reg [⟨none, [], [0, 1, 2]⟩] [])
  .leaf))))
def S_spec_TreeCode (a0 : Value) (w : World) (K : Value → World → Prop) : Prop :=
  eff Pg (Instr.box 28 a0) w fun t1_1 w =>
  callS Pg n_l01Is #[t1_1] w fun t6_2 w =>
  pur Pg (Op.unary Go.UnOp.not t6_2) fun t7_3 =>
  ifB t7_3 (K (Value.tuple #[(Go.Value.string (ByteArray.mk #[])), (Go.Value.bool Bool.false)]) w)
  (callS Pg n_l05Tree #[t1_1] w fun t9_4 w =>
  pur Pg (Instr.extract t9_4 0) fun t10_5 =>
  pur Pg (Instr.extract t9_4 1) fun t11_6 =>
  K (Value.tuple #[t10_5, (Go.Value.bool Bool.true)]) w)
theorem eq_spec_TreeCode : ∀ (a0 : Value) (w : World) (K : Value → World → Prop), S_spec_TreeCode a0 w K = codeS Pg (Try.f11.body.getD .skip) ann_spec_TreeCode (topX Pg Try.f11.results K) (fun t => Array.getD #[a0] t undef) w := by
  intro a0 w K
  kernel_rfl
theorem call_spec_TreeCode (a0 : Value) (w : World) (K : Value → World → Prop) (h : S_spec_TreeCode a0 w K) : callS Pg n_spec_TreeCode #[a0] w K :=
  callS_of mixed Try.func11 (c := Try.f11.body.getD .skip) (by kernel_rfl) (by kernel_rfl) (ann := ann_spec_TreeCode) (by kernel_rfl) (Nat.le_of_ble_eq_true (by kernel_rfl)) (by rw [← eq_spec_TreeCode]; exact h)

-- loop.example/g01165/impl.TreeCode
def ann_impl_TreeCode : Ann :=
  (.seq none (.reg [⟨none, [], [0, 1, 2]⟩] [])
  (.seq none (.reg [⟨none, [], [0, 1, 2, 3, 4, 5, 6]⟩] [])
  (.seq none (.seq none (.reg [⟨none, [], [0, 1]⟩] [])
  (.cond (.seq none (.reg [⟨none, [], [0, 1]⟩] [])
  .leaf)
  .leaf))
  (.seq none (.reg [⟨none, [], [0, 1, 2, 3, 4, 5, 6]⟩] [])
  (.seq none (.reg [⟨none, [], [0, 1, 2]⟩] [])
  .leaf)))))
def S_impl_TreeCode (a0 : Value) (w : World) (K : Value → World → Prop) : Prop :=
  eff Pg (Instr.box 28 a0) w fun t1_1 w =>
  rd Pg (Instr.loadAt 28 t1_1) w fun t9_2 =>
  callS Pg n_imageOf #[t9_2] w fun t10_3 w =>
  pur Pg (Instr.extract t10_3 0) fun t11_4 =>
  pur Pg (Instr.extract t10_3 1) fun t12_5 =>
  pur Pg (Op.unary Go.UnOp.not t12_5) fun t14_6 =>
  ifB t14_6 (K (Value.tuple #[(Go.Value.string (ByteArray.mk #[])), (Go.Value.bool Bool.false)]) w)
  (callS Pg n_image_tree #[t11_4] w fun t17_7 w =>
  pur Pg (Instr.extract t17_7 0) fun t18_8 =>
  pur Pg (Instr.extract t17_7 1) fun t19_9 =>
  K (Value.tuple #[t18_8, (Go.Value.bool Bool.true)]) w)
theorem eq_impl_TreeCode : ∀ (a0 : Value) (w : World) (K : Value → World → Prop), S_impl_TreeCode a0 w K = codeS Pg (Try.f12.body.getD .skip) ann_impl_TreeCode (topX Pg Try.f12.results K) (fun t => Array.getD #[a0] t undef) w := by
  intro a0 w K
  kernel_rfl
theorem call_impl_TreeCode (a0 : Value) (w : World) (K : Value → World → Prop) (h : S_impl_TreeCode a0 w K) : callS Pg n_impl_TreeCode #[a0] w K :=
  callS_of mixed Try.func12 (c := Try.f12.body.getD .skip) (by kernel_rfl) (by kernel_rfl) (ann := ann_impl_TreeCode) (by kernel_rfl) (Nat.le_of_ble_eq_true (by kernel_rfl)) (by rw [← eq_impl_TreeCode]; exact h)

-- loop.example/g01165/spec.SameTopology
def ann_spec_SameTopology : Ann :=
  (.seq none (.reg [⟨none, [], [0, 1, 2]⟩] [])
  (.seq none (.seq none (.reg [⟨none, [], [0, 1, 2]⟩, ⟨some (2, false), [13], [3, 4]⟩, ⟨none, [], [5]⟩] [])
  (.cond (.seq none (.reg [⟨none, [], [0]⟩] [])
  .leaf)
  .leaf))
  (.seq none (.reg [⟨none, [], [0, 1, 2, 3, 4, 5]⟩] [])
  (.seq none (.reg [⟨none, [], [0, 1, 2, 3, 4, 5]⟩] [])
  (.seq none (.reg [⟨none, [], [0, 1, 2, 3]⟩] [])
  .leaf)))))
def S_spec_SameTopology (a0 a1 : Value) (w : World) (K : Value → World → Prop) : Prop :=
  eff Pg (Instr.box 28 a0) w fun t2_1 w =>
  eff Pg (Instr.box 28 a1) w fun t3_2 w =>
  callS Pg n_l01Is #[t2_1] w fun t9_3 w =>
  pur Pg (Op.unary Go.UnOp.not t9_3) fun t10_4 =>
  joinS (fun g5 s6 w =>
  pickS t10_4 (Go.Value.bool Bool.true) (nth s6 0) fun t14_8 =>
  ifB t14_8 (K (Go.Value.bool Bool.false) w)
  (callS Pg n_l05Tree #[t2_1] w fun t16_9 w =>
  pur Pg (Instr.extract t16_9 0) fun t17_10 =>
  pur Pg (Instr.extract t16_9 1) fun t18_11 =>
  callS Pg n_l05Tree #[t3_2] w fun t20_12 w =>
  pur Pg (Instr.extract t20_12 0) fun t21_13 =>
  pur Pg (Instr.extract t20_12 1) fun t22_14 =>
  rd Pg (binSem Go.BinOp.eql 9 (Go.Operand.tmp 23) (Go.Operand.tmp 24) t17_10 t21_13) w fun t25_15 =>
  K t25_15 w)) fun J7 =>
  ifG t10_4 false (callS Pg n_l01Is #[t3_2] w fun t12_16 w =>
  pur Pg (Op.unary Go.UnOp.not t12_16) fun t13_17 =>
  J7 [t13_17] w)
  (J7 [undef] w)
theorem eq_spec_SameTopology : ∀ (a0 a1 : Value) (w : World) (K : Value → World → Prop), S_spec_SameTopology a0 a1 w K = codeS Pg (Try.f13.body.getD .skip) ann_spec_SameTopology (topX Pg Try.f13.results K) (fun t => Array.getD #[a0, a1] t undef) w := by
  intro a0 a1 w K
  kernel_rfl
theorem call_spec_SameTopology (a0 a1 : Value) (w : World) (K : Value → World → Prop) (h : S_spec_SameTopology a0 a1 w K) : callS Pg n_spec_SameTopology #[a0, a1] w K :=
  callS_of mixed Try.func13 (c := Try.f13.body.getD .skip) (by kernel_rfl) (by kernel_rfl) (ann := ann_spec_SameTopology) (by kernel_rfl) (Nat.le_of_ble_eq_true (by kernel_rfl)) (by rw [← eq_spec_SameTopology]; exact h)

-- loop.example/g01165/impl.SameTopology
def ann_impl_SameTopology : Ann :=
  (.seq none (.reg [⟨none, [], [0, 1, 2]⟩] [])
  (.seq none (.reg [⟨none, [], [0, 1, 2, 3, 4, 5, 6]⟩] [])
  (.seq none (.reg [⟨none, [], [0, 1, 2, 3, 4, 5, 6]⟩] [])
  (.seq none (.reg [⟨none, [], [0, 1]⟩, ⟨some (1, true), [21], [2]⟩, ⟨none, [], [3, 4]⟩, ⟨some (4, true), [26], [5, 6, 7]⟩, ⟨none, [], [8, 9]⟩] [])
  .leaf))))
def S_impl_SameTopology (a0 a1 : Value) (w : World) (K : Value → World → Prop) : Prop :=
  eff Pg (Instr.box 28 a0) w fun t2_1 w =>
  eff Pg (Instr.box 28 a1) w fun t3_2 w =>
  rd Pg (Instr.loadAt 28 t2_1) w fun t10_3 =>
  callS Pg n_impl_TreeCode #[t10_3] w fun t11_4 w =>
  pur Pg (Instr.extract t11_4 0) fun t12_5 =>
  pur Pg (Instr.extract t11_4 1) fun t13_6 =>
  rd Pg (Instr.loadAt 28 t3_2) w fun t15_7 =>
  callS Pg n_impl_TreeCode #[t15_7] w fun t16_8 w =>
  pur Pg (Instr.extract t16_8 0) fun t17_9 =>
  pur Pg (Instr.extract t16_8 1) fun t18_10 =>
  joinS (fun g11 s12 w =>
  pickS t13_6 (nth s12 0) (Go.Value.bool Bool.false) fun t22_14 =>
  joinS (fun g15 s16 w =>
  pickS t22_14 (nth s16 0) (Go.Value.bool Bool.false) fun t27_18 =>
  K t27_18 w) fun J17 =>
  ifG t22_14 true (rd Pg (binSem Go.BinOp.eql 9 (Go.Operand.tmp 24) (Go.Operand.tmp 25) t12_5 t17_9) w fun t26_19 =>
  J17 [t26_19] w)
  (J17 [undef] w)) fun J13 =>
  ifG t13_6 true (J13 [t18_10] w)
  (J13 [undef] w)
theorem eq_impl_SameTopology : ∀ (a0 a1 : Value) (w : World) (K : Value → World → Prop), S_impl_SameTopology a0 a1 w K = codeS Pg (Try.f14.body.getD .skip) ann_impl_SameTopology (topX Pg Try.f14.results K) (fun t => Array.getD #[a0, a1] t undef) w := by
  intro a0 a1 w K
  kernel_rfl
theorem call_impl_SameTopology (a0 a1 : Value) (w : World) (K : Value → World → Prop) (h : S_impl_SameTopology a0 a1 w K) : callS Pg n_impl_SameTopology #[a0, a1] w K :=
  callS_of mixed Try.func14 (c := Try.f14.body.getD .skip) (by kernel_rfl) (by kernel_rfl) (ann := ann_impl_SameTopology) (by kernel_rfl) (Nat.le_of_ble_eq_true (by kernel_rfl)) (by rw [← eq_impl_SameTopology]; exact h)

-- loop.example/g01165/laws.szStringS
def ann_laws_szStringS : Ann :=
  (.seq none (.reg [⟨none, [], [0]⟩] [])
  (.seq none (.reg [⟨none, [], [0, 1, 2, 3, 4]⟩] [])
  (.seq none (.seq none (.reg [⟨none, [], [0, 1]⟩] [])
  (.cond (.seq none (.reg [⟨none, [], [0]⟩] [])
  .leaf)
  .leaf))
  (.seq none (.seq none (.reg [⟨none, [], [0]⟩] [])
  (.sub (.loop [1, 5] [12, 13, 14, 15, 18, 19, 20, 21, 22, 23, 24, 1, 25, 26, 4, 16, 17, 5]
  (.seq none (.seq none (.reg [⟨none, [], [0, 1, 2, 3]⟩] [])
  (.cond .leaf
  .leaf))
  (.seq none (.sub (.seq none (.reg [⟨none, [], [0, 1, 2, 3, 4, 5, 6, 7]⟩] [])
  (.seq none (.reg [⟨none, [], [0, 1]⟩] [])
  (.cond (.seq none (.reg [⟨none, [], [0]⟩] [])
  .leaf)
  .leaf))))
  (.reg [⟨none, [], [0, 1, 2]⟩] []))))))
  (.seq none (.reg [⟨none, [], [0, 1]⟩] [])
  .leaf)))))
def S_laws_szStringS (a0 a1 : Value) (w : World) (K : Value → World → Prop) : Prop :=
  rd Pg (Builtin.len_ #[22] 3 #[a0]) w fun t8_1 =>
  pur Pg (binOp Go.BinOp.sub 3 a1 t8_1) fun t9_2 =>
  pur Pg (binOp Go.BinOp.lss 3 t9_2 (Go.Value.int Go.IntKind.i64 0)) fun t11_3 =>
  ifB t11_3 (K (Go.Value.int Go.IntKind.i64 (-1)) w)
  (loopS (fun N4 g5 s6 w =>
  rd Pg (Builtin.len_ #[22] 3 #[a0]) w fun t14_7 =>
  pur Pg (binOp Go.BinOp.lss 3 (nth s6 1) t14_7) fun t15_8 =>
  ifB t15_8 (pur Pg (Instr.indexAt 22 a0 (nth s6 1)) fun t21_9 =>
  rd Pg (Instr.loadAt 9 t21_9) w fun t22_10 =>
  rd Pg (Builtin.len_ #[9] 3 #[t22_10]) w fun t23_11 =>
  pur Pg (binOp Go.BinOp.sub 3 (nth s6 0) t23_11) fun t24_12 =>
  pur Pg (binOp Go.BinOp.lss 3 t24_12 (Go.Value.int Go.IntKind.i64 0)) fun t26_13 =>
  ifB t26_13 (K (Go.Value.int Go.IntKind.i64 (-1)) w)
  (pur Pg (binOp Go.BinOp.add 3 (nth s6 1) (Go.Value.int Go.IntKind.i64 1)) fun t17_14 =>
  N4 [t24_12, t17_14] w))
  (K (nth s6 0) w)) [t9_2, (Go.Value.int Go.IntKind.i64 0)] w)
theorem eq_laws_szStringS : ∀ (a0 a1 : Value) (w : World) (K : Value → World → Prop), S_laws_szStringS a0 a1 w K = codeS Pg (Try.f15.body.getD .skip) ann_laws_szStringS (topX Pg Try.f15.results K) (fun t => Array.getD #[a0, a1] t undef) w := by
  intro a0 a1 w K
  kernel_rfl
theorem call_laws_szStringS (a0 a1 : Value) (w : World) (K : Value → World → Prop) (h : S_laws_szStringS a0 a1 w K) : callS Pg n_laws_szStringS #[a0, a1] w K :=
  callS_of mixed Try.func15 (c := Try.f15.body.getD .skip) (by kernel_rfl) (by kernel_rfl) (ann := ann_laws_szStringS) (by kernel_rfl) (Nat.le_of_ble_eq_true (by kernel_rfl)) (by rw [← eq_laws_szStringS]; exact h)

-- loop.example/g01165/spec.l01Is
def ann_l01Is : Ann :=
  (.seq none (.reg [⟨none, [], [0]⟩] [])
  (.seq none (.seq none (.reg [⟨none, [], [0, 1, 2, 3, 4, 5, 6, 7]⟩, ⟨some (7, false), [21], [8, 9, 10, 11, 12, 13, 14, 15, 16]⟩, ⟨none, [], [17]⟩] [])
  (.cond (.seq none (.reg [⟨none, [], [0]⟩] [])
  .leaf)
  .leaf))
  (.seq none (.seq none (.reg [⟨none, [], [0]⟩] [])
  (.sub (.loop [3] [23, 24, 25, 26, 27, 28, 29, 32, 33, 34, 35, 36, 37, 38, 39, 40, 41, 42, 43, 44, 45, 46, 47, 2, 4, 48, 49, 50, 51, 52, 53, 54, 55, 56, 57, 60, 61, 62, 63, 64, 65, 66, 67, 68, 69, 70, 71, 72, 73, 74, 75, 76, 77, 78, 79, 80, 81, 58, 59, 30, 31, 3]
  (.seq none (.seq none (.reg [⟨none, [], [0, 1, 2, 3, 4, 5, 6]⟩] [])
  (.cond .leaf
  .leaf))
  (.seq none (.sub (.seq none (.seq none (.reg [⟨none, [], [0, 1, 2, 3, 4, 5, 6, 7, 8, 9, 10, 11, 12, 13, 14, 15]⟩] [])
  (.cond (.seq none (.reg [⟨none, [], [0]⟩] [])
  .leaf)
  .leaf))
  (.seq none (.reg [⟨none, [], [0]⟩] [])
  (.sub (.loop [4] [48, 49, 50, 51, 52, 53, 54, 55, 56, 57, 60, 61, 62, 63, 64, 65, 66, 67, 68, 69, 70, 71, 72, 73, 74, 75, 76, 77, 78, 79, 80, 81, 2, 58, 59, 4]
  (.seq none (.seq none (.reg [⟨none, [], [0, 1, 2, 3, 4, 5, 6, 7, 8, 9]⟩] [])
  (.cond .leaf
  .leaf))
  (.seq none (.sub (.seq none (.reg [⟨none, [], [0, 1, 2, 3, 4, 5, 6, 7, 8, 9, 10]⟩, ⟨some (10, true), [80], [11, 12, 13, 14, 15, 16, 17, 18, 19, 20]⟩, ⟨none, [], [21]⟩] [])
  (.cond (.seq none (.reg [⟨none, [], [0]⟩] [])
  .leaf)
  .leaf)))
  (.reg [⟨none, [], [0, 1, 2]⟩] []))))))))
  (.reg [⟨none, [], [0, 1, 2]⟩] []))))))
  (.seq none (.reg [⟨none, [], [0]⟩] [])
  .leaf))))
def S_l01Is (a0 : Value) (w : World) (K : Value → World → Prop) : Prop :=
  nilS a0 fun t6_1 =>
  pur Pg (Instr.fieldAt 28 t6_1 0) fun t7_2 =>
  rd Pg (Instr.loadAt 22 t7_2) w fun t8_3 =>
  rd Pg (Builtin.len_ #[22] 3 #[t8_3]) w fun t9_4 =>
  callS Pg n_l01Side #[t9_4] w fun t10_5 w =>
  pur Pg (Op.unary Go.UnOp.not t10_5) fun t11_6 =>
  joinS (fun g7 s8 w =>
  pickS t11_6 (Go.Value.bool Bool.true) (nth s8 0) fun t22_10 =>
  ifB t22_10 (K (Go.Value.bool Bool.false) w)
  (loopS (fun N11 g12 s13 w =>
  nilS a0 fun t25_14 =>
  pur Pg (Instr.fieldAt 28 t25_14 0) fun t26_15 =>
  rd Pg (Instr.loadAt 22 t26_15) w fun t27_16 =>
  rd Pg (Builtin.len_ #[22] 3 #[t27_16]) w fun t28_17 =>
  pur Pg (binOp Go.BinOp.lss 3 (nth s13 0) t28_17) fun t29_18 =>
  ifB t29_18 (drawS w fun w =>
  nilS a0 fun t33_19 =>
  pur Pg (Instr.fieldAt 28 t33_19 0) fun t34_20 =>
  rd Pg (Instr.loadAt 22 t34_20) w fun t35_21 =>
  pur Pg (Instr.indexAt 22 t35_21 (nth s13 0)) fun t37_22 =>
  rd Pg (Instr.loadAt 9 t37_22) w fun t38_23 =>
  rd Pg (Builtin.len_ #[9] 3 #[t38_23]) w fun t39_24 =>
  nilS a0 fun t41_25 =>
  pur Pg (Instr.fieldAt 28 t41_25 0) fun t42_26 =>
  rd Pg (Instr.loadAt 22 t42_26) w fun t43_27 =>
  pur Pg (Instr.indexAt 22 t43_27 (Go.Value.int Go.IntKind.i64 0)) fun t44_28 =>
  rd Pg (Instr.loadAt 9 t44_28) w fun t45_29 =>
  rd Pg (Builtin.len_ #[9] 3 #[t45_29]) w fun t46_30 =>
  rd Pg (binSem Go.BinOp.neq 3 (Go.Operand.tmp 39) (Go.Operand.tmp 46) t39_24 t46_30) w fun t47_31 =>
  ifB t47_31 (K (Go.Value.bool Bool.false) w)
  (loopS (fun N32 g33 s34 w =>
  nilS a0 fun t50_35 =>
  pur Pg (Instr.fieldAt 28 t50_35 0) fun t51_36 =>
  rd Pg (Instr.loadAt 22 t51_36) w fun t52_37 =>
  pur Pg (Instr.indexAt 22 t52_37 (nth s13 0)) fun t54_38 =>
  rd Pg (Instr.loadAt 9 t54_38) w fun t55_39 =>
  rd Pg (Builtin.len_ #[9] 3 #[t55_39]) w fun t56_40 =>
  pur Pg (binOp Go.BinOp.lss 3 (nth s34 0) t56_40) fun t57_41 =>
  ifB t57_41 (nilS a0 fun t61_42 =>
  pur Pg (Instr.fieldAt 28 t61_42 0) fun t62_43 =>
  rd Pg (Instr.loadAt 22 t62_43) w fun t63_44 =>
  pur Pg (Instr.indexAt 22 t63_44 (nth s13 0)) fun t65_45 =>
  rd Pg (Instr.loadAt 9 t65_45) w fun t66_46 =>
  pur Pg (Instr.index 9 t66_46 (nth s34 0)) fun t68_47 =>
  rd Pg (binSem Go.BinOp.neq 5 (Go.Operand.tmp 68) (Go.Operand.const (Go.Value.int Go.IntKind.u8 35)) t68_47 (Go.Value.int Go.IntKind.u8 35)) w fun t69_48 =>
  joinS (fun g49 s50 w =>
  pickS t69_48 (nth s50 0) (Go.Value.bool Bool.false) fun t81_52 =>
  ifB t81_52 (K (Go.Value.bool Bool.false) w)
  (pur Pg (binOp Go.BinOp.add 3 (nth s34 0) (Go.Value.int Go.IntKind.i64 1)) fun t59_53 =>
  N32 [t59_53] w)) fun J51 =>
  ifG t69_48 true (nilS a0 fun t72_54 =>
  pur Pg (Instr.fieldAt 28 t72_54 0) fun t73_55 =>
  rd Pg (Instr.loadAt 22 t73_55) w fun t74_56 =>
  pur Pg (Instr.indexAt 22 t74_56 (nth s13 0)) fun t76_57 =>
  rd Pg (Instr.loadAt 9 t76_57) w fun t77_58 =>
  pur Pg (Instr.index 9 t77_58 (nth s34 0)) fun t79_59 =>
  rd Pg (binSem Go.BinOp.neq 5 (Go.Operand.tmp 79) (Go.Operand.const (Go.Value.int Go.IntKind.u8 46)) t79_59 (Go.Value.int Go.IntKind.u8 46)) w fun t80_60 =>
  J51 [t80_60] w)
  (J51 [undef] w))
  (pur Pg (binOp Go.BinOp.add 3 (nth s13 0) (Go.Value.int Go.IntKind.i64 1)) fun t31_61 =>
  N11 [t31_61] w)) [(Go.Value.int Go.IntKind.i64 0)] w))
  (K (Go.Value.bool Bool.true) w)) [(Go.Value.int Go.IntKind.i64 0)] w)) fun J9 =>
  ifG t11_6 false (nilS a0 fun t14_62 =>
  pur Pg (Instr.fieldAt 28 t14_62 0) fun t15_63 =>
  rd Pg (Instr.loadAt 22 t15_63) w fun t16_64 =>
  pur Pg (Instr.indexAt 22 t16_64 (Go.Value.int Go.IntKind.i64 0)) fun t17_65 =>
  rd Pg (Instr.loadAt 9 t17_65) w fun t18_66 =>
  rd Pg (Builtin.len_ #[9] 3 #[t18_66]) w fun t19_67 =>
  callS Pg n_l01Side #[t19_67] w fun t20_68 w =>
  pur Pg (Op.unary Go.UnOp.not t20_68) fun t21_69 =>
  J9 [t21_69] w)
  (J9 [undef] w)
theorem eq_l01Is : ∀ (a0 : Value) (w : World) (K : Value → World → Prop), S_l01Is a0 w K = codeS Pg (Try.f16.body.getD .skip) ann_l01Is (topX Pg Try.f16.results K) (fun t => Array.getD #[a0] t undef) w := by
  intro a0 w K
  kernel_rfl
theorem call_l01Is (a0 : Value) (w : World) (K : Value → World → Prop) (h : S_l01Is a0 w K) : callS Pg n_l01Is #[a0] w K :=
  callS_of mixed Try.func16 (c := Try.f16.body.getD .skip) (by kernel_rfl) (by kernel_rfl) (ann := ann_l01Is) (by kernel_rfl) (Nat.le_of_ble_eq_true (by kernel_rfl)) (by rw [← eq_l01Is]; exact h)

-- loop.example/g01165/spec.l05Tree
def ann_l05Tree : Ann :=
  (.seq none (.reg [⟨none, [], [0, 1]⟩] [])
  (.seq none (.reg [⟨none, [], [0, 1, 2, 3]⟩] [])
  (.seq none (.reg [⟨none, [], [0, 1, 2, 3, 4, 5, 6, 7, 8, 9]⟩] [])
  .leaf)))
def S_l05Tree (a0 : Value) (w : World) (K : Value → World → Prop) : Prop :=
  callS Pg n_l05Pad #[a0] w fun t6_1 w =>
  eff Pg (Instr.alloc 28 true (.tuple #[])) w fun t4_2 w =>
  effU Pg (Instr.storeAt 28 t4_2 t6_1) w fun w =>
  pur Pg (Instr.build 50 #[]) fun t7_3 =>
  callS Pg n_l01Width #[t4_2] w fun t8_4 w =>
  callS Pg n_l01Height #[t4_2] w fun t9_5 w =>
  pur Pg (binOp Go.BinOp.mul 2 t8_4 t9_5) fun t10_6 =>
  eff Pg (Instr.makeSlice 51 t10_6 t10_6) w fun t11_7 w =>
  callS Pg n_l05Node #[t4_2, t7_3, (Go.Value.bool Bool.false), t11_7] w fun t12_8 w =>
  pur Pg (Instr.extract t12_8 0) fun t13_9 =>
  pur Pg (Instr.extract t12_8 1) fun t14_10 =>
  K (Value.tuple #[t13_9, t14_10]) w
theorem eq_l05Tree : ∀ (a0 : Value) (w : World) (K : Value → World → Prop), S_l05Tree a0 w K = codeS Pg (Try.f17.body.getD .skip) ann_l05Tree (topX Pg Try.f17.results K) (fun t => Array.getD #[a0] t undef) w := by
  intro a0 w K
  kernel_rfl
theorem call_l05Tree (a0 : Value) (w : World) (K : Value → World → Prop) (h : S_l05Tree a0 w K) : callS Pg n_l05Tree #[a0] w K :=
  callS_of mixed Try.func17 (c := Try.f17.body.getD .skip) (by kernel_rfl) (by kernel_rfl) (ann := ann_l05Tree) (by kernel_rfl) (Nat.le_of_ble_eq_true (by kernel_rfl)) (by rw [← eq_l05Tree]; exact h)

-- loop.example/g01165/laws.toStringS
def ann_laws_toStringS : Ann :=
  (.seq none (.reg [⟨none, [], [0]⟩] [])
  (.seq none (.reg [⟨none, [], [0, 1, 2, 3]⟩] [])
  (.seq none (.seq none (.reg [⟨none, [], [0]⟩] [])
  (.sub (.loop [4] [8, 9, 10, 11, 14, 15, 16, 17, 18, 19, 20, 12, 13, 4]
  (.seq none (.seq none (.reg [⟨none, [], [0, 1, 2, 3]⟩] [])
  (.cond .leaf
  .leaf))
  (.seq none (.sub (.reg [⟨none, [], [0, 1, 2, 3, 4, 5, 6, 7]⟩] []))
  (.reg [⟨none, [], [0, 1, 2]⟩] []))))))
  (.seq none (.reg [⟨none, [], [0, 1]⟩] [])
  .leaf))))
def S_laws_toStringS (a0 : Value) (w : World) (K : Value → World → Prop) : Prop :=
  rd Pg (Builtin.len_ #[22] 3 #[a0]) w fun t6_1 =>
  eff Pg (Instr.makeSlice 22 t6_1 t6_1) w fun t7_2 w =>
  loopS (fun N3 g4 s5 w =>
  rd Pg (Builtin.len_ #[22] 3 #[a0]) w fun t10_6 =>
  pur Pg (binOp Go.BinOp.lss 3 (nth s5 0) t10_6) fun t11_7 =>
  ifB t11_7 (pur Pg (Instr.indexAt 22 a0 (nth s5 0)) fun t18_8 =>
  rd Pg (Instr.loadAt 9 t18_8) w fun t19_9 =>
  pur Pg (Instr.indexAt 22 t7_2 (nth s5 0)) fun t20_10 =>
  effU Pg (Instr.storeAt 9 t20_10 t19_9) w fun w =>
  pur Pg (binOp Go.BinOp.add 3 (nth s5 0) (Go.Value.int Go.IntKind.i64 1)) fun t13_11 =>
  N3 [t13_11] w)
  (K t7_2 w)) [(Go.Value.int Go.IntKind.i64 0)] w
theorem eq_laws_toStringS : ∀ (a0 : Value) (w : World) (K : Value → World → Prop), S_laws_toStringS a0 w K = codeS Pg (Try.f18.body.getD .skip) ann_laws_toStringS (topX Pg Try.f18.results K) (fun t => Array.getD #[a0] t undef) w := by
  intro a0 w K
  kernel_rfl
theorem call_laws_toStringS (a0 : Value) (w : World) (K : Value → World → Prop) (h : S_laws_toStringS a0 w K) : callS Pg n_laws_toStringS #[a0] w K :=
  callS_of mixed Try.func18 (c := Try.f18.body.getD .skip) (by kernel_rfl) (by kernel_rfl) (ann := ann_laws_toStringS) (by kernel_rfl) (Nat.le_of_ble_eq_true (by kernel_rfl)) (by rw [← eq_laws_toStringS]; exact h)

-- loop.example/g01165/impl.imageOf
def ann_imageOf : Ann :=
  (.seq none (.reg [⟨none, [], [0, 1, 2]⟩] [])
  (.seq none (.seq none (.reg [⟨none, [], [0, 1, 2, 3, 4]⟩, ⟨some (4, false), [22], [5, 6, 7, 8, 9, 10, 11, 12, 13, 14]⟩, ⟨none, [], [15]⟩] [])
  (.cond (.seq none (.reg [⟨none, [], [0, 1]⟩] [])
  .leaf)
  .leaf))
  (.seq none (.reg [⟨none, [], [0, 1, 2, 3, 4, 5, 6, 7, 8, 9]⟩] [])
  (.seq none (.seq none (.reg [⟨none, [], [0, 1, 2, 3]⟩] [])
  (.sub (.loop [36] [37, 38, 39, 40, 5, 6, 41, 42, 43, 44, 45, 46, 47, 2, 3, 48, 49, 50, 51, 52, 7, 53, 54, 55, 56, 57, 58, 59, 60, 61, 62, 63, 64, 65, 66, 67, 68, 69, 70, 71, 72, 36]
  (.seq none (.reg [⟨none, [], [0]⟩] [])
  (.seq none (.cond .leaf
  .leaf)
  (.seq none (.sub (.seq none (.reg [⟨none, [], [0, 1, 2, 3, 4]⟩] [])
  (.seq none (.seq none (.reg [⟨none, [], [0, 1, 2, 3, 4, 5, 6]⟩] [])
  (.cond (.seq none (.reg [⟨none, [], [0, 1]⟩] [])
  .leaf)
  .leaf))
  (.seq none (.reg [⟨none, [], [0, 1, 2]⟩] [])
  (.sub (.loop [50] [51, 52, 7, 53, 54, 55, 56, 57, 58, 59, 60, 61, 62, 2, 3, 63, 64, 65, 66, 67, 68, 69, 70, 71, 50]
  (.seq none (.reg [⟨none, [], [0]⟩] [])
  (.seq none (.cond .leaf
  .leaf)
  (.seq none (.sub (.seq none (.reg [⟨none, [], [0, 1]⟩] [])
  (.seq none (.seq none (.reg [⟨none, [], [0, 1, 2, 3, 4]⟩, ⟨some (4, true), [61], [5, 6, 7, 8]⟩, ⟨none, [], [9]⟩] [])
  (.cond (.seq none (.reg [⟨none, [], [0, 1]⟩] [])
  .leaf)
  .leaf))
  (.reg [⟨none, [], [0, 1, 2, 3, 4, 5, 6, 7]⟩] []))))
  (.reg [⟨none, [], [0, 1]⟩] []))))))))))
  (.reg [⟨none, [], [0, 1]⟩] [])))))))
  (.seq none (.reg [⟨none, [], [0, 1, 2]⟩] [])
  .leaf)))))
def S_imageOf (a0 : Value) (w : World) (K : Value → World → Prop) : Prop :=
  eff Pg (Instr.box 28 a0) w fun t1_1 w =>
  drawS w fun w =>
  pur Pg (Instr.fieldAt 28 t1_1 0) fun t8_2 =>
  rd Pg (Instr.loadAt 22 t8_2) w fun t9_3 =>
  rd Pg (Builtin.len_ #[22] 3 #[t9_3]) w fun t10_4 =>
  rd Pg (binSem Go.BinOp.eql 3 (Go.Operand.tmp 10) (Go.Operand.const (Go.Value.int Go.IntKind.i64 0)) t10_4 (Go.Value.int Go.IntKind.i64 0)) w fun t11_5 =>
  joinS (fun g6 s7 w =>
  pickS t11_5 (Go.Value.bool Bool.true) (nth s7 0) fun t23_9 =>
  ifB t23_9 (K (Value.tuple #[(Go.Value.pointer Option.none), (Go.Value.bool Bool.false)]) w)
  (drawS w fun w =>
  pur Pg (Instr.fieldAt 28 t1_1 0) fun t24_10 =>
  rd Pg (Instr.loadAt 22 t24_10) w fun t25_11 =>
  pur Pg (Instr.indexAt 22 t25_11 (Go.Value.int Go.IntKind.i64 0)) fun t26_12 =>
  rd Pg (Instr.loadAt 9 t26_12) w fun t27_13 =>
  rd Pg (Builtin.len_ #[9] 3 #[t27_13]) w fun t28_14 =>
  pur Pg (Instr.fieldAt 28 t1_1 0) fun t29_15 =>
  rd Pg (Instr.loadAt 22 t29_15) w fun t30_16 =>
  rd Pg (Builtin.len_ #[22] 3 #[t30_16]) w fun t31_17 =>
  callS Pg n_blank #[t28_14, t31_17] w fun t32_18 w =>
  pur Pg (Instr.fieldAt 28 t1_1 0) fun t33_19 =>
  rd Pg (Instr.loadAt 22 t33_19) w fun t34_20 =>
  rd Pg (Builtin.len_ #[22] 3 #[t34_20]) w fun t35_21 =>
  loopS (fun N22 g23 s24 w =>
  pur Pg (binOp Go.BinOp.lss 3 (nth s24 0) t35_21) fun t37_25 =>
  ifB t37_25 (pur Pg (Instr.indexAt 22 t34_20 (nth s24 0)) fun t39_26 =>
  rd Pg (Instr.loadAt 9 t39_26) w fun t40_27 =>
  rd Pg (Builtin.len_ #[9] 3 #[t40_27]) w fun t42_28 =>
  nilS t32_18 fun t44_29 =>
  pur Pg (Instr.fieldAt 56 t44_29 0) fun t45_30 =>
  rd Pg (Instr.loadAt 2 t45_30) w fun t46_31 =>
  rd Pg (binSem Go.BinOp.neq 2 (Go.Operand.tmp 42) (Go.Operand.tmp 46) t42_28 t46_31) w fun t47_32 =>
  ifB t47_32 (K (Value.tuple #[(Go.Value.pointer Option.none), (Go.Value.bool Bool.false)]) w)
  (rd Pg (Builtin.len_ #[9] 3 #[t40_27]) w fun t49_33 =>
  loopS (fun N34 g35 s36 w =>
  pur Pg (binOp Go.BinOp.lss 3 (nth s36 0) t49_33) fun t51_37 =>
  ifB t51_37 (pur Pg (Instr.index 9 t40_27 (nth s36 0)) fun t55_38 =>
  rd Pg (binSem Go.BinOp.neq 5 (Go.Operand.tmp 55) (Go.Operand.const (Go.Value.int Go.IntKind.u8 35)) t55_38 (Go.Value.int Go.IntKind.u8 35)) w fun t56_39 =>
  joinS (fun g40 s41 w =>
  pickS t56_39 (nth s41 0) (Go.Value.bool Bool.false) fun t62_43 =>
  ifB t62_43 (K (Value.tuple #[(Go.Value.pointer Option.none), (Go.Value.bool Bool.false)]) w)
  (pur Pg (Instr.index 9 t40_27 (nth s36 0)) fun t68_44 =>
  rd Pg (binSem Go.BinOp.eql 5 (Go.Operand.tmp 68) (Go.Operand.const (Go.Value.int Go.IntKind.u8 35)) t68_44 (Go.Value.int Go.IntKind.u8 35)) w fun t69_45 =>
  callS Pg n_image_set #[t32_18, (nth s36 0), (nth s24 0), t69_45] w fun t70_46 w =>
  pur Pg (binOp Go.BinOp.add 3 (nth s36 0) (Go.Value.int Go.IntKind.i64 1)) fun t71_47 =>
  N34 [t71_47] w)) fun J42 =>
  ifG t56_39 true (pur Pg (Instr.index 9 t40_27 (nth s36 0)) fun t60_48 =>
  rd Pg (binSem Go.BinOp.neq 5 (Go.Operand.tmp 60) (Go.Operand.const (Go.Value.int Go.IntKind.u8 46)) t60_48 (Go.Value.int Go.IntKind.u8 46)) w fun t61_49 =>
  J42 [t61_49] w)
  (J42 [undef] w))
  (pur Pg (binOp Go.BinOp.add 3 (nth s24 0) (Go.Value.int Go.IntKind.i64 1)) fun t72_50 =>
  N22 [t72_50] w)) [(Go.Value.int Go.IntKind.i64 0)] w))
  (K (Value.tuple #[t32_18, (Go.Value.bool Bool.true)]) w)) [(Go.Value.int Go.IntKind.i64 0)] w)) fun J8 =>
  ifG t11_5 false (pur Pg (Instr.fieldAt 28 t1_1 0) fun t13_51 =>
  rd Pg (Instr.loadAt 22 t13_51) w fun t14_52 =>
  pur Pg (Instr.indexAt 22 t14_52 (Go.Value.int Go.IntKind.i64 0)) fun t15_53 =>
  rd Pg (Instr.loadAt 9 t15_53) w fun t16_54 =>
  rd Pg (Builtin.len_ #[9] 3 #[t16_54]) w fun t17_55 =>
  pur Pg (Instr.fieldAt 28 t1_1 0) fun t18_56 =>
  rd Pg (Instr.loadAt 22 t18_56) w fun t19_57 =>
  rd Pg (Builtin.len_ #[22] 3 #[t19_57]) w fun t20_58 =>
  callS Pg n_sizeOk #[t17_55, t20_58] w fun t21_59 w =>
  pur Pg (Op.unary Go.UnOp.not t21_59) fun t22_60 =>
  J8 [t22_60] w)
  (J8 [undef] w)
theorem eq_imageOf : ∀ (a0 : Value) (w : World) (K : Value → World → Prop), S_imageOf a0 w K = codeS Pg (Try.f19.body.getD .skip) ann_imageOf (topX Pg Try.f19.results K) (fun t => Array.getD #[a0] t undef) w := by
  intro a0 w K
  kernel_rfl
theorem call_imageOf (a0 : Value) (w : World) (K : Value → World → Prop) (h : S_imageOf a0 w K) : callS Pg n_imageOf #[a0] w K :=
  callS_of mixed Try.func19 (c := Try.f19.body.getD .skip) (by kernel_rfl) (by kernel_rfl) (ann := ann_imageOf) (by kernel_rfl) (Nat.le_of_ble_eq_true (by kernel_rfl)) (by rw [← eq_imageOf]; exact h)

-- (*loop.example/g01165/impl.image).tree
def ann_image_tree : Ann :=
  (.seq none (.reg [⟨none, [], [0, 1]⟩] [])
  (.seq none (.reg [⟨none, [], [0, 1, 2, 3]⟩] [])
  (.seq none (.reg [⟨none, [], [0, 1, 2, 3, 4]⟩] [])
  (.seq none (.reg [⟨none, [], [0, 1]⟩] [])
  (.seq none (.seq none (.reg [⟨none, [], [0, 1]⟩] [])
  (.sub (.loop [] [17, 18, 19, 20, 7, 21, 22]
  (.seq none (.reg [⟨none, [], [0, 1]⟩] [])
  (.seq none (.cond .leaf
  .leaf)
  (.sub (.seq none (.reg [⟨none, [], [0, 1, 2, 3]⟩] [])
  (.reg [⟨none, [], [0, 1, 2]⟩] []))))))))
  (.seq none (.reg [⟨none, [], [0, 1, 2, 3, 4, 5, 6, 7]⟩] [])
  .leaf))))))
def S_image_tree (a0 : Value) (w : World) (K : Value → World → Prop) : Prop :=
  callS Pg n_image_framed #[a0] w fun t9_1 w =>
  eff Pg (Instr.alloc 41 true (.tuple #[])) w fun t4_2 w =>
  effU Pg (Instr.storeAt 41 t4_2 t9_1) w fun w =>
  pur Pg (Instr.build 50 #[]) fun t10_3 =>
  eff Pg (Instr.buildSlice 61 1 #[(0, t10_3)]) w fun t11_4 w =>
  callS Pg n_spread #[t11_4, (Go.Value.bool Bool.false), (Value.func (.func n_image_tree_1) #[] #[t4_2])] w fun t13_5 w =>
  eff Pg (Instr.makeMap 59 none) w fun t14_6 w =>
  eff Pg (Instr.range 59 t13_5) w fun t16_7 w =>
  loopS (fun N8 g9 s10 w =>
  eff Pg (Instr.next t16_7 Bool.false 0) w fun t17_11 w =>
  pur Pg (Instr.extract t17_11 0) fun t18_12 =>
  ifB t18_12 (eff Pg (Instr.entry t16_7) w fun t19_13 w =>
  pur Pg (Instr.extract t19_13 0) fun t20_14 =>
  eff Pg (Instr.alloc 50 true (.tuple #[])) w fun t7_15 w =>
  effU Pg (Instr.storeAt 50 t7_15 t20_14) w fun w =>
  rd Pg (Instr.loadAt 50 t7_15) w fun t22_16 =>
  effU Pg (Instr.mapUpdate 59 t14_6 t22_16 (Go.Value.bool Bool.true)) w fun w =>
  N8 [] w)
  (rd Pg (Instr.loadAt 41 t4_2) w fun t23_17 =>
  callS Pg n_image_below #[t23_17, t13_5, (Go.Value.bool Bool.false), t14_6] w fun t26_18 w =>
  pur Pg (Instr.extract t26_18 0) fun t27_19 =>
  pur Pg (Instr.extract t26_18 1) fun t28_20 =>
  K (Value.tuple #[t27_19, t28_20]) w)) [] w
theorem eq_image_tree : ∀ (a0 : Value) (w : World) (K : Value → World → Prop), S_image_tree a0 w K = codeS Pg (Try.f20.body.getD .skip) ann_image_tree (topX Pg Try.f20.results K) (fun t => Array.getD #[a0] t undef) w := by
  intro a0 w K
  kernel_rfl
theorem call_image_tree (a0 : Value) (w : World) (K : Value → World → Prop) (h : S_image_tree a0 w K) : callS Pg n_image_tree #[a0] w K :=
  callS_of mixed Try.func20 (c := Try.f20.body.getD .skip) (by kernel_rfl) (by kernel_rfl) (ann := ann_image_tree) (by kernel_rfl) (Nat.le_of_ble_eq_true (by kernel_rfl)) (by rw [← eq_image_tree]; exact h)

-- loop.example/g01165/laws.eqStringS
def ann_laws_eqStringS : Ann :=
  (.seq none (.reg [⟨none, [], [0]⟩] [])
  (.seq none (.seq none (.reg [⟨none, [], [0, 1, 2, 3, 4]⟩] [])
  (.cond (.seq none (.reg [⟨none, [], [0]⟩] [])
  .leaf)
  .leaf))
  (.seq none (.seq none (.reg [⟨none, [], [0]⟩] [])
  (.sub (.loop [5] [11, 12, 13, 14, 17, 18, 19, 20, 21, 22, 23, 24, 25, 4, 15, 16, 5]
  (.seq none (.seq none (.reg [⟨none, [], [0, 1, 2, 3]⟩] [])
  (.cond .leaf
  .leaf))
  (.seq none (.sub (.seq none (.reg [⟨none, [], [0, 1, 2, 3, 4, 5, 6, 7, 8]⟩] [])
  (.cond (.seq none (.reg [⟨none, [], [0]⟩] [])
  .leaf)
  .leaf)))
  (.reg [⟨none, [], [0, 1, 2]⟩] []))))))
  (.seq none (.reg [⟨none, [], [0]⟩] [])
  .leaf))))
def S_laws_eqStringS (a0 a1 : Value) (w : World) (K : Value → World → Prop) : Prop :=
  rd Pg (Builtin.len_ #[22] 3 #[a0]) w fun t7_1 =>
  rd Pg (Builtin.len_ #[22] 3 #[a1]) w fun t9_2 =>
  rd Pg (binSem Go.BinOp.neq 3 (Go.Operand.tmp 7) (Go.Operand.tmp 9) t7_1 t9_2) w fun t10_3 =>
  ifB t10_3 (K (Go.Value.bool Bool.false) w)
  (loopS (fun N4 g5 s6 w =>
  rd Pg (Builtin.len_ #[22] 3 #[a0]) w fun t13_7 =>
  pur Pg (binOp Go.BinOp.lss 3 (nth s6 0) t13_7) fun t14_8 =>
  ifB t14_8 (drawS w fun w =>
  pur Pg (Instr.indexAt 22 a0 (nth s6 0)) fun t19_9 =>
  rd Pg (Instr.loadAt 9 t19_9) w fun t20_10 =>
  pur Pg (Instr.indexAt 22 a1 (nth s6 0)) fun t23_11 =>
  rd Pg (Instr.loadAt 9 t23_11) w fun t24_12 =>
  rd Pg (binSem Go.BinOp.neq 9 (Go.Operand.tmp 20) (Go.Operand.tmp 24) t20_10 t24_12) w fun t25_13 =>
  ifB t25_13 (K (Go.Value.bool Bool.false) w)
  (pur Pg (binOp Go.BinOp.add 3 (nth s6 0) (Go.Value.int Go.IntKind.i64 1)) fun t16_14 =>
  N4 [t16_14] w))
  (K (Go.Value.bool Bool.true) w)) [(Go.Value.int Go.IntKind.i64 0)] w)
theorem eq_laws_eqStringS : ∀ (a0 a1 : Value) (w : World) (K : Value → World → Prop), S_laws_eqStringS a0 a1 w K = codeS Pg (Try.f21.body.getD .skip) ann_laws_eqStringS (topX Pg Try.f21.results K) (fun t => Array.getD #[a0, a1] t undef) w := by
  intro a0 a1 w K
  kernel_rfl
theorem call_laws_eqStringS (a0 a1 : Value) (w : World) (K : Value → World → Prop) (h : S_laws_eqStringS a0 a1 w K) : callS Pg n_laws_eqStringS #[a0, a1] w K :=
  callS_of mixed Try.func21 (c := Try.f21.body.getD .skip) (by kernel_rfl) (by kernel_rfl) (ann := ann_laws_eqStringS) (by kernel_rfl) (Nat.le_of_ble_eq_true (by kernel_rfl)) (by rw [← eq_laws_eqStringS]; exact h)

-- loop.example/g01165/spec.l01Side
def ann_l01Side : Ann :=
  (.seq none (.reg [⟨none, [], [0]⟩] [])
  (.seq none (.reg [⟨none, [], [0, 1, 2]⟩] [])
  .leaf))
def S_l01Side (a0 : Value) (w : World) (K : Value → World → Prop) : Prop :=
  callS Pg n_l00In #[a0, (Go.Value.int Go.IntKind.i64 1), (Go.Value.int Go.IntKind.i64 16)] w fun t4_1 w =>
  K t4_1 w
theorem eq_l01Side : ∀ (a0 : Value) (w : World) (K : Value → World → Prop), S_l01Side a0 w K = codeS Pg (Try.f22.body.getD .skip) ann_l01Side (topX Pg Try.f22.results K) (fun t => Array.getD #[a0] t undef) w := by
  intro a0 w K
  kernel_rfl
theorem call_l01Side (a0 : Value) (w : World) (K : Value → World → Prop) (h : S_l01Side a0 w K) : callS Pg n_l01Side #[a0] w K :=
  callS_of mixed Try.func22 (c := Try.f22.body.getD .skip) (by kernel_rfl) (by kernel_rfl) (ann := ann_l01Side) (by kernel_rfl) (Nat.le_of_ble_eq_true (by kernel_rfl)) (by rw [← eq_l01Side]; exact h)

-- loop.example/g01165/spec.l05Pad
def ann_l05Pad : Ann :=
  (.seq none (.reg [⟨none, [], [0]⟩] [])
  (.seq none (.reg [⟨none, [], [0, 1, 2, 3]⟩] [])
  (.seq none (.reg [⟨none, [], [0, 1]⟩] [])
  (.seq none (.seq none (.reg [⟨none, [], [0]⟩] [])
  (.sub (.loop [4, 5] [11, 12, 13, 14, 6, 17, 18, 19, 20, 23, 24, 25, 26, 27, 28, 29, 4, 21, 22, 15, 16, 5]
  (.seq none (.seq none (.reg [⟨none, [], [0, 1, 2, 3]⟩] [])
  (.cond .leaf
  .leaf))
  (.seq none (.sub (.seq none (.reg [⟨none, [], [0]⟩] [])
  (.sub (.loop [4, 6] [17, 18, 19, 20, 23, 24, 25, 26, 27, 28, 29, 4, 21, 22, 6]
  (.seq none (.seq none (.reg [⟨none, [], [0, 1, 2, 3]⟩] [])
  (.cond .leaf
  .leaf))
  (.seq none (.sub (.reg [⟨none, [], [0, 1, 2, 3, 4, 5, 6, 7]⟩] []))
  (.reg [⟨none, [], [0, 1, 2]⟩] [])))))))
  (.reg [⟨none, [], [0, 1, 2]⟩] []))))))
  (.seq none (.reg [⟨none, [], [0, 1, 2, 3]⟩] [])
  .leaf)))))
def S_l05Pad (a0 : Value) (w : World) (K : Value → World → Prop) : Prop :=
  eff Pg (Instr.alloc 28 true (.tuple #[])) w fun t2_1 w =>
  callS Pg n_l01Width #[a0] w fun t8_2 w =>
  pur Pg (binOp Go.BinOp.add 2 t8_2 (Go.Value.int Go.IntKind.i64 2)) fun t9_3 =>
  eff Pg (Instr.buildSlice 51 0 #[]) w fun t10_4 w =>
  loopS (fun N5 g6 s7 w =>
  callS Pg n_l01Height #[a0] w fun t13_8 w =>
  pur Pg (binOp Go.BinOp.leq 2 (nth s7 1) t13_8) fun t14_9 =>
  ifB t14_9 (loopS (fun N10 g11 s12 w =>
  pur Pg (binOp Go.BinOp.sub 2 t9_3 (Go.Value.int Go.IntKind.i64 1)) fun t19_13 =>
  pur Pg (binOp Go.BinOp.lss 2 (nth s12 1) t19_13) fun t20_14 =>
  ifB t20_14 (callS Pg n_l01Black #[a0, (nth s12 1), (nth s7 1)] w fun t27_15 w =>
  eff Pg (Instr.buildSlice 51 1 #[(0, t27_15)]) w fun t28_16 w =>
  eff Pg (Builtin.append_ #[51, 51] 51 #[(nth s12 0), t28_16]) w fun t29_17 w =>
  pur Pg (binOp Go.BinOp.add 2 (nth s12 1) (Go.Value.int Go.IntKind.i64 1)) fun t22_18 =>
  N10 [t29_17, t22_18] w)
  (pur Pg (binOp Go.BinOp.add 2 (nth s7 1) (Go.Value.int Go.IntKind.i64 1)) fun t16_19 =>
  N5 [(nth s12 0), t16_19] w)) [(nth s7 0), (Go.Value.int Go.IntKind.i64 (-1))] w)
  (callS Pg n_l01Make #[t9_3, (nth s7 0)] w fun t32_20 w =>
  effU Pg (Instr.storeAt 28 t2_1 t32_20) w fun w =>
  rd Pg (resCell 28 t2_1) w fun r21 =>
  K r21 w)) [t10_4, (Go.Value.int Go.IntKind.i64 (-1))] w
theorem eq_l05Pad : ∀ (a0 : Value) (w : World) (K : Value → World → Prop), S_l05Pad a0 w K = codeS Pg (Try.f23.body.getD .skip) ann_l05Pad (topX Pg Try.f23.results K) (fun t => Array.getD #[a0] t undef) w := by
  intro a0 w K
  kernel_rfl
theorem call_l05Pad (a0 : Value) (w : World) (K : Value → World → Prop) (h : S_l05Pad a0 w K) : callS Pg n_l05Pad #[a0] w K :=
  callS_of mixed Try.func23 (c := Try.f23.body.getD .skip) (by kernel_rfl) (by kernel_rfl) (ann := ann_l05Pad) (by kernel_rfl) (Nat.le_of_ble_eq_true (by kernel_rfl)) (by rw [← eq_l05Pad]; exact h)

-- loop.example/g01165/spec.l05Node
def ann_l05Node : Ann :=
  (.seq none (.reg [⟨none, [], [0, 1, 2]⟩] [])
  (.seq none (.reg [⟨none, [], [0, 1, 2]⟩] [])
  (.seq none (.reg [⟨none, [], [0, 1, 2, 3, 4]⟩] [])
  (.seq (some ([], [30, 31, 32, 33])) (.seq none (.reg [⟨none, [], [0, 1]⟩] [])
  (.cond (.reg [⟨none, [], [0, 1, 2]⟩] [])
  .leaf))
  (.seq none (.reg [⟨none, [], [0, 1, 2, 3]⟩] [])
  (.seq none (.reg [⟨none, [], [0, 1, 2]⟩] [])
  (.seq none (.seq none (.reg [⟨none, [], [0]⟩] [])
  (.sub (.loop [14] [39, 40, 41, 42, 45, 46, 47, 48, 49, 50, 51, 52, 53, 54, 55, 56, 57, 58, 59, 43, 44, 14]
  (.seq none (.seq none (.reg [⟨none, [], [0, 1, 2, 3]⟩] [])
  (.cond .leaf
  .leaf))
  (.seq none (.sub (.reg [⟨none, [], [0, 1, 2, 3, 4, 5, 6, 7, 8, 9, 10, 11, 12, 13, 14, 15]⟩] []))
  (.reg [⟨none, [], [0, 1, 2]⟩] []))))))
  (.seq none (.reg [⟨none, [], [0, 1]⟩] [])
  (.seq none (.reg [⟨none, [], [0]⟩] [])
  (.seq none (.reg [⟨none, [], [0, 1]⟩] [])
  (.seq none (.seq none (.reg [⟨none, [], [0]⟩] [])
  (.sub (.loop [15, 16, 18] [62, 63, 64, 65, 19, 68, 69, 70, 71, 74, 75, 76, 77, 78, 79, 80, 81, 82, 83, 84, 85, 86, 87, 88, 89, 90, 91, 92, 93, 94, 95, 96, 20, 97, 98, 99, 100, 101, 102, 103, 104, 105, 106, 107, 108, 109, 110, 111, 112, 113, 114, 115, 117, 118, 119, 120, 121, 122, 116, 123, 124, 21, 22, 125, 126, 127, 15, 128, 129, 130, 131, 16, 72, 73, 66, 67, 18]
  (.seq none (.seq none (.reg [⟨none, [], [0, 1, 2, 3]⟩] [])
  (.cond .leaf
  .leaf))
  (.seq none (.sub (.seq none (.reg [⟨none, [], [0]⟩] [])
  (.sub (.loop [15, 16, 19] [68, 69, 70, 71, 74, 75, 76, 77, 78, 79, 80, 81, 82, 83, 84, 85, 86, 87, 88, 89, 90, 91, 92, 93, 94, 95, 96, 20, 97, 98, 99, 100, 101, 102, 103, 104, 105, 106, 107, 108, 109, 110, 111, 112, 113, 114, 115, 117, 118, 119, 120, 121, 122, 116, 123, 124, 21, 22, 125, 126, 127, 15, 128, 129, 130, 131, 16, 72, 73, 19]
  (.seq none (.seq none (.reg [⟨none, [], [0, 1, 2, 3]⟩] [])
  (.cond .leaf
  .leaf))
  (.seq (some ([15, 16], [74, 75, 76, 77, 78, 79, 80, 81, 82, 83, 84, 85, 86, 87, 88, 89, 90, 91, 92, 93, 94, 95, 96, 20, 97, 98, 99, 100, 101, 102, 103, 104, 105, 106, 107, 108, 109, 110, 111, 112, 113, 114, 115, 117, 118, 119, 120, 121, 122, 116, 123, 124, 21, 22, 125, 126, 127, 15, 128, 129, 130, 131, 16])) (.sub (.seq none (.reg [⟨none, [], [0, 1, 2, 3, 4, 5, 6, 7, 8, 9, 10, 11, 12, 13, 14, 15, 16, 17, 18, 19, 20, 21, 22, 23, 24]⟩] [4, 9, 15, 20, 23])
  (.seq none (.seq none (.reg [⟨none, [], [0, 1, 2, 3, 4, 5, 6, 7]⟩, ⟨some (7, false), [114], [8, 9, 10, 11, 12, 13, 14, 15, 16, 17]⟩, ⟨none, [], [18]⟩] [])
  (.cond .leaf
  .leaf))
  (.seq none (.reg [⟨none, [], [0, 1, 2, 3, 4, 5, 6, 7, 8, 9, 10]⟩] [])
  (.seq none (.reg [⟨none, [], [0, 1, 2, 3]⟩] [])
  (.reg [⟨none, [], [0, 1, 2, 3, 4]⟩] []))))))
  (.reg [⟨none, [], [0, 1, 2]⟩] [])))))))
  (.reg [⟨none, [], [0, 1, 2]⟩] []))))))
  (.seq none (.reg [⟨none, [], [0]⟩] [])
  (.seq none (.seq none (.reg [⟨none, [], [0]⟩] [])
  (.sub (.loop [23, 24] [132, 133, 134, 135, 138, 139, 140, 141, 142, 143, 23, 136, 137, 24]
  (.seq none (.seq none (.reg [⟨none, [], [0, 1, 2, 3]⟩] [])
  (.cond .leaf
  .leaf))
  (.seq none (.sub (.reg [⟨none, [], [0, 1, 2, 3, 4, 5, 6]⟩] []))
  (.reg [⟨none, [], [0, 1, 2]⟩] []))))))
  (.seq none (.reg [⟨none, [], [0, 1, 2, 3, 4]⟩] [])
  .leaf))))))))))))))
def S_l05Node (a0 a1 a2 a3 : Value) (w : World) (K : Value → World → Prop) : Prop :=
  eff Pg (Instr.box 50 a1) w fun t5_1 w =>
  callS Pg n_l01Width #[a0] w fun t26_2 w =>
  nilS a0 fun t28_3 =>
  rd Pg (Instr.loadAt 28 t28_3) w fun t29_4 =>
  eff Pg (Instr.alloc 28 true (.tuple #[])) w fun t11_5 w =>
  effU Pg (Instr.storeAt 28 t11_5 t29_4) w fun w =>
  joinS (fun g6 s7 w =>
  rd Pg (Instr.loadAt 50 t5_1) w fun t34_9 =>
  callS Pg n_l05Part #[t11_5, t34_9, a2] w fun t36_10 w =>
  callS Pg n_l01Spots #[t36_10] w fun t38_11 w =>
  loopS (fun N12 g13 s14 w =>
  rd Pg (Builtin.len_ #[61] 3 #[t38_11]) w fun t41_15 =>
  pur Pg (binOp Go.BinOp.lss 3 (nth s14 0) t41_15) fun t42_16 =>
  ifB t42_16 (drawS w fun w =>
  pur Pg (Instr.indexAt 61 t38_11 (nth s14 0)) fun t48_17 =>
  pur Pg (Instr.fieldAt 50 t48_17 1) fun t49_18 =>
  rd Pg (Instr.loadAt 2 t49_18) w fun t50_19 =>
  pur Pg (binOp Go.BinOp.mul 2 t50_19 t26_2) fun t52_20 =>
  pur Pg (Instr.indexAt 61 t38_11 (nth s14 0)) fun t55_21 =>
  pur Pg (Instr.fieldAt 50 t55_21 0) fun t56_22 =>
  rd Pg (Instr.loadAt 2 t56_22) w fun t57_23 =>
  pur Pg (binOp Go.BinOp.add 2 t52_20 t57_23) fun t58_24 =>
  pur Pg (Instr.indexAt 51 a3 t58_24) fun t59_25 =>
  effU Pg (Instr.storeAt 4 t59_25 (Go.Value.bool Bool.true)) w fun w =>
  pur Pg (binOp Go.BinOp.add 3 (nth s14 0) (Go.Value.int Go.IntKind.i64 1)) fun t44_26 =>
  N12 [t44_26] w)
  (eff Pg (Instr.buildSlice 22 0 #[]) w fun t60_27 w =>
  callS Pg n_l03Steps #[(Go.Value.bool Bool.false)] w fun t61_28 w =>
  loopS (fun N29 g30 s31 w =>
  rd Pg (Builtin.len_ #[61] 3 #[t38_11]) w fun t64_32 =>
  pur Pg (binOp Go.BinOp.lss 3 (nth s31 2) t64_32) fun t65_33 =>
  ifB t65_33 (loopS (fun N34 g35 s36 w =>
  rd Pg (Builtin.len_ #[61] 3 #[t61_28]) w fun t70_37 =>
  pur Pg (binOp Go.BinOp.lss 3 (nth s36 2) t70_37) fun t71_38 =>
  ifB t71_38 (joinS (fun g39 s40 w =>
  pur Pg (binOp Go.BinOp.add 3 (nth s36 2) (Go.Value.int Go.IntKind.i64 1)) fun t73_42 =>
  N34 [(nth s40 0), (nth s40 1), t73_42] w) fun J41 =>
  drawF w fun S43 w =>
  pur Pg (Instr.indexAt 61 t38_11 (nth s31 2)) fun t76_44 =>
  pur Pg (Instr.fieldAt 50 t76_44 0) fun t77_45 =>
  rdF Pg S43 (Instr.loadAt 2 t77_45) fun t78_46 =>
  pur Pg (Instr.indexAt 61 t61_28 (nth s36 2)) fun t81_47 =>
  pur Pg (Instr.fieldAt 50 t81_47 0) fun t82_48 =>
  rdF Pg S43 (Instr.loadAt 2 t82_48) fun t83_49 =>
  pur Pg (binOp Go.BinOp.add 2 t78_46 t83_49) fun t84_50 =>
  pur Pg (Instr.indexAt 61 t38_11 (nth s31 2)) fun t87_51 =>
  pur Pg (Instr.fieldAt 50 t87_51 1) fun t88_52 =>
  rdF Pg S43 (Instr.loadAt 2 t88_52) fun t89_53 =>
  pur Pg (Instr.indexAt 61 t61_28 (nth s36 2)) fun t92_54 =>
  pur Pg (Instr.fieldAt 50 t92_54 1) fun t93_55 =>
  rdF Pg S43 (Instr.loadAt 2 t93_55) fun t94_56 =>
  pur Pg (binOp Go.BinOp.add 2 t89_53 t94_56) fun t95_57 =>
  pur Pg (Instr.build 50 #[(0, t84_50), (1, t95_57)]) fun t96_58 =>
  eff Pg (Instr.alloc 50 true (.tuple #[])) w fun t20_59 w =>
  S43 w ∧
  effU Pg (Instr.storeAt 50 t20_59 t96_58) w fun w =>
  pur Pg (Instr.fieldAt 50 t20_59 0) fun t98_60 =>
  rd Pg (Instr.loadAt 2 t98_60) w fun t99_61 =>
  pur Pg (Instr.fieldAt 50 t20_59 1) fun t100_62 =>
  rd Pg (Instr.loadAt 2 t100_62) w fun t101_63 =>
  callS Pg n_l01Has #[a0, t99_61, t101_63] w fun t102_64 w =>
  pur Pg (Op.unary Go.UnOp.not t102_64) fun t103_65 =>
  joinS (fun g66 s67 w =>
  pickS t103_65 (Go.Value.bool Bool.true) (nth s67 0) fun t115_69 =>
  ifB t115_69 (J41 [(nth s36 0), (nth s36 1)] w)
  (rd Pg (Instr.loadAt 50 t20_59) w fun t118_70 =>
  pur Pg (Op.unary Go.UnOp.not a2) fun t120_71 =>
  callS Pg n_l05Node #[a0, t118_70, t120_71, a3] w fun t122_72 w =>
  pur Pg (Instr.extract t122_72 0) fun t123_73 =>
  pur Pg (Instr.extract t122_72 1) fun t124_74 =>
  callS Pg n_l05Insert #[(nth s36 0), t123_73] w fun t127_75 w =>
  pur Pg (binOp Go.BinOp.add 2 t124_74 (Go.Value.int Go.IntKind.i64 1)) fun t130_76 =>
  callS Pg n_l00Max #[(nth s36 1), t130_76] w fun t131_77 w =>
  J41 [t127_75, t131_77] w)) fun J68 =>
  ifG t103_65 false (pur Pg (Instr.fieldAt 50 t20_59 1) fun t106_78 =>
  rd Pg (Instr.loadAt 2 t106_78) w fun t107_79 =>
  pur Pg (binOp Go.BinOp.mul 2 t107_79 t26_2) fun t109_80 =>
  pur Pg (Instr.fieldAt 50 t20_59 0) fun t110_81 =>
  rd Pg (Instr.loadAt 2 t110_81) w fun t111_82 =>
  pur Pg (binOp Go.BinOp.add 2 t109_80 t111_82) fun t112_83 =>
  pur Pg (Instr.indexAt 51 a3 t112_83) fun t113_84 =>
  rd Pg (Instr.loadAt 4 t113_84) w fun t114_85 =>
  J68 [t114_85] w)
  (J68 [undef] w))
  (pur Pg (binOp Go.BinOp.add 3 (nth s31 2) (Go.Value.int Go.IntKind.i64 1)) fun t67_86 =>
  N29 [(nth s36 0), (nth s36 1), t67_86] w)) [(nth s31 0), (nth s31 1), (Go.Value.int Go.IntKind.i64 0)] w)
  (loopS (fun N87 g88 s89 w =>
  rd Pg (Builtin.len_ #[22] 3 #[(nth s31 0)]) w fun t134_90 =>
  pur Pg (binOp Go.BinOp.lss 3 (nth s89 1) t134_90) fun t135_91 =>
  ifB t135_91 (pur Pg (Instr.indexAt 22 (nth s31 0) (nth s89 1)) fun t141_92 =>
  rd Pg (Instr.loadAt 9 t141_92) w fun t142_93 =>
  pur Pg (binOp Go.BinOp.add 9 (nth s89 0) t142_93) fun t143_94 =>
  pur Pg (binOp Go.BinOp.add 3 (nth s89 1) (Go.Value.int Go.IntKind.i64 1)) fun t137_95 =>
  N87 [t143_94, t137_95] w)
  (pur Pg (binOp Go.BinOp.add 9 (nth s89 0) (Go.Value.string (ByteArray.mk #[41]))) fun t145_96 =>
  K (Value.tuple #[t145_96, (nth s31 1)]) w)) [(Go.Value.string (ByteArray.mk #[40])), (Go.Value.int Go.IntKind.i64 0)] w)) [t60_27, (Go.Value.int Go.IntKind.i64 0), (Go.Value.int Go.IntKind.i64 0)] w)) [(Go.Value.int Go.IntKind.i64 0)] w) fun J8 =>
  pur Pg (Op.unary Go.UnOp.not a2) fun t31_97 =>
  ifB t31_97 (callS Pg n_l01Invert #[a0] w fun t33_98 w =>
  effU Pg (Instr.storeAt 28 t11_5 t33_98) w fun w =>
  J8 [] w)
  (J8 [] w)
theorem eq_l05Node : ∀ (a0 a1 a2 a3 : Value) (w : World) (K : Value → World → Prop), S_l05Node a0 a1 a2 a3 w K = codeS Pg (Try.f24.body.getD .skip) ann_l05Node (topX Pg Try.f24.results K) (fun t => Array.getD #[a0, a1, a2, a3] t undef) w := by
  intro a0 a1 a2 a3 w K
  kernel_rfl
theorem call_l05Node (a0 a1 a2 a3 : Value) (w : World) (K : Value → World → Prop) (h : S_l05Node a0 a1 a2 a3 w K) : callS Pg n_l05Node #[a0, a1, a2, a3] w K :=
  callS_of mixed Try.func24 (c := Try.f24.body.getD .skip) (by kernel_rfl) (by kernel_rfl) (ann := ann_l05Node) (by kernel_rfl) (Nat.le_of_ble_eq_true (by kernel_rfl)) (by rw [← eq_l05Node]; exact h)

-- loop.example/g01165/spec.l01Width
def ann_l01Width : Ann :=
  (.seq none (.reg [⟨none, [], [0]⟩] [])
  (.seq none (.reg [⟨none, [], [0, 1, 2, 3, 4, 5, 6, 7]⟩] [])
  .leaf))
def S_l01Width (a0 : Value) (w : World) (K : Value → World → Prop) : Prop :=
  nilS a0 fun t4_1 =>
  pur Pg (Instr.fieldAt 28 t4_1 0) fun t5_2 =>
  rd Pg (Instr.loadAt 22 t5_2) w fun t6_3 =>
  pur Pg (Instr.indexAt 22 t6_3 (Go.Value.int Go.IntKind.i64 0)) fun t7_4 =>
  rd Pg (Instr.loadAt 9 t7_4) w fun t8_5 =>
  rd Pg (Builtin.len_ #[9] 3 #[t8_5]) w fun t9_6 =>
  K t9_6 w
theorem eq_l01Width : ∀ (a0 : Value) (w : World) (K : Value → World → Prop), S_l01Width a0 w K = codeS Pg (Try.f25.body.getD .skip) ann_l01Width (topX Pg Try.f25.results K) (fun t => Array.getD #[a0] t undef) w := by
  intro a0 w K
  kernel_rfl
theorem call_l01Width (a0 : Value) (w : World) (K : Value → World → Prop) (h : S_l01Width a0 w K) : callS Pg n_l01Width #[a0] w K :=
  callS_of mixed Try.func25 (c := Try.f25.body.getD .skip) (by kernel_rfl) (by kernel_rfl) (ann := ann_l01Width) (by kernel_rfl) (Nat.le_of_ble_eq_true (by kernel_rfl)) (by rw [← eq_l01Width]; exact h)

-- loop.example/g01165/spec.l01Height
def ann_l01Height : Ann :=
  (.seq none (.reg [⟨none, [], [0]⟩] [])
  (.seq none (.reg [⟨none, [], [0, 1, 2, 3, 4, 5]⟩] [])
  .leaf))
def S_l01Height (a0 : Value) (w : World) (K : Value → World → Prop) : Prop :=
  nilS a0 fun t4_1 =>
  pur Pg (Instr.fieldAt 28 t4_1 0) fun t5_2 =>
  rd Pg (Instr.loadAt 22 t5_2) w fun t6_3 =>
  rd Pg (Builtin.len_ #[22] 3 #[t6_3]) w fun t7_4 =>
  K t7_4 w
theorem eq_l01Height : ∀ (a0 : Value) (w : World) (K : Value → World → Prop), S_l01Height a0 w K = codeS Pg (Try.f26.body.getD .skip) ann_l01Height (topX Pg Try.f26.results K) (fun t => Array.getD #[a0] t undef) w := by
  intro a0 w K
  kernel_rfl
theorem call_l01Height (a0 : Value) (w : World) (K : Value → World → Prop) (h : S_l01Height a0 w K) : callS Pg n_l01Height #[a0] w K :=
  callS_of mixed Try.func26 (c := Try.f26.body.getD .skip) (by kernel_rfl) (by kernel_rfl) (ann := ann_l01Height) (by kernel_rfl) (Nat.le_of_ble_eq_true (by kernel_rfl)) (by rw [← eq_l01Height]; exact h)

-- loop.example/g01165/impl.sizeOk
def ann_sizeOk : Ann :=
  (.seq none (.reg [⟨none, [], [0]⟩] [])
  (.seq none (.reg [⟨none, [], [0, 1, 2]⟩, ⟨some (2, true), [9], [3, 4]⟩, ⟨none, [], [5, 6]⟩] [])
  .leaf))
def S_sizeOk (a0 a1 : Value) (w : World) (K : Value → World → Prop) : Prop :=
  callS Pg n_in #[a0, (Go.Value.int Go.IntKind.i64 1), (Go.Value.int Go.IntKind.i64 16)] w fun t6_1 w =>
  joinS (fun g2 s3 w =>
  pickS t6_1 (nth s3 0) (Go.Value.bool Bool.false) fun t10_5 =>
  K t10_5 w) fun J4 =>
  ifG t6_1 true (callS Pg n_in #[a1, (Go.Value.int Go.IntKind.i64 1), (Go.Value.int Go.IntKind.i64 16)] w fun t9_6 w =>
  J4 [t9_6] w)
  (J4 [undef] w)
theorem eq_sizeOk : ∀ (a0 a1 : Value) (w : World) (K : Value → World → Prop), S_sizeOk a0 a1 w K = codeS Pg (Try.f27.body.getD .skip) ann_sizeOk (topX Pg Try.f27.results K) (fun t => Array.getD #[a0, a1] t undef) w := by
  intro a0 a1 w K
  kernel_rfl
theorem call_sizeOk (a0 a1 : Value) (w : World) (K : Value → World → Prop) (h : S_sizeOk a0 a1 w K) : callS Pg n_sizeOk #[a0, a1] w K :=
  callS_of mixed Try.func27 (c := Try.f27.body.getD .skip) (by kernel_rfl) (by kernel_rfl) (ann := ann_sizeOk) (by kernel_rfl) (Nat.le_of_ble_eq_true (by kernel_rfl)) (by rw [← eq_sizeOk]; exact h)

-- loop.example/g01165/impl.blank
def ann_blank : Ann :=
  (.seq none (.reg [⟨none, [], [0]⟩] [])
  (.seq none (.reg [⟨none, [], [0, 1, 2, 3, 4, 5, 6, 7, 8]⟩] [])
  .leaf))
def S_blank (a0 a1 : Value) (w : World) (K : Value → World → Prop) : Prop :=
  pur Pg (binOp Go.BinOp.mul 2 a0 a1) fun t9_1 =>
  eff Pg (Instr.makeSlice 51 t9_1 t9_1) w fun t10_2 w =>
  pur Pg (Instr.build 56 #[(0, a0), (1, a1), (2, t10_2)]) fun t11_3 =>
  eff Pg (Instr.box 56 t11_3) w fun t12_4 w =>
  K t12_4 w
theorem eq_blank : ∀ (a0 a1 : Value) (w : World) (K : Value → World → Prop), S_blank a0 a1 w K = codeS Pg (Try.f28.body.getD .skip) ann_blank (topX Pg Try.f28.results K) (fun t => Array.getD #[a0, a1] t undef) w := by
  intro a0 a1 w K
  kernel_rfl
theorem call_blank (a0 a1 : Value) (w : World) (K : Value → World → Prop) (h : S_blank a0 a1 w K) : callS Pg n_blank #[a0, a1] w K :=
  callS_of mixed Try.func28 (c := Try.f28.body.getD .skip) (by kernel_rfl) (by kernel_rfl) (ann := ann_blank) (by kernel_rfl) (Nat.le_of_ble_eq_true (by kernel_rfl)) (by rw [← eq_blank]; exact h)

-- (*loop.example/g01165/impl.image).set
def ann_image_set : Ann :=
  (.reg [⟨none, [], [0, 1, 2, 3, 4, 5, 6, 7, 8, 9, 10, 11, 12, 13, 14]⟩] [])
def S_image_set (a0 a1 a2 a3 : Value) (w : World) (K : Value → World → Prop) : Prop :=
  drawS w fun w =>
  nilS a0 fun t9_1 =>
  pur Pg (Instr.fieldAt 56 t9_1 2) fun t10_2 =>
  rd Pg (Instr.loadAt 51 t10_2) w fun t11_3 =>
  nilS a0 fun t14_4 =>
  pur Pg (Instr.fieldAt 56 t14_4 0) fun t15_5 =>
  rd Pg (Instr.loadAt 2 t15_5) w fun t16_6 =>
  pur Pg (binOp Go.BinOp.mul 2 a2 t16_6) fun t17_7 =>
  pur Pg (binOp Go.BinOp.add 2 t17_7 a1) fun t19_8 =>
  pur Pg (Instr.indexAt 51 t11_3 t19_8) fun t21_9 =>
  effU Pg (Instr.storeAt 4 t21_9 a3) w fun w =>
  K (Value.tuple #[]) w
theorem eq_image_set : ∀ (a0 a1 a2 a3 : Value) (w : World) (K : Value → World → Prop), S_image_set a0 a1 a2 a3 w K = codeS Pg (Try.f29.body.getD .skip) ann_image_set (topX Pg Try.f29.results K) (fun t => Array.getD #[a0, a1, a2, a3] t undef) w := by
  intro a0 a1 a2 a3 w K
  kernel_rfl
theorem call_image_set (a0 a1 a2 a3 : Value) (w : World) (K : Value → World → Prop) (h : S_image_set a0 a1 a2 a3 w K) : callS Pg n_image_set #[a0, a1, a2, a3] w K :=
  callS_of mixed Try.func29 (c := Try.f29.body.getD .skip) (by kernel_rfl) (by kernel_rfl) (ann := ann_image_set) (by kernel_rfl) (Nat.le_of_ble_eq_true (by kernel_rfl)) (by rw [← eq_image_set]; exact h)

-- (*loop.example/g01165/impl.image).framed
def ann_image_framed : Ann :=
  (.seq none (.reg [⟨none, [], [0, 1]⟩] [])
  (.seq none (.reg [⟨none, [], [0, 1, 2, 3, 4, 5, 6, 7, 8, 9, 10, 11, 12]⟩] [])
  .leaf))
def S_image_framed (a0 : Value) (w : World) (K : Value → World → Prop) : Prop :=
  eff Pg (Instr.box 41 a0) w fun t1_1 w =>
  drawS w fun w =>
  rd Pg (Instr.loadAt 41 t1_1) w fun t3_2 =>
  nilS t3_2 fun t4_3 =>
  pur Pg (Instr.fieldAt 56 t4_3 0) fun t5_4 =>
  rd Pg (Instr.loadAt 2 t5_4) w fun t6_5 =>
  pur Pg (binOp Go.BinOp.add 2 t6_5 (Go.Value.int Go.IntKind.i64 2)) fun t7_6 =>
  rd Pg (Instr.loadAt 41 t1_1) w fun t8_7 =>
  nilS t8_7 fun t9_8 =>
  pur Pg (Instr.fieldAt 56 t9_8 1) fun t10_9 =>
  rd Pg (Instr.loadAt 2 t10_9) w fun t11_10 =>
  pur Pg (binOp Go.BinOp.add 2 t11_10 (Go.Value.int Go.IntKind.i64 2)) fun t12_11 =>
  callS Pg n_made #[t7_6, t12_11, (Value.func (.func n_image_framed_1) #[] #[t1_1])] w fun t14_12 w =>
  K t14_12 w
theorem eq_image_framed : ∀ (a0 : Value) (w : World) (K : Value → World → Prop), S_image_framed a0 w K = codeS Pg (Try.f30.body.getD .skip) ann_image_framed (topX Pg Try.f30.results K) (fun t => Array.getD #[a0] t undef) w := by
  intro a0 w K
  kernel_rfl
theorem call_image_framed (a0 : Value) (w : World) (K : Value → World → Prop) (h : S_image_framed a0 w K) : callS Pg n_image_framed #[a0] w K :=
  callS_of mixed Try.func30 (c := Try.f30.body.getD .skip) (by kernel_rfl) (by kernel_rfl) (ann := ann_image_framed) (by kernel_rfl) (Nat.le_of_ble_eq_true (by kernel_rfl)) (by rw [← eq_image_framed]; exact h)

-- loop.example/g01165/impl.spread
def ann_spread : Ann :=
  (.seq none (.reg [⟨none, [], [0]⟩] [])
  (.seq none (.reg [⟨none, [], [0, 1, 2, 3]⟩] [])
  (.seq none (.seq none (.reg [⟨none, [], [0, 1, 2]⟩] [])
  (.sub (.loop [8, 17] [18, 19, 20, 10, 21, 22, 23, 24, 25, 26, 27, 28, 29, 30, 31, 32, 33, 34, 35, 8, 36, 17]
  (.seq none (.reg [⟨none, [], [0]⟩] [])
  (.seq none (.cond .leaf
  .leaf)
  (.seq (some ([8], [19, 20, 10, 21, 22, 23, 24, 25, 26, 27, 28, 29, 30, 31, 32, 33, 34, 35, 8])) (.sub (.seq none (.reg [⟨none, [], [0, 1, 2, 3]⟩] [])
  (.seq none (.reg [⟨none, [], [0, 1, 2, 3]⟩, ⟨some (3, true), [28], [4, 5, 6, 7]⟩, ⟨none, [], [8]⟩] [])
  (.cond (.seq none (.reg [⟨none, [], [0, 1, 2]⟩] [])
  (.reg [⟨none, [], [0, 1, 2, 3, 4]⟩] []))
  .leaf))))
  (.reg [⟨none, [], [0, 1]⟩] [])))))))
  (.seq none (.sub (.loop [8] [37, 38, 39, 42, 43, 44, 45, 46, 47, 48, 49, 50, 51, 52, 53, 54, 55, 56, 12, 57, 58, 59, 60, 61, 62, 63, 64, 65, 66, 67, 68, 69, 70, 71, 8, 72, 40, 41]
  (.seq none (.seq none (.reg [⟨none, [], [0, 1, 2]⟩] [])
  (.cond .leaf
  .leaf))
  (.seq none (.sub (.seq none (.reg [⟨none, [], [0, 1, 2, 3, 4, 5, 6, 7, 8, 11, 9, 10]⟩] [])
  (.sub (.loop [8, 53] [54, 55, 56, 12, 57, 58, 59, 60, 61, 62, 63, 64, 65, 66, 67, 68, 69, 70, 71, 8, 72, 53]
  (.seq none (.reg [⟨none, [], [0]⟩] [])
  (.seq none (.cond .leaf
  .leaf)
  (.seq (some ([8], [55, 56, 12, 57, 58, 59, 60, 61, 62, 63, 64, 65, 66, 67, 68, 69, 70, 71, 8])) (.sub (.seq none (.reg [⟨none, [], [0, 1, 2, 3]⟩] [])
  (.seq none (.reg [⟨none, [], [0, 1, 2, 3]⟩, ⟨some (3, true), [64], [4, 5, 6, 7]⟩, ⟨none, [], [8]⟩] [])
  (.cond (.seq none (.reg [⟨none, [], [0, 1, 2]⟩] [])
  (.reg [⟨none, [], [0, 1, 2, 3, 4]⟩] []))
  .leaf))))
  (.reg [⟨none, [], [0, 1]⟩] []))))))))
  (.reg [⟨none, [], [0, 1, 2]⟩] [])))))
  (.seq none (.reg [⟨none, [], [0, 1]⟩] [])
  .leaf)))))
def S_spread (a0 a1 a2 : Value) (w : World) (K : Value → World → Prop) : Prop :=
  eff Pg (Instr.makeMap 59 none) w fun t13_1 w =>
  eff Pg (Instr.buildSlice 61 0 #[]) w fun t14_2 w =>
  rd Pg (Builtin.len_ #[61] 3 #[a0]) w fun t16_3 =>
  loopS (fun N4 g5 s6 w =>
  pur Pg (binOp Go.BinOp.lss 3 (nth s6 1) t16_3) fun t18_7 =>
  ifB t18_7 (joinS (fun g8 s9 w =>
  pur Pg (binOp Go.BinOp.add 3 (nth s6 1) (Go.Value.int Go.IntKind.i64 1)) fun t36_11 =>
  N4 [(nth s9 0), t36_11] w) fun J10 =>
  pur Pg (Instr.indexAt 61 a0 (nth s6 1)) fun t19_12 =>
  rd Pg (Instr.loadAt 50 t19_12) w fun t20_13 =>
  eff Pg (Instr.alloc 50 true (.tuple #[])) w fun t10_14 w =>
  effU Pg (Instr.storeAt 50 t10_14 t20_13) w fun w =>
  rd Pg (Instr.loadAt 50 t10_14) w fun t22_15 =>
  callV Pg a2 #[t22_15] w fun t23_16 w =>
  joinS (fun g17 s18 w =>
  pickS t23_16 (nth s18 0) (Go.Value.bool Bool.false) fun t29_20 =>
  ifB t29_20 (rd Pg (Instr.loadAt 50 t10_14) w fun t31_21 =>
  effU Pg (Instr.mapUpdate 59 t13_1 t31_21 (Go.Value.bool Bool.true)) w fun w =>
  rd Pg (Instr.loadAt 50 t10_14) w fun t33_22 =>
  eff Pg (Instr.buildSlice 61 1 #[(0, t33_22)]) w fun t34_23 w =>
  eff Pg (Builtin.append_ #[61, 61] 61 #[(nth s6 0), t34_23]) w fun t35_24 w =>
  J10 [t35_24] w)
  (J10 [(nth s6 0)] w)) fun J19 =>
  ifG t23_16 true (rd Pg (Instr.loadAt 50 t10_14) w fun t26_25 =>
  rd Pg (Instr.lookup 59 t13_1 t26_25 Bool.false) w fun t27_26 =>
  pur Pg (Op.unary Go.UnOp.not t27_26) fun t28_27 =>
  J19 [t28_27] w)
  (J19 [undef] w))
  (loopS (fun N28 g29 s30 w =>
  rd Pg (Builtin.len_ #[61] 3 #[(nth s30 0)]) w fun t38_31 =>
  pur Pg (binOp Go.BinOp.gtr 3 t38_31 (Go.Value.int Go.IntKind.i64 0)) fun t39_32 =>
  ifB t39_32 (drawS w fun w =>
  pur Pg (Instr.indexAt 61 (nth s30 0) (Go.Value.int Go.IntKind.i64 0)) fun t43_33 =>
  pur Pg (Instr.fieldAt 50 t43_33 0) fun t44_34 =>
  rd Pg (Instr.loadAt 2 t44_34) w fun t45_35 =>
  pur Pg (Instr.indexAt 61 (nth s30 0) (Go.Value.int Go.IntKind.i64 0)) fun t47_36 =>
  pur Pg (Instr.fieldAt 50 t47_36 1) fun t48_37 =>
  rd Pg (Instr.loadAt 2 t48_37) w fun t49_38 =>
  callS Pg n_around #[t45_35, t49_38, a1] w fun t51_39 w =>
  rd Pg (Builtin.len_ #[61] 3 #[t51_39]) w fun t52_40 =>
  loopS (fun N41 g42 s43 w =>
  pur Pg (binOp Go.BinOp.lss 3 (nth s43 1) t52_40) fun t54_44 =>
  ifB t54_44 (joinS (fun g45 s46 w =>
  pur Pg (binOp Go.BinOp.add 3 (nth s43 1) (Go.Value.int Go.IntKind.i64 1)) fun t72_48 =>
  N41 [(nth s46 0), t72_48] w) fun J47 =>
  pur Pg (Instr.indexAt 61 t51_39 (nth s43 1)) fun t55_49 =>
  rd Pg (Instr.loadAt 50 t55_49) w fun t56_50 =>
  eff Pg (Instr.alloc 50 true (.tuple #[])) w fun t12_51 w =>
  effU Pg (Instr.storeAt 50 t12_51 t56_50) w fun w =>
  rd Pg (Instr.loadAt 50 t12_51) w fun t58_52 =>
  callV Pg a2 #[t58_52] w fun t59_53 w =>
  joinS (fun g54 s55 w =>
  pickS t59_53 (nth s55 0) (Go.Value.bool Bool.false) fun t65_57 =>
  ifB t65_57 (rd Pg (Instr.loadAt 50 t12_51) w fun t67_58 =>
  effU Pg (Instr.mapUpdate 59 t13_1 t67_58 (Go.Value.bool Bool.true)) w fun w =>
  rd Pg (Instr.loadAt 50 t12_51) w fun t69_59 =>
  eff Pg (Instr.buildSlice 61 1 #[(0, t69_59)]) w fun t70_60 w =>
  eff Pg (Builtin.append_ #[61, 61] 61 #[(nth s43 0), t70_60]) w fun t71_61 w =>
  J47 [t71_61] w)
  (J47 [(nth s43 0)] w)) fun J56 =>
  ifG t59_53 true (rd Pg (Instr.loadAt 50 t12_51) w fun t62_62 =>
  rd Pg (Instr.lookup 59 t13_1 t62_62 Bool.false) w fun t63_63 =>
  pur Pg (Op.unary Go.UnOp.not t63_63) fun t64_64 =>
  J56 [t64_64] w)
  (J56 [undef] w))
  (pur Pg (Instr.sliceAt 61 (nth s43 0) (some (Go.Value.int Go.IntKind.i64 1)) none none) fun t41_65 =>
  N28 [t41_65] w)) [(nth s30 0), (Go.Value.int Go.IntKind.i64 0)] w)
  (K t13_1 w)) [(nth s6 0)] w)) [t14_2, (Go.Value.int Go.IntKind.i64 0)] w
theorem eq_spread : ∀ (a0 a1 a2 : Value) (w : World) (K : Value → World → Prop), S_spread a0 a1 a2 w K = codeS Pg (Try.f31.body.getD .skip) ann_spread (topX Pg Try.f31.results K) (fun t => Array.getD #[a0, a1, a2] t undef) w := by
  intro a0 a1 a2 w K
  kernel_rfl
theorem call_spread (a0 a1 a2 : Value) (w : World) (K : Value → World → Prop) (h : S_spread a0 a1 a2 w K) : callS Pg n_spread #[a0, a1, a2] w K :=
  callS_of mixed Try.func31 (c := Try.f31.body.getD .skip) (by kernel_rfl) (by kernel_rfl) (ann := ann_spread) (by kernel_rfl) (Nat.le_of_ble_eq_true (by kernel_rfl)) (by rw [← eq_spread]; exact h)

-- (*loop.example/g01165/impl.image).tree$1
def ann_image_tree_1 : Ann :=
  (.seq none (.reg [⟨none, [], [0, 1]⟩] [])
  (.seq none (.reg [⟨none, [], [0, 1, 2, 3, 4, 5, 6]⟩, ⟨some (6, true), [17], [7, 8, 9, 10, 11, 12, 13]⟩, ⟨none, [], [14, 15]⟩] [])
  .leaf))
def S_image_tree_1 (a0 a1 : Value) (w : World) (K : Value → World → Prop) : Prop :=
  eff Pg (Instr.box 50 a0) w fun t2_1 w =>
  rd Pg (Instr.loadAt 41 a1) w fun t4_2 =>
  pur Pg (Instr.fieldAt 50 t2_1 0) fun t5_3 =>
  rd Pg (Instr.loadAt 2 t5_3) w fun t6_4 =>
  pur Pg (Instr.fieldAt 50 t2_1 1) fun t7_5 =>
  rd Pg (Instr.loadAt 2 t7_5) w fun t8_6 =>
  callS Pg n_image_has #[t4_2, t6_4, t8_6] w fun t9_7 w =>
  joinS (fun g8 s9 w =>
  pickS t9_7 (nth s9 0) (Go.Value.bool Bool.false) fun t18_11 =>
  K t18_11 w) fun J10 =>
  ifG t9_7 true (rd Pg (Instr.loadAt 41 a1) w fun t11_12 =>
  pur Pg (Instr.fieldAt 50 t2_1 0) fun t12_13 =>
  rd Pg (Instr.loadAt 2 t12_13) w fun t13_14 =>
  pur Pg (Instr.fieldAt 50 t2_1 1) fun t14_15 =>
  rd Pg (Instr.loadAt 2 t14_15) w fun t15_16 =>
  callS Pg n_image_get #[t11_12, t13_14, t15_16] w fun t16_17 w =>
  pur Pg (Op.unary Go.UnOp.not t16_17) fun t17_18 =>
  J10 [t17_18] w)
  (J10 [undef] w)
theorem eq_image_tree_1 : ∀ (a0 a1 : Value) (w : World) (K : Value → World → Prop), S_image_tree_1 a0 a1 w K = codeS Pg (Try.f32.body.getD .skip) ann_image_tree_1 (topX Pg Try.f32.results K) (fun t => Array.getD #[a0, a1] t undef) w := by
  intro a0 a1 w K
  kernel_rfl
theorem call_image_tree_1 (a0 a1 : Value) (w : World) (K : Value → World → Prop) (h : S_image_tree_1 a0 a1 w K) : callS Pg n_image_tree_1 #[a0, a1] w K :=
  callS_of mixed Try.func32 (c := Try.f32.body.getD .skip) (by kernel_rfl) (by kernel_rfl) (ann := ann_image_tree_1) (by kernel_rfl) (Nat.le_of_ble_eq_true (by kernel_rfl)) (by rw [← eq_image_tree_1]; exact h)

-- (*loop.example/g01165/impl.image).has
def ann_image_has : Ann :=
  (.seq none (.reg [⟨none, [], [0]⟩] [])
  (.seq none (.reg [⟨none, [], [0, 1, 2, 3, 4, 5, 6, 7]⟩, ⟨some (7, true), [21], [8, 9, 10, 11, 12, 13, 14]⟩, ⟨none, [], [15, 16]⟩] [])
  .leaf))
def S_image_has (a0 a1 a2 : Value) (w : World) (K : Value → World → Prop) : Prop :=
  nilS a0 fun t9_1 =>
  pur Pg (Instr.fieldAt 56 t9_1 0) fun t10_2 =>
  rd Pg (Instr.loadAt 2 t10_2) w fun t11_3 =>
  pur Pg (binOp Go.BinOp.sub 2 t11_3 (Go.Value.int Go.IntKind.i64 1)) fun t12_4 =>
  callS Pg n_in #[a1, (Go.Value.int Go.IntKind.i64 0), t12_4] w fun t13_5 w =>
  joinS (fun g6 s7 w =>
  pickS t13_5 (nth s7 0) (Go.Value.bool Bool.false) fun t22_9 =>
  K t22_9 w) fun J8 =>
  ifG t13_5 true (nilS a0 fun t17_10 =>
  pur Pg (Instr.fieldAt 56 t17_10 1) fun t18_11 =>
  rd Pg (Instr.loadAt 2 t18_11) w fun t19_12 =>
  pur Pg (binOp Go.BinOp.sub 2 t19_12 (Go.Value.int Go.IntKind.i64 1)) fun t20_13 =>
  callS Pg n_in #[a2, (Go.Value.int Go.IntKind.i64 0), t20_13] w fun t21_14 w =>
  J8 [t21_14] w)
  (J8 [undef] w)
theorem eq_image_has : ∀ (a0 a1 a2 : Value) (w : World) (K : Value → World → Prop), S_image_has a0 a1 a2 w K = codeS Pg (Try.f33.body.getD .skip) ann_image_has (topX Pg Try.f33.results K) (fun t => Array.getD #[a0, a1, a2] t undef) w := by
  intro a0 a1 a2 w K
  kernel_rfl
theorem call_image_has (a0 a1 a2 : Value) (w : World) (K : Value → World → Prop) (h : S_image_has a0 a1 a2 w K) : callS Pg n_image_has #[a0, a1, a2] w K :=
  callS_of mixed Try.func33 (c := Try.f33.body.getD .skip) (by kernel_rfl) (by kernel_rfl) (ann := ann_image_has) (by kernel_rfl) (Nat.le_of_ble_eq_true (by kernel_rfl)) (by rw [← eq_image_has]; exact h)

-- (*loop.example/g01165/impl.image).get
def ann_image_get : Ann :=
  (.seq none (.reg [⟨none, [], [0]⟩] [])
  (.seq none (.reg [⟨none, [], [0, 1, 2, 3, 4]⟩, ⟨some (4, true), [25], [5, 6, 7, 8, 9, 10, 11, 12, 13, 14, 15, 16, 17, 18]⟩, ⟨none, [], [19, 20]⟩] [])
  .leaf))
def S_image_get (a0 a1 a2 : Value) (w : World) (K : Value → World → Prop) : Prop :=
  drawS w fun w =>
  callS Pg n_image_has #[a0, a1, a2] w fun t10_1 w =>
  joinS (fun g2 s3 w =>
  pickS t10_1 (nth s3 0) (Go.Value.bool Bool.false) fun t26_5 =>
  K t26_5 w) fun J4 =>
  ifG t10_1 true (nilS a0 fun t13_6 =>
  pur Pg (Instr.fieldAt 56 t13_6 2) fun t14_7 =>
  rd Pg (Instr.loadAt 51 t14_7) w fun t15_8 =>
  nilS a0 fun t18_9 =>
  pur Pg (Instr.fieldAt 56 t18_9 0) fun t19_10 =>
  rd Pg (Instr.loadAt 2 t19_10) w fun t20_11 =>
  pur Pg (binOp Go.BinOp.mul 2 a2 t20_11) fun t21_12 =>
  pur Pg (binOp Go.BinOp.add 2 t21_12 a1) fun t23_13 =>
  pur Pg (Instr.indexAt 51 t15_8 t23_13) fun t24_14 =>
  rd Pg (Instr.loadAt 4 t24_14) w fun t25_15 =>
  J4 [t25_15] w)
  (J4 [undef] w)
theorem eq_image_get : ∀ (a0 a1 a2 : Value) (w : World) (K : Value → World → Prop), S_image_get a0 a1 a2 w K = codeS Pg (Try.f34.body.getD .skip) ann_image_get (topX Pg Try.f34.results K) (fun t => Array.getD #[a0, a1, a2] t undef) w := by
  intro a0 a1 a2 w K
  kernel_rfl
theorem call_image_get (a0 a1 a2 : Value) (w : World) (K : Value → World → Prop) (h : S_image_get a0 a1 a2 w K) : callS Pg n_image_get #[a0, a1, a2] w K :=
  callS_of mixed Try.func34 (c := Try.f34.body.getD .skip) (by kernel_rfl) (by kernel_rfl) (ann := ann_image_get) (by kernel_rfl) (Nat.le_of_ble_eq_true (by kernel_rfl)) (by rw [← eq_image_get]; exact h)

-- (*loop.example/g01165/impl.image).below
def ann_image_below : Ann :=
  (.seq none (.reg [⟨none, [], [0, 1, 2, 3]⟩] [])
  (.seq none (.reg [⟨none, [], [0, 1, 2]⟩] [])
  (.seq none (.seq none (.reg [⟨none, [], [0, 1]⟩] [])
  (.sub (.loop [10, 11] [22, 23, 24, 25, 12, 26, 27, 28, 29, 30, 31, 32, 33, 34, 35, 14, 36, 37, 38, 39, 40, 41, 42, 43, 44, 45, 46, 47, 48, 49, 50, 51, 52, 53, 54, 55, 56, 57, 58, 59, 60, 61, 62, 63, 15, 64, 65, 66, 67, 68, 69, 16, 70, 71, 73, 74, 75, 76, 77, 78, 72, 79, 80, 17, 18, 81, 82, 83, 84, 85, 86, 87, 88, 10, 11, 89]
  (.seq none (.reg [⟨none, [], [0, 1]⟩] [])
  (.seq none (.cond .leaf
  .leaf)
  (.sub (.seq none (.reg [⟨none, [], [0, 1, 2, 3]⟩] [])
  (.seq none (.reg [⟨none, [], [0, 1, 2, 3, 4, 5, 6]⟩] [])
  (.sub (.loop [10, 11, 32] [33, 34, 35, 14, 36, 37, 38, 39, 40, 41, 42, 43, 44, 45, 46, 47, 48, 49, 50, 51, 52, 53, 54, 55, 56, 57, 58, 59, 60, 61, 62, 63, 15, 64, 65, 66, 67, 68, 69, 16, 70, 71, 73, 74, 75, 76, 77, 78, 72, 79, 80, 17, 18, 81, 82, 83, 84, 85, 86, 87, 88, 10, 11, 89, 32]
  (.seq none (.reg [⟨none, [], [0]⟩] [])
  (.seq none (.cond .leaf
  .leaf)
  (.seq (some ([10, 11], [34, 35, 14, 36, 37, 38, 39, 40, 41, 42, 43, 44, 45, 46, 47, 48, 49, 50, 51, 52, 53, 54, 55, 56, 57, 58, 59, 60, 61, 62, 63, 15, 64, 65, 66, 67, 68, 69, 16, 70, 71, 73, 74, 75, 76, 77, 78, 72, 79, 80, 17, 18, 81, 82, 83, 84, 85, 86, 87, 88, 10, 11])) (.sub (.seq none (.reg [⟨none, [], [0, 1, 2, 3]⟩] [])
  (.seq none (.seq none (.reg [⟨none, [], [0, 1, 2, 3]⟩, ⟨some (3, false), [46], [4, 5, 6, 7, 8, 9, 10]⟩, ⟨none, [], [11, 12]⟩, ⟨some (12, false), [56], [13, 14, 15, 16, 17, 19, 18, 20]⟩, ⟨none, [], [21]⟩] [9, 18, 19])
  (.cond .leaf
  .leaf))
  (.seq none (.reg [⟨none, [], [0, 1, 2, 3, 4, 5, 6]⟩] [])
  (.seq none (.seq none (.reg [⟨none, [], [0, 1]⟩] [])
  (.sub (.loop [] [66, 67, 68, 69, 16, 70, 71]
  (.seq none (.reg [⟨none, [], [0, 1]⟩] [])
  (.seq none (.cond .leaf
  .leaf)
  (.sub (.seq none (.reg [⟨none, [], [0, 1, 2, 3]⟩] [])
  (.reg [⟨none, [], [0, 1, 2]⟩] []))))))))
  (.seq none (.reg [⟨none, [], [0, 1, 2, 3, 4, 5, 6, 7, 8, 9, 10]⟩] [])
  (.reg [⟨none, [], [0, 1, 2, 3, 4, 5, 6, 7, 8, 9]⟩] [])))))))
  (.reg [⟨none, [], [0, 1]⟩] []))))))))))))))
  (.seq none (.reg [⟨none, [], [0, 1]⟩] [])
  (.seq none (.reg [⟨none, [], [0, 1, 2, 3, 4, 5, 6]⟩] [])
  .leaf)))))
def S_image_below (a0 a1 a2 a3 : Value) (w : World) (K : Value → World → Prop) : Prop :=
  eff Pg (Instr.box 41 a0) w fun t4_1 w =>
  eff Pg (Instr.box 4 a2) w fun t6_2 w =>
  eff Pg (Instr.buildSlice 22 0 #[]) w fun t19_3 w =>
  eff Pg (Instr.range 59 a1) w fun t21_4 w =>
  loopS (fun N5 g6 s7 w =>
  eff Pg (Instr.next t21_4 Bool.false 0) w fun t22_8 w =>
  pur Pg (Instr.extract t22_8 0) fun t23_9 =>
  ifB t23_9 (eff Pg (Instr.entry t21_4) w fun t24_10 w =>
  pur Pg (Instr.extract t24_10 0) fun t25_11 =>
  eff Pg (Instr.alloc 50 true (.tuple #[])) w fun t12_12 w =>
  effU Pg (Instr.storeAt 50 t12_12 t25_11) w fun w =>
  pur Pg (Instr.fieldAt 50 t12_12 0) fun t26_13 =>
  rd Pg (Instr.loadAt 2 t26_13) w fun t27_14 =>
  pur Pg (Instr.fieldAt 50 t12_12 1) fun t28_15 =>
  rd Pg (Instr.loadAt 2 t28_15) w fun t29_16 =>
  callS Pg n_around #[t27_14, t29_16, (Go.Value.bool Bool.false)] w fun t30_17 w =>
  rd Pg (Builtin.len_ #[61] 3 #[t30_17]) w fun t31_18 =>
  loopS (fun N19 g20 s21 w =>
  pur Pg (binOp Go.BinOp.lss 3 (nth s21 2) t31_18) fun t33_22 =>
  ifB t33_22 (joinS (fun g23 s24 w =>
  pur Pg (binOp Go.BinOp.add 3 (nth s21 2) (Go.Value.int Go.IntKind.i64 1)) fun t89_26 =>
  N19 [(nth s24 0), (nth s24 1), t89_26] w) fun J25 =>
  pur Pg (Instr.indexAt 61 t30_17 (nth s21 2)) fun t34_27 =>
  rd Pg (Instr.loadAt 50 t34_27) w fun t35_28 =>
  eff Pg (Instr.alloc 50 true (.tuple #[])) w fun t14_29 w =>
  effU Pg (Instr.storeAt 50 t14_29 t35_28) w fun w =>
  drawF w fun S30 w =>
  rd Pg (Instr.loadAt 50 t14_29) w fun t37_31 =>
  rd Pg (Instr.lookup 59 a3 t37_31 Bool.false) w fun t38_32 =>
  joinS (fun g33 s34 w =>
  pickS t38_32 (Go.Value.bool Bool.true) (nth s34 0) fun t47_36 =>
  joinS (fun g37 s38 w =>
  pickS t47_36 (Go.Value.bool Bool.true) (nth s38 0) fun t57_40 =>
  ifB t57_40 (J25 [(nth s21 0), (nth s21 1)] w)
  (rd Pg (Instr.loadAt 50 t14_29) w fun t58_41 =>
  eff Pg (Instr.buildSlice 61 1 #[(0, t58_41)]) w fun t59_42 w =>
  rd Pg (Instr.loadAt 4 t6_2) w fun t60_43 =>
  pur Pg (Op.unary Go.UnOp.not t60_43) fun t61_44 =>
  callS Pg n_spread #[t59_42, t61_44, (Value.func (.func n_image_below_1) #[] #[t4_1, t6_2])] w fun t63_45 w =>
  eff Pg (Instr.range 59 t63_45) w fun t65_46 w =>
  loopS (fun N47 g48 s49 w =>
  eff Pg (Instr.next t65_46 Bool.false 0) w fun t66_50 w =>
  pur Pg (Instr.extract t66_50 0) fun t67_51 =>
  ifB t67_51 (eff Pg (Instr.entry t65_46) w fun t68_52 w =>
  pur Pg (Instr.extract t68_52 0) fun t69_53 =>
  eff Pg (Instr.alloc 50 true (.tuple #[])) w fun t16_54 w =>
  effU Pg (Instr.storeAt 50 t16_54 t69_53) w fun w =>
  rd Pg (Instr.loadAt 50 t16_54) w fun t71_55 =>
  effU Pg (Instr.mapUpdate 59 a3 t71_55 (Go.Value.bool Bool.true)) w fun w =>
  N47 [] w)
  (rd Pg (Instr.loadAt 41 t4_1) w fun t73_56 =>
  rd Pg (Instr.loadAt 4 t6_2) w fun t75_57 =>
  pur Pg (Op.unary Go.UnOp.not t75_57) fun t76_58 =>
  callS Pg n_image_below #[t73_56, t63_45, t76_58, a3] w fun t78_59 w =>
  pur Pg (Instr.extract t78_59 0) fun t79_60 =>
  pur Pg (Instr.extract t78_59 1) fun t80_61 =>
  eff Pg (Instr.buildSlice 22 1 #[(0, t79_60)]) w fun t83_62 w =>
  eff Pg (Builtin.append_ #[22, 22] 22 #[(nth s21 0), t83_62]) w fun t84_63 w =>
  pur Pg (binOp Go.BinOp.add 2 t80_61 (Go.Value.int Go.IntKind.i64 1)) fun t87_64 =>
  pur Pg (Builtin.max_ #[2, 2] 2 #[(nth s21 1), t87_64]) fun t88_65 =>
  J25 [t84_63, t88_65] w)) [] w)) fun J39 =>
  ifG t47_36 false (rd Pg (Instr.loadAt 41 t4_1) w fun t49_66 =>
  pur Pg (Instr.fieldAt 50 t14_29 0) fun t50_67 =>
  rd Pg (Instr.loadAt 2 t50_67) w fun t51_68 =>
  pur Pg (Instr.fieldAt 50 t14_29 1) fun t52_69 =>
  rd Pg (Instr.loadAt 2 t52_69) w fun t53_70 =>
  rdF Pg S30 (Instr.loadAt 4 t6_2) fun t55_71 =>
  callS Pg n_image_get #[t49_66, t51_68, t53_70] w fun t54_72 w =>
  S30 w ∧
  rd Pg (binSem Go.BinOp.eql 4 (Go.Operand.tmp 54) (Go.Operand.tmp 55) t54_72 t55_71) w fun t56_73 =>
  J39 [t56_73] w)
  (J39 [undef] w)) fun J35 =>
  ifG t38_32 false (rd Pg (Instr.loadAt 41 t4_1) w fun t40_74 =>
  pur Pg (Instr.fieldAt 50 t14_29 0) fun t41_75 =>
  rd Pg (Instr.loadAt 2 t41_75) w fun t42_76 =>
  pur Pg (Instr.fieldAt 50 t14_29 1) fun t43_77 =>
  rd Pg (Instr.loadAt 2 t43_77) w fun t44_78 =>
  callS Pg n_image_has #[t40_74, t42_76, t44_78] w fun t45_79 w =>
  S30 w ∧
  pur Pg (Op.unary Go.UnOp.not t45_79) fun t46_80 =>
  J35 [t46_80] w)
  (J35 [undef] w))
  (N5 [(nth s21 0), (nth s21 1)] w)) [(nth s7 0), (nth s7 1), (Go.Value.int Go.IntKind.i64 0)] w)
  (callS Pg n_slices_Sort_string_string #[(nth s7 0)] w fun t91_81 w =>
  callS Pg n_strings_Join #[(nth s7 0), (Go.Value.string (ByteArray.mk #[]))] w fun t93_82 w =>
  pur Pg (binOp Go.BinOp.add 9 (Go.Value.string (ByteArray.mk #[40])) t93_82) fun t94_83 =>
  pur Pg (binOp Go.BinOp.add 9 t94_83 (Go.Value.string (ByteArray.mk #[41]))) fun t95_84 =>
  K (Value.tuple #[t95_84, (nth s7 1)]) w)) [t19_3, (Go.Value.int Go.IntKind.i64 0)] w
theorem eq_image_below : ∀ (a0 a1 a2 a3 : Value) (w : World) (K : Value → World → Prop), S_image_below a0 a1 a2 a3 w K = codeS Pg (Try.f35.body.getD .skip) ann_image_below (topX Pg Try.f35.results K) (fun t => Array.getD #[a0, a1, a2, a3] t undef) w := by
  intro a0 a1 a2 a3 w K
  kernel_rfl
theorem call_image_below (a0 a1 a2 a3 : Value) (w : World) (K : Value → World → Prop) (h : S_image_below a0 a1 a2 a3 w K) : callS Pg n_image_below #[a0, a1, a2, a3] w K :=
  callS_of mixed Try.func35 (c := Try.f35.body.getD .skip) (by kernel_rfl) (by kernel_rfl) (ann := ann_image_below) (by kernel_rfl) (Nat.le_of_ble_eq_true (by kernel_rfl)) (by rw [← eq_image_below]; exact h)

-- loop.example/g01165/spec.l00In
def ann_l00In : Ann :=
  (.seq none (.reg [⟨none, [], [0]⟩] [])
  (.seq none (.reg [⟨none, [], [0, 1, 2, 3]⟩, ⟨some (3, true), [13], [4, 5, 6]⟩, ⟨none, [], [7, 8]⟩] [])
  .leaf))
def S_l00In (a0 a1 a2 : Value) (w : World) (K : Value → World → Prop) : Prop :=
  pur Pg (binOp Go.BinOp.geq 2 a0 a1) fun t9_1 =>
  joinS (fun g2 s3 w =>
  pickS t9_1 (nth s3 0) (Go.Value.bool Bool.false) fun t14_5 =>
  K t14_5 w) fun J4 =>
  ifG t9_1 true (pur Pg (binOp Go.BinOp.leq 2 a0 a2) fun t13_6 =>
  J4 [t13_6] w)
  (J4 [undef] w)
theorem eq_l00In : ∀ (a0 a1 a2 : Value) (w : World) (K : Value → World → Prop), S_l00In a0 a1 a2 w K = codeS Pg (Try.f36.body.getD .skip) ann_l00In (topX Pg Try.f36.results K) (fun t => Array.getD #[a0, a1, a2] t undef) w := by
  intro a0 a1 a2 w K
  kernel_rfl
theorem call_l00In (a0 a1 a2 : Value) (w : World) (K : Value → World → Prop) (h : S_l00In a0 a1 a2 w K) : callS Pg n_l00In #[a0, a1, a2] w K :=
  callS_of mixed Try.func36 (c := Try.f36.body.getD .skip) (by kernel_rfl) (by kernel_rfl) (ann := ann_l00In) (by kernel_rfl) (Nat.le_of_ble_eq_true (by kernel_rfl)) (by rw [← eq_l00In]; exact h)

-- loop.example/g01165/spec.l01Black
def ann_l01Black : Ann :=
  (.seq none (.reg [⟨none, [], [0]⟩] [])
  (.seq none (.reg [⟨none, [], [0, 1, 2, 3, 4]⟩, ⟨some (4, true), [21], [5, 6, 7, 8, 9, 10, 11, 12, 13, 14]⟩, ⟨none, [], [15, 16]⟩] [])
  .leaf))
def S_l01Black (a0 a1 a2 : Value) (w : World) (K : Value → World → Prop) : Prop :=
  callS Pg n_l01Has #[a0, a1, a2] w fun t10_1 w =>
  joinS (fun g2 s3 w =>
  pickS t10_1 (nth s3 0) (Go.Value.bool Bool.false) fun t22_5 =>
  K t22_5 w) fun J4 =>
  ifG t10_1 true (nilS a0 fun t13_6 =>
  pur Pg (Instr.fieldAt 28 t13_6 0) fun t14_7 =>
  rd Pg (Instr.loadAt 22 t14_7) w fun t15_8 =>
  pur Pg (Instr.indexAt 22 t15_8 a2) fun t17_9 =>
  rd Pg (Instr.loadAt 9 t17_9) w fun t18_10 =>
  pur Pg (Instr.index 9 t18_10 a1) fun t20_11 =>
  rd Pg (binSem Go.BinOp.eql 5 (Go.Operand.tmp 20) (Go.Operand.const (Go.Value.int Go.IntKind.u8 35)) t20_11 (Go.Value.int Go.IntKind.u8 35)) w fun t21_12 =>
  J4 [t21_12] w)
  (J4 [undef] w)
theorem eq_l01Black : ∀ (a0 a1 a2 : Value) (w : World) (K : Value → World → Prop), S_l01Black a0 a1 a2 w K = codeS Pg (Try.f37.body.getD .skip) ann_l01Black (topX Pg Try.f37.results K) (fun t => Array.getD #[a0, a1, a2] t undef) w := by
  intro a0 a1 a2 w K
  kernel_rfl
theorem call_l01Black (a0 a1 a2 : Value) (w : World) (K : Value → World → Prop) (h : S_l01Black a0 a1 a2 w K) : callS Pg n_l01Black #[a0, a1, a2] w K :=
  callS_of mixed Try.func37 (c := Try.f37.body.getD .skip) (by kernel_rfl) (by kernel_rfl) (ann := ann_l01Black) (by kernel_rfl) (Nat.le_of_ble_eq_true (by kernel_rfl)) (by rw [← eq_l01Black]; exact h)

-- loop.example/g01165/spec.l01Make
def ann_l01Make : Ann :=
  (.seq none (.reg [⟨none, [], [0]⟩] [])
  (.seq none (.reg [⟨none, [], [0, 1, 2, 3]⟩] [])
  (.seq none (.seq none (.reg [⟨none, [], [0]⟩] [])
  (.sub (.loop [6] [12, 13, 14, 15, 19, 7, 8, 20, 21, 22, 9, 25, 26, 27, 28, 29, 30, 31, 32, 33, 34, 23, 24, 35, 36, 37, 38, 39, 40, 41, 16, 17, 18, 6]
  (.seq none (.seq none (.reg [⟨none, [], [0, 1, 2, 3]⟩] [])
  (.cond .leaf
  .leaf))
  (.seq none (.sub (.seq none (.reg [⟨none, [], [0, 1]⟩] [])
  (.seq none (.seq none (.reg [⟨none, [], [0]⟩] [])
  (.sub (.loop [7, 8] [20, 21, 22, 9, 25, 26, 27, 28, 29, 30, 31, 32, 33, 34, 7, 23, 24, 8]
  (.seq none (.seq none (.reg [⟨none, [], [0, 1, 2]⟩] [])
  (.cond .leaf
  .leaf))
  (.seq none (.sub (.seq none (.reg [⟨none, [], [0]⟩] [])
  (.seq (some ([9], [25, 26, 27, 28, 29, 30, 9])) (.seq none (.reg [⟨none, [], [0, 1, 2, 3, 4, 5]⟩] [])
  (.cond (.reg [⟨none, [], [0]⟩] [])
  .leaf))
  (.reg [⟨none, [], [0, 1, 2, 3, 4]⟩] []))))
  (.reg [⟨none, [], [0, 1, 2]⟩] []))))))
  (.reg [⟨none, [], [0, 1, 2, 3, 4, 5, 6, 7]⟩] []))))
  (.reg [⟨none, [], [0, 1, 2, 3]⟩] []))))))
  (.seq none (.reg [⟨none, [], [0, 1]⟩] [])
  .leaf))))
def S_l01Make (a0 a1 : Value) (w : World) (K : Value → World → Prop) : Prop :=
  eff Pg (Instr.alloc 28 true (.tuple #[])) w fun t4_1 w =>
  eff Pg (Instr.buildSlice 22 0 #[]) w fun t10_2 w =>
  pur Pg (Instr.build 28 #[(0, t10_2)]) fun t11_3 =>
  eff Pg (Instr.alloc 28 true (.tuple #[])) w fun t5_4 w =>
  effU Pg (Instr.storeAt 28 t5_4 t11_3) w fun w =>
  loopS (fun N5 g6 s7 w =>
  rd Pg (Builtin.len_ #[51] 3 #[a1]) w fun t14_8 =>
  pur Pg (binOp Go.BinOp.lss 2 (nth s7 0) t14_8) fun t15_9 =>
  ifB t15_9 (eff Pg (Instr.buildSlice 76 0 #[]) w fun t19_10 w =>
  loopS (fun N11 g12 s13 w =>
  pur Pg (binOp Go.BinOp.lss 2 (nth s13 1) a0) fun t22_14 =>
  ifB t22_14 (joinS (fun g15 s16 w =>
  eff Pg (Instr.buildSlice 76 1 #[(0, (nth s16 0))]) w fun t33_18 w =>
  eff Pg (Builtin.append_ #[76, 76] 76 #[(nth s13 0), t33_18]) w fun t34_19 w =>
  pur Pg (binOp Go.BinOp.add 2 (nth s13 1) (Go.Value.int Go.IntKind.i64 1)) fun t24_20 =>
  N11 [t34_19, t24_20] w) fun J17 =>
  pur Pg (binOp Go.BinOp.add 2 (nth s7 0) (nth s13 1)) fun t28_21 =>
  pur Pg (Instr.indexAt 51 a1 t28_21) fun t29_22 =>
  rd Pg (Instr.loadAt 4 t29_22) w fun t30_23 =>
  ifB t30_23 (J17 [(Go.Value.int Go.IntKind.u8 35)] w)
  (J17 [(Go.Value.int Go.IntKind.u8 46)] w))
  (pur Pg (Instr.fieldAt 28 t5_4 0) fun t35_24 =>
  rd Pg (Instr.loadAt 22 t35_24) w fun t36_25 =>
  eff Pg (convert 76 9 (nth s13 0)) w fun t38_26 w =>
  eff Pg (Instr.buildSlice 22 1 #[(0, t38_26)]) w fun t39_27 w =>
  eff Pg (Builtin.append_ #[22, 22] 22 #[t36_25, t39_27]) w fun t40_28 w =>
  pur Pg (Instr.fieldAt 28 t5_4 0) fun t41_29 =>
  effU Pg (Instr.storeAt 22 t41_29 t40_28) w fun w =>
  pur Pg (binOp Go.BinOp.add 2 (nth s7 0) a0) fun t18_30 =>
  N5 [t18_30] w)) [t19_10, (Go.Value.int Go.IntKind.i64 0)] w)
  (rd Pg (Instr.loadAt 28 t5_4) w fun t42_31 =>
  effU Pg (Instr.storeAt 28 t4_1 t42_31) w fun w =>
  rd Pg (resCell 28 t4_1) w fun r32 =>
  K r32 w)) [(Go.Value.int Go.IntKind.i64 0)] w
theorem eq_l01Make : ∀ (a0 a1 : Value) (w : World) (K : Value → World → Prop), S_l01Make a0 a1 w K = codeS Pg (Try.f38.body.getD .skip) ann_l01Make (topX Pg Try.f38.results K) (fun t => Array.getD #[a0, a1] t undef) w := by
  intro a0 a1 w K
  kernel_rfl
theorem call_l01Make (a0 a1 : Value) (w : World) (K : Value → World → Prop) (h : S_l01Make a0 a1 w K) : callS Pg n_l01Make #[a0, a1] w K :=
  callS_of mixed Try.func38 (c := Try.f38.body.getD .skip) (by kernel_rfl) (by kernel_rfl) (ann := ann_l01Make) (by kernel_rfl) (Nat.le_of_ble_eq_true (by kernel_rfl)) (by rw [← eq_l01Make]; exact h)

-- loop.example/g01165/spec.l01Invert
def ann_l01Invert : Ann :=
  (.seq none (.reg [⟨none, [], [0]⟩] [])
  (.seq none (.reg [⟨none, [], [0, 1, 2]⟩] [])
  (.seq none (.seq none (.reg [⟨none, [], [0, 1, 2]⟩] [])
  (.sub (.loop [9] [10, 11, 4, 12, 13, 14, 15, 16, 17, 18, 19, 20, 9]
  (.seq none (.reg [⟨none, [], [0]⟩] [])
  (.seq none (.cond .leaf
  .leaf)
  (.seq none (.sub (.seq none (.reg [⟨none, [], [0, 1]⟩] [])
  (.reg [⟨none, [], [0, 1, 2, 3, 4, 5, 6, 7, 8]⟩] [])))
  (.reg [⟨none, [], [0, 1]⟩] [])))))))
  (.seq none (.reg [⟨none, [], [0, 1, 2, 3, 4]⟩] [])
  .leaf))))
def S_l01Invert (a0 : Value) (w : World) (K : Value → World → Prop) : Prop :=
  eff Pg (Instr.alloc 28 true (.tuple #[])) w fun t2_1 w =>
  callS Pg n_l01List #[a0] w fun t6_2 w =>
  rd Pg (Builtin.len_ #[51] 3 #[t6_2]) w fun t8_3 =>
  loopS (fun N4 g5 s6 w =>
  pur Pg (binOp Go.BinOp.lss 3 (nth s6 0) t8_3) fun t10_7 =>
  ifB t10_7 (pur Pg (Instr.indexAt 51 t6_2 (nth s6 0)) fun t16_8 =>
  rd Pg (Instr.loadAt 4 t16_8) w fun t17_9 =>
  pur Pg (Op.unary Go.UnOp.not t17_9) fun t18_10 =>
  pur Pg (Instr.indexAt 51 t6_2 (nth s6 0)) fun t19_11 =>
  effU Pg (Instr.storeAt 4 t19_11 t18_10) w fun w =>
  pur Pg (binOp Go.BinOp.add 3 (nth s6 0) (Go.Value.int Go.IntKind.i64 1)) fun t20_12 =>
  N4 [t20_12] w)
  (callS Pg n_l01Width #[a0] w fun t22_13 w =>
  callS Pg n_l01Make #[t22_13, t6_2] w fun t24_14 w =>
  effU Pg (Instr.storeAt 28 t2_1 t24_14) w fun w =>
  rd Pg (resCell 28 t2_1) w fun r15 =>
  K r15 w)) [(Go.Value.int Go.IntKind.i64 0)] w
theorem eq_l01Invert : ∀ (a0 : Value) (w : World) (K : Value → World → Prop), S_l01Invert a0 w K = codeS Pg (Try.f39.body.getD .skip) ann_l01Invert (topX Pg Try.f39.results K) (fun t => Array.getD #[a0] t undef) w := by
  intro a0 w K
  kernel_rfl
theorem call_l01Invert (a0 : Value) (w : World) (K : Value → World → Prop) (h : S_l01Invert a0 w K) : callS Pg n_l01Invert #[a0] w K :=
  callS_of mixed Try.func39 (c := Try.f39.body.getD .skip) (by kernel_rfl) (by kernel_rfl) (ann := ann_l01Invert) (by kernel_rfl) (Nat.le_of_ble_eq_true (by kernel_rfl)) (by rw [← eq_l01Invert]; exact h)

-- loop.example/g01165/spec.l05Part
def ann_l05Part : Ann :=
  (.seq none (.reg [⟨none, [], [0, 1]⟩] [])
  (.seq none (.reg [⟨none, [], [0, 1, 2, 3, 4, 5, 6]⟩] [])
  (.seq none (.reg [⟨none, [], [0]⟩] [])
  .leaf)))
def S_l05Part (a0 a1 a2 : Value) (w : World) (K : Value → World → Prop) : Prop :=
  eff Pg (Instr.box 50 a1) w fun t4_1 w =>
  rd Pg (Instr.loadAt 50 t4_1) w fun t9_2 =>
  eff Pg (Instr.buildSlice 61 1 #[(0, t9_2)]) w fun t10_3 w =>
  callS Pg n_l03Reach #[a0, t10_3, a2] w fun t12_4 w =>
  eff Pg (Instr.alloc 28 true (.tuple #[])) w fun t7_5 w =>
  effU Pg (Instr.storeAt 28 t7_5 t12_4) w fun w =>
  K t7_5 w
theorem eq_l05Part : ∀ (a0 a1 a2 : Value) (w : World) (K : Value → World → Prop), S_l05Part a0 a1 a2 w K = codeS Pg (Try.f40.body.getD .skip) ann_l05Part (topX Pg Try.f40.results K) (fun t => Array.getD #[a0, a1, a2] t undef) w := by
  intro a0 a1 a2 w K
  kernel_rfl
theorem call_l05Part (a0 a1 a2 : Value) (w : World) (K : Value → World → Prop) (h : S_l05Part a0 a1 a2 w K) : callS Pg n_l05Part #[a0, a1, a2] w K :=
  callS_of mixed Try.func40 (c := Try.f40.body.getD .skip) (by kernel_rfl) (by kernel_rfl) (ann := ann_l05Part) (by kernel_rfl) (Nat.le_of_ble_eq_true (by kernel_rfl)) (by rw [← eq_l05Part]; exact h)

-- loop.example/g01165/spec.l01Spots
def ann_l01Spots : Ann :=
  (.seq none (.reg [⟨none, [], [0]⟩] [])
  (.seq none (.reg [⟨none, [], [0, 1]⟩] [])
  (.seq none (.seq none (.reg [⟨none, [], [0]⟩] [])
  (.sub (.loop [3, 4] [7, 8, 9, 10, 5, 13, 14, 15, 16, 19, 20, 21, 22, 23, 24, 25, 26, 27, 28, 3, 17, 18, 11, 12, 4]
  (.seq none (.seq none (.reg [⟨none, [], [0, 1, 2, 3]⟩] [])
  (.cond .leaf
  .leaf))
  (.seq none (.sub (.seq none (.reg [⟨none, [], [0]⟩] [])
  (.sub (.loop [3, 5] [13, 14, 15, 16, 19, 20, 21, 22, 23, 24, 25, 26, 27, 28, 3, 17, 18, 5]
  (.seq none (.seq none (.reg [⟨none, [], [0, 1, 2, 3]⟩] [])
  (.cond .leaf
  .leaf))
  (.seq (some ([3], [19, 20, 21, 22, 23, 24, 25, 26, 27, 28, 3])) (.sub (.seq none (.reg [⟨none, [], [0, 1, 2, 3]⟩] [])
  (.cond (.reg [⟨none, [], [0, 1, 2, 3, 4, 5, 6]⟩] [])
  .leaf)))
  (.reg [⟨none, [], [0, 1, 2]⟩] [])))))))
  (.reg [⟨none, [], [0, 1, 2]⟩] []))))))
  (.seq none (.reg [⟨none, [], [0, 1]⟩] [])
  .leaf))))
def S_l01Spots (a0 : Value) (w : World) (K : Value → World → Prop) : Prop :=
  eff Pg (Instr.buildSlice 61 0 #[]) w fun t6_1 w =>
  loopS (fun N2 g3 s4 w =>
  callS Pg n_l01Height #[a0] w fun t9_5 w =>
  pur Pg (binOp Go.BinOp.lss 2 (nth s4 1) t9_5) fun t10_6 =>
  ifB t10_6 (loopS (fun N7 g8 s9 w =>
  callS Pg n_l01Width #[a0] w fun t15_10 w =>
  pur Pg (binOp Go.BinOp.lss 2 (nth s9 1) t15_10) fun t16_11 =>
  ifB t16_11 (joinS (fun g12 s13 w =>
  pur Pg (binOp Go.BinOp.add 2 (nth s9 1) (Go.Value.int Go.IntKind.i64 1)) fun t18_15 =>
  N7 [(nth s13 0), t18_15] w) fun J14 =>
  callS Pg n_l01Black #[a0, (nth s9 1), (nth s4 1)] w fun t22_16 w =>
  ifB t22_16 (pur Pg (Instr.build 50 #[(0, (nth s9 1)), (1, (nth s4 1))]) fun t26_17 =>
  eff Pg (Instr.buildSlice 61 1 #[(0, t26_17)]) w fun t27_18 w =>
  eff Pg (Builtin.append_ #[61, 61] 61 #[(nth s9 0), t27_18]) w fun t28_19 w =>
  J14 [t28_19] w)
  (J14 [(nth s9 0)] w))
  (pur Pg (binOp Go.BinOp.add 2 (nth s4 1) (Go.Value.int Go.IntKind.i64 1)) fun t12_20 =>
  N2 [(nth s9 0), t12_20] w)) [(nth s4 0), (Go.Value.int Go.IntKind.i64 0)] w)
  (K (nth s4 0) w)) [t6_1, (Go.Value.int Go.IntKind.i64 0)] w
theorem eq_l01Spots : ∀ (a0 : Value) (w : World) (K : Value → World → Prop), S_l01Spots a0 w K = codeS Pg (Try.f41.body.getD .skip) ann_l01Spots (topX Pg Try.f41.results K) (fun t => Array.getD #[a0] t undef) w := by
  intro a0 w K
  kernel_rfl
theorem call_l01Spots (a0 : Value) (w : World) (K : Value → World → Prop) (h : S_l01Spots a0 w K) : callS Pg n_l01Spots #[a0] w K :=
  callS_of mixed Try.func41 (c := Try.f41.body.getD .skip) (by kernel_rfl) (by kernel_rfl) (ann := ann_l01Spots) (by kernel_rfl) (Nat.le_of_ble_eq_true (by kernel_rfl)) (by rw [← eq_l01Spots]; exact h)

-- loop.example/g01165/spec.l03Steps
def ann_l03Steps : Ann :=
  (.seq none (.reg [⟨none, [], [0]⟩] [])
  (.seq none (.reg [⟨none, [], [0, 1, 2, 3, 4, 5]⟩] [])
  (.seq (some ([3], [9, 10, 11, 12, 13, 14, 15, 16, 3])) (.seq none (.reg [⟨none, [], [0]⟩] [])
  (.cond (.reg [⟨none, [], [0, 1, 2, 3, 4, 5, 6, 7]⟩] [])
  .leaf))
  (.seq none (.reg [⟨none, [], [0, 1]⟩] [])
  .leaf))))
def S_l03Steps (a0 : Value) (w : World) (K : Value → World → Prop) : Prop :=
  pur Pg (Instr.build 50 #[(0, (Go.Value.int Go.IntKind.i64 0)), (1, (Go.Value.int Go.IntKind.i64 (-1)))]) fun t4_1 =>
  pur Pg (Instr.build 50 #[(0, (Go.Value.int Go.IntKind.i64 (-1))), (1, (Go.Value.int Go.IntKind.i64 0))]) fun t5_2 =>
  pur Pg (Instr.build 50 #[(0, (Go.Value.int Go.IntKind.i64 1)), (1, (Go.Value.int Go.IntKind.i64 0))]) fun t6_3 =>
  pur Pg (Instr.build 50 #[(0, (Go.Value.int Go.IntKind.i64 0)), (1, (Go.Value.int Go.IntKind.i64 1))]) fun t7_4 =>
  eff Pg (Instr.buildSlice 61 4 #[(0, t4_1), (1, t5_2), (2, t6_3), (3, t7_4)]) w fun t8_5 w =>
  joinS (fun g6 s7 w =>
  K (nth s7 0) w) fun J8 =>
  ifB a0 (pur Pg (Instr.build 50 #[(0, (Go.Value.int Go.IntKind.i64 (-1))), (1, (Go.Value.int Go.IntKind.i64 (-1)))]) fun t11_9 =>
  pur Pg (Instr.build 50 #[(0, (Go.Value.int Go.IntKind.i64 1)), (1, (Go.Value.int Go.IntKind.i64 (-1)))]) fun t12_10 =>
  pur Pg (Instr.build 50 #[(0, (Go.Value.int Go.IntKind.i64 (-1))), (1, (Go.Value.int Go.IntKind.i64 1))]) fun t13_11 =>
  pur Pg (Instr.build 50 #[(0, (Go.Value.int Go.IntKind.i64 1)), (1, (Go.Value.int Go.IntKind.i64 1))]) fun t14_12 =>
  eff Pg (Instr.buildSlice 61 4 #[(0, t11_9), (1, t12_10), (2, t13_11), (3, t14_12)]) w fun t15_13 w =>
  eff Pg (Builtin.append_ #[61, 61] 61 #[t8_5, t15_13]) w fun t16_14 w =>
  J8 [t16_14] w)
  (J8 [t8_5] w)
theorem eq_l03Steps : ∀ (a0 : Value) (w : World) (K : Value → World → Prop), S_l03Steps a0 w K = codeS Pg (Try.f42.body.getD .skip) ann_l03Steps (topX Pg Try.f42.results K) (fun t => Array.getD #[a0] t undef) w := by
  intro a0 w K
  kernel_rfl
theorem call_l03Steps (a0 : Value) (w : World) (K : Value → World → Prop) (h : S_l03Steps a0 w K) : callS Pg n_l03Steps #[a0] w K :=
  callS_of mixed Try.func42 (c := Try.f42.body.getD .skip) (by kernel_rfl) (by kernel_rfl) (ann := ann_l03Steps) (by kernel_rfl) (Nat.le_of_ble_eq_true (by kernel_rfl)) (by rw [← eq_l03Steps]; exact h)

-- loop.example/g01165/spec.l01Has
def ann_l01Has : Ann :=
  (.seq none (.reg [⟨none, [], [0]⟩] [])
  (.seq none (.reg [⟨none, [], [0, 1, 2, 3, 4, 5]⟩, ⟨some (5, true), [17], [6, 7, 8, 9, 10]⟩, ⟨none, [], [11, 12]⟩] [])
  .leaf))
def S_l01Has (a0 a1 a2 : Value) (w : World) (K : Value → World → Prop) : Prop :=
  callS Pg n_l01Width #[a0] w fun t9_1 w =>
  pur Pg (binOp Go.BinOp.sub 2 t9_1 (Go.Value.int Go.IntKind.i64 1)) fun t10_2 =>
  callS Pg n_l00In #[a1, (Go.Value.int Go.IntKind.i64 0), t10_2] w fun t11_3 w =>
  joinS (fun g4 s5 w =>
  pickS t11_3 (nth s5 0) (Go.Value.bool Bool.false) fun t18_7 =>
  K t18_7 w) fun J6 =>
  ifG t11_3 true (callS Pg n_l01Height #[a0] w fun t15_8 w =>
  pur Pg (binOp Go.BinOp.sub 2 t15_8 (Go.Value.int Go.IntKind.i64 1)) fun t16_9 =>
  callS Pg n_l00In #[a2, (Go.Value.int Go.IntKind.i64 0), t16_9] w fun t17_10 w =>
  J6 [t17_10] w)
  (J6 [undef] w)
theorem eq_l01Has : ∀ (a0 a1 a2 : Value) (w : World) (K : Value → World → Prop), S_l01Has a0 a1 a2 w K = codeS Pg (Try.f43.body.getD .skip) ann_l01Has (topX Pg Try.f43.results K) (fun t => Array.getD #[a0, a1, a2] t undef) w := by
  intro a0 a1 a2 w K
  kernel_rfl
theorem call_l01Has (a0 a1 a2 : Value) (w : World) (K : Value → World → Prop) (h : S_l01Has a0 a1 a2 w K) : callS Pg n_l01Has #[a0, a1, a2] w K :=
  callS_of mixed Try.func43 (c := Try.f43.body.getD .skip) (by kernel_rfl) (by kernel_rfl) (ann := ann_l01Has) (by kernel_rfl) (Nat.le_of_ble_eq_true (by kernel_rfl)) (by rw [← eq_l01Has]; exact h)

-- loop.example/g01165/spec.l05Insert
def ann_l05Insert : Ann :=
  (.seq none (.reg [⟨none, [], [0]⟩] [])
  (.seq none (.reg [⟨none, [], [0]⟩] [])
  (.seq none (.sub (.loop [5] [7, 8, 9, 10, 11, 12, 13, 14, 15, 16, 17, 18, 19, 20, 5]
  (.seq none (.seq none (.reg [⟨none, [], [0, 1, 2, 3, 4]⟩, ⟨some (4, true), [17], [5, 6, 7, 8, 9, 10]⟩, ⟨none, [], [11]⟩] [])
  (.cond .leaf
  .leaf))
  (.sub (.reg [⟨none, [], [0, 1, 2]⟩] [])))))
  (.seq none (.reg [⟨none, [], [0, 1, 2, 3, 4, 5]⟩] [])
  (.seq none (.reg [⟨none, [], [0, 1, 2, 3, 4, 5, 6, 7, 8]⟩] [])
  .leaf)))))
def S_l05Insert (a0 a1 : Value) (w : World) (K : Value → World → Prop) : Prop :=
  loopS (fun N1 g2 s3 w =>
  rd Pg (Builtin.len_ #[22] 3 #[a0]) w fun t9_4 =>
  pur Pg (binOp Go.BinOp.lss 3 (nth s3 0) t9_4) fun t10_5 =>
  joinS (fun g6 s7 w =>
  pickS t10_5 (nth s7 0) (Go.Value.bool Bool.false) fun t18_9 =>
  ifB t18_9 (pur Pg (binOp Go.BinOp.add 3 (nth s3 0) (Go.Value.int Go.IntKind.i64 1)) fun t20_10 =>
  N1 [t20_10] w)
  (eff Pg (Instr.buildSlice 22 0 #[]) w fun t21_11 w =>
  pur Pg (Instr.sliceAt 22 a0 (some (nth s3 0)) none none) fun t24_12 =>
  eff Pg (Builtin.append_ #[22, 22] 22 #[t21_11, t24_12]) w fun t25_13 w =>
  pur Pg (Instr.sliceAt 22 a0 none (some (nth s3 0)) none) fun t28_14 =>
  eff Pg (Instr.buildSlice 22 1 #[(0, a1)]) w fun t30_15 w =>
  eff Pg (Builtin.append_ #[22, 22] 22 #[t28_14, t30_15]) w fun t31_16 w =>
  eff Pg (Builtin.append_ #[22, 22] 22 #[t31_16, t25_13]) w fun t33_17 w =>
  K t33_17 w)) fun J8 =>
  ifG t10_5 true (pur Pg (Instr.indexAt 22 a0 (nth s3 0)) fun t14_18 =>
  rd Pg (Instr.loadAt 9 t14_18) w fun t15_19 =>
  pur Pg (binOp Go.BinOp.lss 9 t15_19 a1) fun t17_20 =>
  J8 [t17_20] w)
  (J8 [undef] w)) [(Go.Value.int Go.IntKind.i64 0)] w
theorem eq_l05Insert : ∀ (a0 a1 : Value) (w : World) (K : Value → World → Prop), S_l05Insert a0 a1 w K = codeS Pg (Try.f44.body.getD .skip) ann_l05Insert (topX Pg Try.f44.results K) (fun t => Array.getD #[a0, a1] t undef) w := by
  intro a0 a1 w K
  kernel_rfl
theorem call_l05Insert (a0 a1 : Value) (w : World) (K : Value → World → Prop) (h : S_l05Insert a0 a1 w K) : callS Pg n_l05Insert #[a0, a1] w K :=
  callS_of mixed Try.func44 (c := Try.f44.body.getD .skip) (by kernel_rfl) (by kernel_rfl) (ann := ann_l05Insert) (by kernel_rfl) (Nat.le_of_ble_eq_true (by kernel_rfl)) (by rw [← eq_l05Insert]; exact h)

-- loop.example/g01165/spec.l00Max
def ann_l00Max : Ann :=
  (.seq none (.reg [⟨none, [], [0]⟩] [])
  (.seq none (.seq none (.reg [⟨none, [], [0, 1, 2]⟩] [])
  (.cond (.seq none (.reg [⟨none, [], [0, 1]⟩] [])
  .leaf)
  .leaf))
  (.seq none (.reg [⟨none, [], [0, 1]⟩] [])
  .leaf)))
def S_l00Max (a0 a1 : Value) (w : World) (K : Value → World → Prop) : Prop :=
  pur Pg (binOp Go.BinOp.gtr 2 a0 a1) fun t7_1 =>
  ifB t7_1 (K a0 w)
  (K a1 w)
theorem eq_l00Max : ∀ (a0 a1 : Value) (w : World) (K : Value → World → Prop), S_l00Max a0 a1 w K = codeS Pg (Try.f45.body.getD .skip) ann_l00Max (topX Pg Try.f45.results K) (fun t => Array.getD #[a0, a1] t undef) w := by
  intro a0 a1 w K
  kernel_rfl
theorem call_l00Max (a0 a1 : Value) (w : World) (K : Value → World → Prop) (h : S_l00Max a0 a1 w K) : callS Pg n_l00Max #[a0, a1] w K :=
  callS_of mixed Try.func45 (c := Try.f45.body.getD .skip) (by kernel_rfl) (by kernel_rfl) (ann := ann_l00Max) (by kernel_rfl) (Nat.le_of_ble_eq_true (by kernel_rfl)) (by rw [← eq_l00Max]; exact h)

-- loop.example/g01165/impl.in
def ann_in : Ann :=
  (.seq none (.reg [⟨none, [], [0]⟩] [])
  (.seq none (.reg [⟨none, [], [0, 1, 2, 3]⟩, ⟨some (3, true), [13], [4, 5, 6]⟩, ⟨none, [], [7, 8]⟩] [])
  .leaf))
def S_in (a0 a1 a2 : Value) (w : World) (K : Value → World → Prop) : Prop :=
  pur Pg (binOp Go.BinOp.geq 2 a0 a1) fun t9_1 =>
  joinS (fun g2 s3 w =>
  pickS t9_1 (nth s3 0) (Go.Value.bool Bool.false) fun t14_5 =>
  K t14_5 w) fun J4 =>
  ifG t9_1 true (pur Pg (binOp Go.BinOp.leq 2 a0 a2) fun t13_6 =>
  J4 [t13_6] w)
  (J4 [undef] w)
theorem eq_in : ∀ (a0 a1 a2 : Value) (w : World) (K : Value → World → Prop), S_in a0 a1 a2 w K = codeS Pg (Try.f46.body.getD .skip) ann_in (topX Pg Try.f46.results K) (fun t => Array.getD #[a0, a1, a2] t undef) w := by
  intro a0 a1 a2 w K
  kernel_rfl
theorem call_in (a0 a1 a2 : Value) (w : World) (K : Value → World → Prop) (h : S_in a0 a1 a2 w K) : callS Pg n_in #[a0, a1, a2] w K :=
  callS_of mixed Try.func46 (c := Try.f46.body.getD .skip) (by kernel_rfl) (by kernel_rfl) (ann := ann_in) (by kernel_rfl) (Nat.le_of_ble_eq_true (by kernel_rfl)) (by rw [← eq_in]; exact h)

-- loop.example/g01165/impl.made
def ann_made : Ann :=
  (.seq none (.reg [⟨none, [], [0, 1]⟩] [])
  (.seq none (.reg [⟨none, [], [0, 1, 2, 3, 4]⟩] [])
  (.seq none (.reg [⟨none, [], [0, 1, 2]⟩] [])
  (.seq none (.reg [⟨none, [], [0, 1]⟩] [])
  .leaf))))
def S_made (a0 a1 a2 : Value) (w : World) (K : Value → World → Prop) : Prop :=
  eff Pg (Instr.box 53 a2) w fun t5_1 w =>
  callS Pg n_blank #[a0, a1] w fun t10_2 w =>
  eff Pg (Instr.alloc 41 true (.tuple #[])) w fun t7_3 w =>
  effU Pg (Instr.storeAt 41 t7_3 t10_2) w fun w =>
  rd Pg (Instr.loadAt 41 t7_3) w fun t11_4 =>
  callS Pg n_image_each #[t11_4, (Value.func (.func n_made_1) #[] #[t7_3, t5_1])] w fun t13_5 w =>
  rd Pg (Instr.loadAt 41 t7_3) w fun t14_6 =>
  K t14_6 w
theorem eq_made : ∀ (a0 a1 a2 : Value) (w : World) (K : Value → World → Prop), S_made a0 a1 a2 w K = codeS Pg (Try.f47.body.getD .skip) ann_made (topX Pg Try.f47.results K) (fun t => Array.getD #[a0, a1, a2] t undef) w := by
  intro a0 a1 a2 w K
  kernel_rfl
theorem call_made (a0 a1 a2 : Value) (w : World) (K : Value → World → Prop) (h : S_made a0 a1 a2 w K) : callS Pg n_made #[a0, a1, a2] w K :=
  callS_of mixed Try.func47 (c := Try.f47.body.getD .skip) (by kernel_rfl) (by kernel_rfl) (ann := ann_made) (by kernel_rfl) (Nat.le_of_ble_eq_true (by kernel_rfl)) (by rw [← eq_made]; exact h)

-- (*loop.example/g01165/impl.image).framed$1
def ann_image_framed_1 : Ann :=
  (.seq none (.reg [⟨none, [], [0]⟩] [])
  (.seq none (.reg [⟨none, [], [0, 1, 2, 3, 4, 5, 6]⟩] [])
  .leaf))
def S_image_framed_1 (a0 a1 a2 : Value) (w : World) (K : Value → World → Prop) : Prop :=
  rd Pg (Instr.loadAt 41 a2) w fun t6_1 =>
  pur Pg (binOp Go.BinOp.sub 2 a0 (Go.Value.int Go.IntKind.i64 1)) fun t8_2 =>
  pur Pg (binOp Go.BinOp.sub 2 a1 (Go.Value.int Go.IntKind.i64 1)) fun t10_3 =>
  callS Pg n_image_get #[t6_1, t8_2, t10_3] w fun t11_4 w =>
  K t11_4 w
theorem eq_image_framed_1 : ∀ (a0 a1 a2 : Value) (w : World) (K : Value → World → Prop), S_image_framed_1 a0 a1 a2 w K = codeS Pg (Try.f48.body.getD .skip) ann_image_framed_1 (topX Pg Try.f48.results K) (fun t => Array.getD #[a0, a1, a2] t undef) w := by
  intro a0 a1 a2 w K
  kernel_rfl
theorem call_image_framed_1 (a0 a1 a2 : Value) (w : World) (K : Value → World → Prop) (h : S_image_framed_1 a0 a1 a2 w K) : callS Pg n_image_framed_1 #[a0, a1, a2] w K :=
  callS_of mixed Try.func48 (c := Try.f48.body.getD .skip) (by kernel_rfl) (by kernel_rfl) (ann := ann_image_framed_1) (by kernel_rfl) (Nat.le_of_ble_eq_true (by kernel_rfl)) (by rw [← eq_image_framed_1]; exact h)

-- loop.example/g01165/impl.around
def ann_around : Ann :=
  (.seq none (.reg [⟨none, [], [0]⟩] [])
  (.seq none (.reg [⟨none, [], [0, 1]⟩] [])
  (.seq none (.seq none (.reg [⟨none, [], [0]⟩] [])
  (.sub (.loop [7, 8] [11, 12, 9, 15, 16, 19, 20, 21, 22, 23, 24, 25, 26, 27, 28, 29, 30, 31, 32, 33, 34, 35, 36, 37, 38, 39, 40, 41, 42, 43, 44, 45, 7, 17, 18, 13, 14, 8]
  (.seq none (.seq none (.reg [⟨none, [], [0, 1]⟩] [])
  (.cond .leaf
  .leaf))
  (.seq none (.sub (.seq none (.reg [⟨none, [], [0]⟩] [])
  (.sub (.loop [7, 9] [15, 16, 19, 20, 21, 22, 23, 24, 25, 26, 27, 28, 29, 30, 31, 32, 33, 34, 35, 36, 37, 38, 39, 40, 41, 42, 43, 44, 45, 7, 17, 18, 9]
  (.seq none (.seq none (.reg [⟨none, [], [0, 1]⟩] [])
  (.cond .leaf
  .leaf))
  (.seq (some ([7], [19, 20, 21, 22, 23, 24, 25, 26, 27, 28, 29, 30, 31, 32, 33, 34, 35, 36, 37, 38, 39, 40, 41, 42, 43, 44, 45, 7])) (.sub (.seq none (.reg [⟨none, [], [0, 1, 2]⟩, ⟨some (2, false), [23], [3, 4]⟩, ⟨none, [], [5, 6]⟩, ⟨some (6, true), [27], [7, 8]⟩, ⟨some (8, false), [29], [9, 10]⟩, ⟨some (6, true), [31], [11, 12]⟩, ⟨some (12, false), [33], [13, 14]⟩, ⟨some (6, true), [34], [15]⟩, ⟨none, [], [16]⟩] [])
  (.cond (.reg [⟨none, [], [0, 1, 2, 3, 4, 5, 6, 7, 8, 9, 10]⟩] [])
  .leaf)))
  (.reg [⟨none, [], [0, 1, 2]⟩] [])))))))
  (.reg [⟨none, [], [0, 1, 2]⟩] []))))))
  (.seq none (.reg [⟨none, [], [0, 1]⟩] [])
  .leaf))))
def S_around (a0 a1 a2 : Value) (w : World) (K : Value → World → Prop) : Prop :=
  eff Pg (Instr.buildSlice 61 0 #[]) w fun t10_1 w =>
  loopS (fun N2 g3 s4 w =>
  pur Pg (binOp Go.BinOp.leq 2 (nth s4 1) (Go.Value.int Go.IntKind.i64 1)) fun t12_5 =>
  ifB t12_5 (loopS (fun N6 g7 s8 w =>
  pur Pg (binOp Go.BinOp.leq 2 (nth s8 1) (Go.Value.int Go.IntKind.i64 1)) fun t16_9 =>
  ifB t16_9 (joinS (fun g10 s11 w =>
  pur Pg (binOp Go.BinOp.add 2 (nth s8 1) (Go.Value.int Go.IntKind.i64 1)) fun t18_13 =>
  N6 [(nth s11 0), t18_13] w) fun J12 =>
  rd Pg (binSem Go.BinOp.neq 2 (Go.Operand.tmp 19) (Go.Operand.const (Go.Value.int Go.IntKind.i64 0)) (nth s8 1) (Go.Value.int Go.IntKind.i64 0)) w fun t20_14 =>
  joinS (fun g15 s16 w =>
  pickS t20_14 (Go.Value.bool Bool.true) (nth s16 0) fun t24_18 =>
  joinS (fun g19 s20 w =>
  joinS (fun g22 s23 w =>
  joinS (fun g25 s26 w =>
  joinS (fun g28 s29 w =>
  joinS (fun g31 s32 w =>
  pickS t24_18 (nth s32 0) (Go.Value.bool Bool.false) fun t35_34 =>
  ifB t35_34 (pur Pg (binOp Go.BinOp.add 2 a0 (nth s8 1)) fun t39_35 =>
  pur Pg (binOp Go.BinOp.add 2 a1 (nth s4 1)) fun t42_36 =>
  pur Pg (Instr.build 50 #[(0, t39_35), (1, t42_36)]) fun t43_37 =>
  eff Pg (Instr.buildSlice 61 1 #[(0, t43_37)]) w fun t44_38 w =>
  eff Pg (Builtin.append_ #[61, 61] 61 #[(nth s8 0), t44_38]) w fun t45_39 w =>
  J12 [t45_39] w)
  (J12 [(nth s8 0)] w)) fun J33 =>
  ifG t24_18 true (pickS (nth s26 0) (Go.Value.bool Bool.true) (nth s29 0) fun t34_40 =>
  J33 [t34_40] w)
  (J33 [undef] w)) fun J30 =>
  ifG (nth s26 0) false (rd Pg (binSem Go.BinOp.eql 2 (Go.Operand.tmp 32) (Go.Operand.const (Go.Value.int Go.IntKind.i64 0)) (nth s4 1) (Go.Value.int Go.IntKind.i64 0)) w fun t33_41 =>
  J30 [t33_41] w)
  (J30 [undef] w)) fun J27 =>
  ifG t24_18 true (pickS (nth s20 0) (Go.Value.bool Bool.true) (nth s23 0) fun t30_42 =>
  J27 [t30_42] w)
  (J27 [undef] w)) fun J24 =>
  ifG (nth s20 0) false (rd Pg (binSem Go.BinOp.eql 2 (Go.Operand.tmp 28) (Go.Operand.const (Go.Value.int Go.IntKind.i64 0)) (nth s8 1) (Go.Value.int Go.IntKind.i64 0)) w fun t29_43 =>
  J24 [t29_43] w)
  (J24 [undef] w)) fun J21 =>
  ifG t24_18 true (J21 [a2] w)
  (J21 [undef] w)) fun J17 =>
  ifG t20_14 false (rd Pg (binSem Go.BinOp.neq 2 (Go.Operand.tmp 22) (Go.Operand.const (Go.Value.int Go.IntKind.i64 0)) (nth s4 1) (Go.Value.int Go.IntKind.i64 0)) w fun t23_44 =>
  J17 [t23_44] w)
  (J17 [undef] w))
  (pur Pg (binOp Go.BinOp.add 2 (nth s4 1) (Go.Value.int Go.IntKind.i64 1)) fun t14_45 =>
  N2 [(nth s8 0), t14_45] w)) [(nth s4 0), (Go.Value.int Go.IntKind.i64 (-1))] w)
  (K (nth s4 0) w)) [t10_1, (Go.Value.int Go.IntKind.i64 (-1))] w
theorem eq_around : ∀ (a0 a1 a2 : Value) (w : World) (K : Value → World → Prop), S_around a0 a1 a2 w K = codeS Pg (Try.f49.body.getD .skip) ann_around (topX Pg Try.f49.results K) (fun t => Array.getD #[a0, a1, a2] t undef) w := by
  intro a0 a1 a2 w K
  kernel_rfl
theorem call_around (a0 a1 a2 : Value) (w : World) (K : Value → World → Prop) (h : S_around a0 a1 a2 w K) : callS Pg n_around #[a0, a1, a2] w K :=
  callS_of mixed Try.func49 (c := Try.f49.body.getD .skip) (by kernel_rfl) (by kernel_rfl) (ann := ann_around) (by kernel_rfl) (Nat.le_of_ble_eq_true (by kernel_rfl)) (by rw [← eq_around]; exact h)

-- (*loop.example/g01165/impl.image).below$1
def ann_image_below_1 : Ann :=
  (.seq none (.reg [⟨none, [], [0, 1]⟩] [])
  (.seq none (.reg [⟨none, [], [0, 1, 2, 3, 4, 5, 6]⟩, ⟨some (6, true), [19], [7, 8, 9, 10, 11, 13, 12, 14]⟩, ⟨none, [], [15, 16]⟩] [5, 12, 13])
  .leaf))
def S_image_below_1 (a0 a1 a2 : Value) (w : World) (K : Value → World → Prop) : Prop :=
  eff Pg (Instr.box 50 a0) w fun t3_1 w =>
  drawF w fun S2 w =>
  rd Pg (Instr.loadAt 41 a1) w fun t5_3 =>
  pur Pg (Instr.fieldAt 50 t3_1 0) fun t6_4 =>
  rd Pg (Instr.loadAt 2 t6_4) w fun t7_5 =>
  pur Pg (Instr.fieldAt 50 t3_1 1) fun t8_6 =>
  rd Pg (Instr.loadAt 2 t8_6) w fun t9_7 =>
  callS Pg n_image_has #[t5_3, t7_5, t9_7] w fun t10_8 w =>
  S2 w ∧
  joinS (fun g9 s10 w =>
  pickS t10_8 (nth s10 0) (Go.Value.bool Bool.false) fun t20_12 =>
  K t20_12 w) fun J11 =>
  ifG t10_8 true (rd Pg (Instr.loadAt 41 a1) w fun t12_13 =>
  pur Pg (Instr.fieldAt 50 t3_1 0) fun t13_14 =>
  rd Pg (Instr.loadAt 2 t13_14) w fun t14_15 =>
  pur Pg (Instr.fieldAt 50 t3_1 1) fun t15_16 =>
  rd Pg (Instr.loadAt 2 t15_16) w fun t16_17 =>
  rdF Pg S2 (Instr.loadAt 4 a2) fun t18_18 =>
  callS Pg n_image_get #[t12_13, t14_15, t16_17] w fun t17_19 w =>
  S2 w ∧
  rd Pg (binSem Go.BinOp.neq 4 (Go.Operand.tmp 17) (Go.Operand.tmp 18) t17_19 t18_18) w fun t19_20 =>
  J11 [t19_20] w)
  (J11 [undef] w)
theorem eq_image_below_1 : ∀ (a0 a1 a2 : Value) (w : World) (K : Value → World → Prop), S_image_below_1 a0 a1 a2 w K = codeS Pg (Try.f50.body.getD .skip) ann_image_below_1 (topX Pg Try.f50.results K) (fun t => Array.getD #[a0, a1, a2] t undef) w := by
  intro a0 a1 a2 w K
  kernel_rfl
theorem call_image_below_1 (a0 a1 a2 : Value) (w : World) (K : Value → World → Prop) (h : S_image_below_1 a0 a1 a2 w K) : callS Pg n_image_below_1 #[a0, a1, a2] w K :=
  callS_of mixed Try.func50 (c := Try.f50.body.getD .skip) (by kernel_rfl) (by kernel_rfl) (ann := ann_image_below_1) (by kernel_rfl) (Nat.le_of_ble_eq_true (by kernel_rfl)) (by rw [← eq_image_below_1]; exact h)

-- loop.example/g01165/spec.l01List
def ann_l01List : Ann :=
  (.seq none (.reg [⟨none, [], [0]⟩] [])
  (.seq none (.reg [⟨none, [], [0, 1]⟩] [])
  (.seq none (.seq none (.reg [⟨none, [], [0]⟩] [])
  (.sub (.loop [3, 4] [7, 8, 9, 10, 11, 12, 13, 5, 16, 17, 18, 19, 20, 21, 22, 23, 24, 25, 28, 29, 30, 31, 32, 33, 34, 35, 36, 37, 38, 39, 40, 3, 26, 27, 14, 15, 4]
  (.seq none (.seq none (.reg [⟨none, [], [0, 1, 2, 3, 4, 5, 6]⟩] [])
  (.cond .leaf
  .leaf))
  (.seq none (.sub (.seq none (.reg [⟨none, [], [0]⟩] [])
  (.sub (.loop [3, 5] [16, 17, 18, 19, 20, 21, 22, 23, 24, 25, 28, 29, 30, 31, 32, 33, 34, 35, 36, 37, 38, 39, 40, 3, 26, 27, 5]
  (.seq none (.seq none (.reg [⟨none, [], [0, 1, 2, 3, 4, 5, 6, 7, 8, 9]⟩] [])
  (.cond .leaf
  .leaf))
  (.seq none (.sub (.reg [⟨none, [], [0, 1, 2, 3, 4, 5, 6, 7, 8, 9, 10, 11, 12, 13]⟩] []))
  (.reg [⟨none, [], [0, 1, 2]⟩] [])))))))
  (.reg [⟨none, [], [0, 1, 2]⟩] []))))))
  (.seq none (.reg [⟨none, [], [0, 1]⟩] [])
  .leaf))))
def S_l01List (a0 : Value) (w : World) (K : Value → World → Prop) : Prop :=
  eff Pg (Instr.buildSlice 51 0 #[]) w fun t6_1 w =>
  loopS (fun N2 g3 s4 w =>
  nilS a0 fun t9_5 =>
  pur Pg (Instr.fieldAt 28 t9_5 0) fun t10_6 =>
  rd Pg (Instr.loadAt 22 t10_6) w fun t11_7 =>
  rd Pg (Builtin.len_ #[22] 3 #[t11_7]) w fun t12_8 =>
  pur Pg (binOp Go.BinOp.lss 3 (nth s4 1) t12_8) fun t13_9 =>
  ifB t13_9 (loopS (fun N10 g11 s12 w =>
  nilS a0 fun t18_13 =>
  pur Pg (Instr.fieldAt 28 t18_13 0) fun t19_14 =>
  rd Pg (Instr.loadAt 22 t19_14) w fun t20_15 =>
  pur Pg (Instr.indexAt 22 t20_15 (nth s4 1)) fun t22_16 =>
  rd Pg (Instr.loadAt 9 t22_16) w fun t23_17 =>
  rd Pg (Builtin.len_ #[9] 3 #[t23_17]) w fun t24_18 =>
  pur Pg (binOp Go.BinOp.lss 3 (nth s12 1) t24_18) fun t25_19 =>
  ifB t25_19 (nilS a0 fun t30_20 =>
  pur Pg (Instr.fieldAt 28 t30_20 0) fun t31_21 =>
  rd Pg (Instr.loadAt 22 t31_21) w fun t32_22 =>
  pur Pg (Instr.indexAt 22 t32_22 (nth s4 1)) fun t34_23 =>
  rd Pg (Instr.loadAt 9 t34_23) w fun t35_24 =>
  pur Pg (Instr.index 9 t35_24 (nth s12 1)) fun t37_25 =>
  rd Pg (binSem Go.BinOp.eql 5 (Go.Operand.tmp 37) (Go.Operand.const (Go.Value.int Go.IntKind.u8 35)) t37_25 (Go.Value.int Go.IntKind.u8 35)) w fun t38_26 =>
  eff Pg (Instr.buildSlice 51 1 #[(0, t38_26)]) w fun t39_27 w =>
  eff Pg (Builtin.append_ #[51, 51] 51 #[(nth s12 0), t39_27]) w fun t40_28 w =>
  pur Pg (binOp Go.BinOp.add 3 (nth s12 1) (Go.Value.int Go.IntKind.i64 1)) fun t27_29 =>
  N10 [t40_28, t27_29] w)
  (pur Pg (binOp Go.BinOp.add 3 (nth s4 1) (Go.Value.int Go.IntKind.i64 1)) fun t15_30 =>
  N2 [(nth s12 0), t15_30] w)) [(nth s4 0), (Go.Value.int Go.IntKind.i64 0)] w)
  (K (nth s4 0) w)) [t6_1, (Go.Value.int Go.IntKind.i64 0)] w
theorem eq_l01List : ∀ (a0 : Value) (w : World) (K : Value → World → Prop), S_l01List a0 w K = codeS Pg (Try.f53.body.getD .skip) ann_l01List (topX Pg Try.f53.results K) (fun t => Array.getD #[a0] t undef) w := by
  intro a0 w K
  kernel_rfl
theorem call_l01List (a0 : Value) (w : World) (K : Value → World → Prop) (h : S_l01List a0 w K) : callS Pg n_l01List #[a0] w K :=
  callS_of mixed Try.func53 (c := Try.f53.body.getD .skip) (by kernel_rfl) (by kernel_rfl) (ann := ann_l01List) (by kernel_rfl) (Nat.le_of_ble_eq_true (by kernel_rfl)) (by rw [← eq_l01List]; exact h)

-- loop.example/g01165/spec.l03Reach
def ann_l03Reach : Ann :=
  (.seq none (.reg [⟨none, [], [0]⟩] [])
  (.seq none (.reg [⟨none, [], [0, 1, 2]⟩] [])
  (.seq none (.reg [⟨none, [], [0, 1, 2, 3, 4, 5]⟩] [])
  (.seq none (.reg [⟨none, [], [0, 1]⟩] [])
  (.seq none (.seq none (.reg [⟨none, [], [0]⟩] [])
  (.sub (.loop [9, 10] [24, 25, 26, 27, 30, 31, 32, 33, 34, 35, 36, 37, 38, 39, 40, 41, 42, 43, 44, 45, 46, 47, 48, 49, 50, 51, 52, 53, 54, 55, 56, 57, 58, 59, 60, 61, 62, 63, 64, 65, 66, 67, 68, 69, 70, 71, 72, 73, 74, 75, 76, 77, 78, 79, 80, 81, 82, 9, 28, 29, 10]
  (.seq none (.seq none (.reg [⟨none, [], [0, 1, 2, 3]⟩] [])
  (.cond .leaf
  .leaf))
  (.seq (some ([9], [30, 31, 32, 33, 34, 35, 36, 37, 38, 39, 40, 41, 42, 43, 44, 45, 46, 47, 48, 49, 50, 51, 52, 53, 54, 55, 56, 57, 58, 59, 60, 61, 62, 63, 64, 65, 66, 67, 68, 69, 70, 71, 72, 73, 74, 75, 76, 77, 78, 79, 80, 81, 82, 9])) (.sub (.seq none (.reg [⟨none, [], [0, 1, 2, 3, 4, 5, 6, 7, 8, 9, 10, 11, 12]⟩, ⟨some (12, true), [59], [13, 14, 15, 16, 17, 18, 19, 20, 21, 22, 23, 24, 25, 26, 27, 28, 29]⟩, ⟨none, [], [30]⟩] [])
  (.cond (.seq none (.reg [⟨none, [], [0, 1, 2, 3, 4, 5, 6, 7, 8, 9, 10, 11, 12, 13, 14, 15]⟩] [])
  (.reg [⟨none, [], [0, 1, 2, 3, 4, 5, 6, 7]⟩] []))
  .leaf)))
  (.reg [⟨none, [], [0, 1, 2]⟩] []))))))
  (.seq none (.reg [⟨none, [], [0, 1, 2]⟩] [])
  (.seq none (.seq none (.reg [⟨none, [], [0]⟩] [])
  (.sub (.loop [9, 12] [85, 86, 87, 88, 13, 91, 92, 93, 94, 97, 98, 99, 100, 101, 102, 103, 104, 105, 106, 107, 14, 108, 109, 110, 111, 112, 113, 114, 115, 116, 117, 118, 15, 119, 120, 121, 122, 123, 124, 125, 126, 127, 128, 129, 130, 131, 132, 133, 134, 135, 136, 137, 138, 139, 140, 141, 142, 143, 144, 145, 146, 9, 95, 96, 89, 90, 12]
  (.seq none (.seq none (.reg [⟨none, [], [0, 1, 2, 3]⟩] [])
  (.cond .leaf
  .leaf))
  (.seq none (.sub (.seq none (.reg [⟨none, [], [0]⟩] [])
  (.sub (.loop [9, 13] [91, 92, 93, 94, 97, 98, 99, 100, 101, 102, 103, 104, 105, 106, 107, 14, 108, 109, 110, 111, 112, 113, 114, 115, 116, 117, 118, 15, 119, 120, 121, 122, 123, 124, 125, 126, 127, 128, 129, 130, 131, 132, 133, 134, 135, 136, 137, 138, 139, 140, 141, 142, 143, 144, 145, 146, 9, 95, 96, 13]
  (.seq none (.seq none (.reg [⟨none, [], [0, 1, 2, 3]⟩] [])
  (.cond .leaf
  .leaf))
  (.seq (some ([9], [97, 98, 99, 100, 101, 102, 103, 104, 105, 106, 107, 14, 108, 109, 110, 111, 112, 113, 114, 115, 116, 117, 118, 15, 119, 120, 121, 122, 123, 124, 125, 126, 127, 128, 129, 130, 131, 132, 133, 134, 135, 136, 137, 138, 139, 140, 141, 142, 143, 144, 145, 146, 9])) (.sub (.seq none (.reg [⟨none, [], [0, 1, 2, 3, 4, 5, 6, 7, 8, 9, 10, 11]⟩] [])
  (.seq none (.reg [⟨none, [], [0, 1, 2, 3, 4, 5, 6, 7, 8, 9, 10, 11]⟩] [])
  (.seq none (.reg [⟨none, [], [0, 1, 2, 3, 4]⟩, ⟨some (4, true), [132], [5, 6, 7, 8, 9, 10, 11, 12, 13]⟩, ⟨none, [], [14]⟩] [])
  (.cond (.seq none (.reg [⟨none, [], [0, 1, 2, 3, 4, 5, 6, 7]⟩] [])
  (.reg [⟨none, [], [0, 1, 2, 3, 4, 5, 6]⟩] []))
  .leaf)))))
  (.reg [⟨none, [], [0, 1, 2]⟩] [])))))))
  (.reg [⟨none, [], [0, 1, 2]⟩] []))))))
  (.seq none (.reg [⟨none, [], [0, 1, 2, 3]⟩] [])
  .leaf))))))))
def S_l03Reach (a0 a1 a2 : Value) (w : World) (K : Value → World → Prop) : Prop :=
  eff Pg (Instr.alloc 28 true (.tuple #[])) w fun t6_1 w =>
  callS Pg n_l01Width #[a0] w fun t17_2 w =>
  callS Pg n_l01Height #[a0] w fun t20_3 w =>
  pur Pg (binOp Go.BinOp.mul 2 t17_2 t20_3) fun t21_4 =>
  eff Pg (Instr.makeSlice 51 t21_4 t21_4) w fun t22_5 w =>
  eff Pg (Instr.buildSlice 61 0 #[]) w fun t23_6 w =>
  loopS (fun N7 g8 s9 w =>
  rd Pg (Builtin.len_ #[61] 3 #[a1]) w fun t26_10 =>
  pur Pg (binOp Go.BinOp.lss 3 (nth s9 1) t26_10) fun t27_11 =>
  ifB t27_11 (joinS (fun g12 s13 w =>
  pur Pg (binOp Go.BinOp.add 3 (nth s9 1) (Go.Value.int Go.IntKind.i64 1)) fun t29_15 =>
  N7 [(nth s13 0), t29_15] w) fun J14 =>
  drawS w fun w =>
  pur Pg (Instr.indexAt 61 a1 (nth s9 1)) fun t33_16 =>
  pur Pg (Instr.fieldAt 50 t33_16 0) fun t34_17 =>
  rd Pg (Instr.loadAt 2 t34_17) w fun t35_18 =>
  pur Pg (Instr.indexAt 61 a1 (nth s9 1)) fun t38_19 =>
  pur Pg (Instr.fieldAt 50 t38_19 1) fun t39_20 =>
  rd Pg (Instr.loadAt 2 t39_20) w fun t40_21 =>
  callS Pg n_l01Black #[a0, t35_18, t40_21] w fun t41_22 w =>
  joinS (fun g23 s24 w =>
  pickS t41_22 (nth s24 0) (Go.Value.bool Bool.false) fun t60_26 =>
  ifB t60_26 (drawS w fun w =>
  pur Pg (Instr.indexAt 61 a1 (nth s9 1)) fun t64_27 =>
  pur Pg (Instr.fieldAt 50 t64_27 1) fun t65_28 =>
  rd Pg (Instr.loadAt 2 t65_28) w fun t66_29 =>
  pur Pg (binOp Go.BinOp.mul 2 t66_29 t17_2) fun t68_30 =>
  pur Pg (Instr.indexAt 61 a1 (nth s9 1)) fun t71_31 =>
  pur Pg (Instr.fieldAt 50 t71_31 0) fun t72_32 =>
  rd Pg (Instr.loadAt 2 t72_32) w fun t73_33 =>
  pur Pg (binOp Go.BinOp.add 2 t68_30 t73_33) fun t74_34 =>
  pur Pg (Instr.indexAt 51 t22_5 t74_34) fun t75_35 =>
  effU Pg (Instr.storeAt 4 t75_35 (Go.Value.bool Bool.true)) w fun w =>
  pur Pg (Instr.indexAt 61 a1 (nth s9 1)) fun t79_36 =>
  rd Pg (Instr.loadAt 50 t79_36) w fun t80_37 =>
  eff Pg (Instr.buildSlice 61 1 #[(0, t80_37)]) w fun t81_38 w =>
  eff Pg (Builtin.append_ #[61, 61] 61 #[(nth s9 0), t81_38]) w fun t82_39 w =>
  J14 [t82_39] w)
  (J14 [(nth s9 0)] w)) fun J25 =>
  ifG t41_22 true (pur Pg (Instr.indexAt 61 a1 (nth s9 1)) fun t46_40 =>
  pur Pg (Instr.fieldAt 50 t46_40 1) fun t47_41 =>
  rd Pg (Instr.loadAt 2 t47_41) w fun t48_42 =>
  pur Pg (binOp Go.BinOp.mul 2 t48_42 t17_2) fun t50_43 =>
  pur Pg (Instr.indexAt 61 a1 (nth s9 1)) fun t53_44 =>
  pur Pg (Instr.fieldAt 50 t53_44 0) fun t54_45 =>
  rd Pg (Instr.loadAt 2 t54_45) w fun t55_46 =>
  pur Pg (binOp Go.BinOp.add 2 t50_43 t55_46) fun t56_47 =>
  pur Pg (Instr.indexAt 51 t22_5 t56_47) fun t57_48 =>
  rd Pg (Instr.loadAt 4 t57_48) w fun t58_49 =>
  pur Pg (Op.unary Go.UnOp.not t58_49) fun t59_50 =>
  J25 [t59_50] w)
  (J25 [undef] w))
  (callS Pg n_l03Steps #[a2] w fun t84_51 w =>
  loopS (fun N52 g53 s54 w =>
  rd Pg (Builtin.len_ #[61] 3 #[(nth s54 0)]) w fun t87_55 =>
  pur Pg (binOp Go.BinOp.lss 3 (nth s54 1) t87_55) fun t88_56 =>
  ifB t88_56 (loopS (fun N57 g58 s59 w =>
  rd Pg (Builtin.len_ #[61] 3 #[t84_51]) w fun t93_60 =>
  pur Pg (binOp Go.BinOp.lss 3 (nth s59 1) t93_60) fun t94_61 =>
  ifB t94_61 (joinS (fun g62 s63 w =>
  pur Pg (binOp Go.BinOp.add 3 (nth s59 1) (Go.Value.int Go.IntKind.i64 1)) fun t96_65 =>
  N57 [(nth s63 0), t96_65] w) fun J64 =>
  drawS w fun w =>
  pur Pg (Instr.indexAt 61 (nth s59 0) (nth s54 1)) fun t99_66 =>
  pur Pg (Instr.fieldAt 50 t99_66 0) fun t100_67 =>
  rd Pg (Instr.loadAt 2 t100_67) w fun t101_68 =>
  pur Pg (Instr.indexAt 61 t84_51 (nth s59 1)) fun t104_69 =>
  pur Pg (Instr.fieldAt 50 t104_69 0) fun t105_70 =>
  rd Pg (Instr.loadAt 2 t105_70) w fun t106_71 =>
  pur Pg (binOp Go.BinOp.add 2 t101_68 t106_71) fun t107_72 =>
  drawS w fun w =>
  pur Pg (Instr.indexAt 61 (nth s59 0) (nth s54 1)) fun t110_73 =>
  pur Pg (Instr.fieldAt 50 t110_73 1) fun t111_74 =>
  rd Pg (Instr.loadAt 2 t111_74) w fun t112_75 =>
  pur Pg (Instr.indexAt 61 t84_51 (nth s59 1)) fun t115_76 =>
  pur Pg (Instr.fieldAt 50 t115_76 1) fun t116_77 =>
  rd Pg (Instr.loadAt 2 t116_77) w fun t117_78 =>
  pur Pg (binOp Go.BinOp.add 2 t112_75 t117_78) fun t118_79 =>
  callS Pg n_l01Black #[a0, t107_72, t118_79] w fun t122_80 w =>
  joinS (fun g81 s82 w =>
  pickS t122_80 (nth s82 0) (Go.Value.bool Bool.false) fun t133_84 =>
  ifB t133_84 (pur Pg (binOp Go.BinOp.mul 2 t118_79 t17_2) fun t137_85 =>
  pur Pg (binOp Go.BinOp.add 2 t137_85 t107_72) fun t139_86 =>
  pur Pg (Instr.indexAt 51 t22_5 t139_86) fun t140_87 =>
  effU Pg (Instr.storeAt 4 t140_87 (Go.Value.bool Bool.true)) w fun w =>
  pur Pg (Instr.build 50 #[(0, t107_72), (1, t118_79)]) fun t144_88 =>
  eff Pg (Instr.buildSlice 61 1 #[(0, t144_88)]) w fun t145_89 w =>
  eff Pg (Builtin.append_ #[61, 61] 61 #[(nth s59 0), t145_89]) w fun t146_90 w =>
  J64 [t146_90] w)
  (J64 [(nth s59 0)] w)) fun J83 =>
  ifG t122_80 true (pur Pg (binOp Go.BinOp.mul 2 t118_79 t17_2) fun t127_91 =>
  pur Pg (binOp Go.BinOp.add 2 t127_91 t107_72) fun t129_92 =>
  pur Pg (Instr.indexAt 51 t22_5 t129_92) fun t130_93 =>
  rd Pg (Instr.loadAt 4 t130_93) w fun t131_94 =>
  pur Pg (Op.unary Go.UnOp.not t131_94) fun t132_95 =>
  J83 [t132_95] w)
  (J83 [undef] w))
  (pur Pg (binOp Go.BinOp.add 3 (nth s54 1) (Go.Value.int Go.IntKind.i64 1)) fun t90_96 =>
  N52 [(nth s59 0), t90_96] w)) [(nth s54 0), (Go.Value.int Go.IntKind.i64 0)] w)
  (callS Pg n_l01Make #[t17_2, t22_5] w fun t149_97 w =>
  effU Pg (Instr.storeAt 28 t6_1 t149_97) w fun w =>
  rd Pg (resCell 28 t6_1) w fun r98 =>
  K r98 w)) [(nth s9 0), (Go.Value.int Go.IntKind.i64 0)] w)) [t23_6, (Go.Value.int Go.IntKind.i64 0)] w
theorem eq_l03Reach : ∀ (a0 a1 a2 : Value) (w : World) (K : Value → World → Prop), S_l03Reach a0 a1 a2 w K = codeS Pg (Try.f54.body.getD .skip) ann_l03Reach (topX Pg Try.f54.results K) (fun t => Array.getD #[a0, a1, a2] t undef) w := by
  intro a0 a1 a2 w K
  kernel_rfl
theorem call_l03Reach (a0 a1 a2 : Value) (w : World) (K : Value → World → Prop) (h : S_l03Reach a0 a1 a2 w K) : callS Pg n_l03Reach #[a0, a1, a2] w K :=
  callS_of mixed Try.func54 (c := Try.f54.body.getD .skip) (by kernel_rfl) (by kernel_rfl) (ann := ann_l03Reach) (by kernel_rfl) (Nat.le_of_ble_eq_true (by kernel_rfl)) (by rw [← eq_l03Reach]; exact h)

-- (*loop.example/g01165/impl.image).each
def ann_image_each : Ann :=
  (.seq none (.reg [⟨none, [], [0, 1, 2, 3, 4]⟩] [])
  (.sub (.loop [10] [11, 12, 4, 13, 14, 15, 16, 17, 18, 19, 5, 20, 21, 22, 23, 24, 25, 10]
  (.seq none (.reg [⟨none, [], [0]⟩] [])
  (.seq none (.cond .leaf
  .leaf)
  (.seq none (.sub (.seq none (.reg [⟨none, [], [0, 1]⟩] [])
  (.seq none (.reg [⟨none, [], [0, 1, 2, 3, 4]⟩] [])
  (.sub (.loop [17] [18, 19, 5, 20, 21, 22, 23, 24, 17]
  (.seq none (.reg [⟨none, [], [0]⟩] [])
  (.seq none (.cond .leaf
  .leaf)
  (.seq none (.sub (.seq none (.reg [⟨none, [], [0, 1]⟩] [])
  (.reg [⟨none, [], [0, 1, 2, 3]⟩] [])))
  (.reg [⟨none, [], [0, 1]⟩] [])))))))))
  (.reg [⟨none, [], [0, 1]⟩] [])))))))
def S_image_each (a0 a1 : Value) (w : World) (K : Value → World → Prop) : Prop :=
  nilS a0 fun t7_1 =>
  pur Pg (Instr.fieldAt 56 t7_1 1) fun t8_2 =>
  rd Pg (Instr.loadAt 2 t8_2) w fun t9_3 =>
  loopS (fun N4 g5 s6 w =>
  pur Pg (binOp Go.BinOp.lss 2 (nth s6 0) t9_3) fun t11_7 =>
  ifB t11_7 (nilS a0 fun t14_8 =>
  pur Pg (Instr.fieldAt 56 t14_8 0) fun t15_9 =>
  rd Pg (Instr.loadAt 2 t15_9) w fun t16_10 =>
  loopS (fun N11 g12 s13 w =>
  pur Pg (binOp Go.BinOp.lss 2 (nth s13 0) t16_10) fun t18_14 =>
  ifB t18_14 (callV Pg a1 #[(nth s13 0), (nth s6 0)] w fun t23_15 w =>
  pur Pg (binOp Go.BinOp.add 2 (nth s13 0) (Go.Value.int Go.IntKind.i64 1)) fun t24_16 =>
  N11 [t24_16] w)
  (pur Pg (binOp Go.BinOp.add 2 (nth s6 0) (Go.Value.int Go.IntKind.i64 1)) fun t25_17 =>
  N4 [t25_17] w)) [(Go.Value.int Go.IntKind.i64 0)] w)
  (K (Value.tuple #[]) w)) [(Go.Value.int Go.IntKind.i64 0)] w
theorem eq_image_each : ∀ (a0 a1 : Value) (w : World) (K : Value → World → Prop), S_image_each a0 a1 w K = codeS Pg (Try.f55.body.getD .skip) ann_image_each (topX Pg Try.f55.results K) (fun t => Array.getD #[a0, a1] t undef) w := by
  intro a0 a1 w K
  kernel_rfl
theorem call_image_each (a0 a1 : Value) (w : World) (K : Value → World → Prop) (h : S_image_each a0 a1 w K) : callS Pg n_image_each #[a0, a1] w K :=
  callS_of mixed Try.func55 (c := Try.f55.body.getD .skip) (by kernel_rfl) (by kernel_rfl) (ann := ann_image_each) (by kernel_rfl) (Nat.le_of_ble_eq_true (by kernel_rfl)) (by rw [← eq_image_each]; exact h)

-- loop.example/g01165/impl.made$1
def ann_made_1 : Ann :=
  (.reg [⟨none, [], [0, 1, 2, 3, 4, 5, 6, 7]⟩] [0, 6])
def S_made_1 (a0 a1 a2 a3 : Value) (w : World) (K : Value → World → Prop) : Prop :=
  drawF w fun S1 w =>
  rdF Pg S1 (Instr.loadAt 41 a2) fun t6_2 =>
  rd Pg (Instr.loadAt 53 a3) w fun t9_3 =>
  callV Pg t9_3 #[a0, a1] w fun t12_4 w =>
  S1 w ∧
  callS Pg n_image_set #[t6_2, a0, a1, t12_4] w fun t13_5 w =>
  K (Value.tuple #[]) w
theorem eq_made_1 : ∀ (a0 a1 a2 a3 : Value) (w : World) (K : Value → World → Prop), S_made_1 a0 a1 a2 a3 w K = codeS Pg (Try.f56.body.getD .skip) ann_made_1 (topX Pg Try.f56.results K) (fun t => Array.getD #[a0, a1, a2, a3] t undef) w := by
  intro a0 a1 a2 a3 w K
  kernel_rfl
theorem call_made_1 (a0 a1 a2 a3 : Value) (w : World) (K : Value → World → Prop) (h : S_made_1 a0 a1 a2 a3 w K) : callS Pg n_made_1 #[a0, a1, a2, a3] w K :=
  callS_of mixed Try.func56 (c := Try.f56.body.getD .skip) (by kernel_rfl) (by kernel_rfl) (ann := ann_made_1) (by kernel_rfl) (Nat.le_of_ble_eq_true (by kernel_rfl)) (by rw [← eq_made_1]; exact h)
end Go.Proofs.Ytnpkcdegckfjeaa
