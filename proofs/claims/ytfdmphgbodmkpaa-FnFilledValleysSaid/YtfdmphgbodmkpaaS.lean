/- The S-forms of this seat's functions, printed by a program (gen.py) and held against the code by the kernel. -/
import Derived.Test.YtfdmphgbodmkpaaS0
set_option linter.unusedVariables false
set_option linter.unusedSimpArgs false
namespace Go.Proofs.Ytfdmphgbodmkpaa
open Go Go.SL
set_option maxRecDepth 100000
-- loop.example/g01165/impl.rowsOk$1
def ann_rowsOk_1 : Ann :=
  (.seq none (.reg [⟨none, [], [0]⟩] [])
  (.seq none (.reg [⟨none, [], [0, 1, 2, 3, 4, 5, 6, 7]⟩, ⟨some (7, false), [15], [8, 9, 10]⟩, ⟨none, [], [11, 12]⟩] [])
  .leaf))
def S_rowsOk_1 (a0 a1 a2 : Value) (w : World) (K : Value → World → Prop) : Prop :=
  rd Pg (Builtin.len_ #[34] 3 #[a0]) w fun t6_1 =>
  rd Pg (Instr.loadAt 24 a1) w fun t7_2 =>
  pur Pg (Instr.indexAt 24 t7_2 (Go.Value.int Go.IntKind.i64 0)) fun t8_3 =>
  rd Pg (Instr.loadAt 34 t8_3) w fun t9_4 =>
  rd Pg (Builtin.len_ #[34] 3 #[t9_4]) w fun t10_5 =>
  rd Pg (binSem Go.BinOp.neq 3 (Go.Operand.tmp 6) (Go.Operand.tmp 10) t6_1 t10_5) w fun t11_6 =>
  joinS (fun g7 s8 w =>
  pickS t11_6 (Go.Value.bool Bool.true) (nth s8 0) fun t16_10 =>
  K t16_10 w) fun J9 =>
  ifG t11_6 false (callS Pg n_slices_ContainsFunc_int64_int64_90 #[a0, (Value.func (.func n_rowsOk_1_1) #[] #[a2])] w fun t15_11 w =>
  J9 [t15_11] w)
  (J9 [undef] w)
theorem eq_rowsOk_1 : ∀ (a0 a1 a2 : Value) (w : World) (K : Value → World → Prop), S_rowsOk_1 a0 a1 a2 w K = codeS Pg (Try.f89.body.getD .skip) ann_rowsOk_1 (topX Pg Try.f89.results K) (fun t => Array.getD #[a0, a1, a2] t undef) w := by
  intro a0 a1 a2 w K
  kernel_rfl
theorem call_rowsOk_1 (a0 a1 a2 : Value) (w : World) (K : Value → World → Prop) (h : S_rowsOk_1 a0 a1 a2 w K) : callS Pg n_rowsOk_1 #[a0, a1, a2] w K :=
  callS_of mixed Try.func89 (c := Try.f89.body.getD .skip) (by kernel_rfl) (by kernel_rfl) (ann := ann_rowsOk_1) (by kernel_rfl) (Nat.le_of_ble_eq_true (by kernel_rfl)) (by rw [← eq_rowsOk_1]; exact h)

-- slices.ContainsFunc[[]int64,int64]
def ann_slices_ContainsFunc_int64_int64_90 : Ann :=
  (.seq none (.reg [⟨none, [], [0]⟩] [])
  (.seq none (.reg [⟨none, [], [0, 1, 2, 3, 4]⟩] [])
  .leaf))
def S_slices_ContainsFunc_int64_int64_90 (a0 a1 : Value) (w : World) (K : Value → World → Prop) : Prop :=
  callS Pg n_slices_IndexFunc_int64_int64_108 #[a0, a1] w fun t7_1 w =>
  pur Pg (binOp Go.BinOp.geq 3 t7_1 (Go.Value.int Go.IntKind.i64 0)) fun t8_2 =>
  K t8_2 w
theorem eq_slices_ContainsFunc_int64_int64_90 : ∀ (a0 a1 : Value) (w : World) (K : Value → World → Prop), S_slices_ContainsFunc_int64_int64_90 a0 a1 w K = codeS Pg (Try.f90.body.getD .skip) ann_slices_ContainsFunc_int64_int64_90 (topX Pg Try.f90.results K) (fun t => Array.getD #[a0, a1] t undef) w := by
  intro a0 a1 w K
  kernel_rfl
theorem call_slices_ContainsFunc_int64_int64_90 (a0 a1 : Value) (w : World) (K : Value → World → Prop) (h : S_slices_ContainsFunc_int64_int64_90 a0 a1 w K) : callS Pg n_slices_ContainsFunc_int64_int64_90 #[a0, a1] w K :=
  callS_of mixed Try.func90 (c := Try.f90.body.getD .skip) (by kernel_rfl) (by kernel_rfl) (ann := ann_slices_ContainsFunc_int64_int64_90) (by kernel_rfl) (Nat.le_of_ble_eq_true (by kernel_rfl)) (by rw [← eq_slices_ContainsFunc_int64_int64_90]; exact h)

-- loop.example/g01165/impl.rowsOk$1$1
def ann_rowsOk_1_1 : Ann :=
  (.seq none (.reg [⟨none, [], [0]⟩] [])
  (.seq none (.reg [⟨none, [], [0, 1, 2, 3, 4]⟩] [])
  .leaf))
def S_rowsOk_1_1 (a0 a1 : Value) (w : World) (K : Value → World → Prop) : Prop :=
  rd Pg (Instr.loadAt 2 a1) w fun t5_1 =>
  callS Pg n_in #[a0, (Go.Value.int Go.IntKind.i64 0), t5_1] w fun t6_2 w =>
  pur Pg (Op.unary Go.UnOp.not t6_2) fun t7_3 =>
  K t7_3 w
theorem eq_rowsOk_1_1 : ∀ (a0 a1 : Value) (w : World) (K : Value → World → Prop), S_rowsOk_1_1 a0 a1 w K = codeS Pg (Try.f91.body.getD .skip) ann_rowsOk_1_1 (topX Pg Try.f91.results K) (fun t => Array.getD #[a0, a1] t undef) w := by
  intro a0 a1 w K
  kernel_rfl
theorem call_rowsOk_1_1 (a0 a1 : Value) (w : World) (K : Value → World → Prop) (h : S_rowsOk_1_1 a0 a1 w K) : callS Pg n_rowsOk_1_1 #[a0, a1] w K :=
  callS_of mixed Try.func91 (c := Try.f91.body.getD .skip) (by kernel_rfl) (by kernel_rfl) (ann := ann_rowsOk_1_1) (by kernel_rfl) (Nat.le_of_ble_eq_true (by kernel_rfl)) (by rw [← eq_rowsOk_1_1]; exact h)

-- slices.stableCmpFunc[loop.example/g01165/impl.Spot]
def ann_slices_stableCmpFunc_impl_Spot : Ann :=
  (.seq none (.reg [⟨none, [], [0]⟩] [])
  (.seq none (.reg [⟨none, [], [0, 1, 2]⟩] [])
  (.seq none (.sub (.loop [7, 8] [11, 12, 13, 14, 15, 16, 17, 18, 19, 7, 20, 21, 22, 8]
  (.seq none (.seq none (.reg [⟨none, [], [0, 1, 2]⟩] [])
  (.cond .leaf
  .leaf))
  (.sub (.seq none (.reg [⟨none, [], [0, 1, 2, 3, 4]⟩] [])
  (.seq none (.reg [⟨none, [], [0, 1]⟩] [])
  (.reg [⟨none, [], [0, 1, 2, 3]⟩] [])))))))
  (.seq none (.reg [⟨none, [], [0, 1, 2, 3, 4]⟩] [])
  (.sub (.loop [6] [28, 29, 30, 31, 32, 7, 8, 33, 34, 35, 36, 37, 38, 39, 40, 41, 42, 43, 44, 45, 46, 47, 48, 49, 50, 51, 9, 52, 53, 54, 55, 56, 57, 58, 59, 60, 61, 62, 6]
  (.seq none (.seq none (.reg [⟨none, [], [0, 1, 2]⟩] [])
  (.cond .leaf
  .leaf))
  (.sub (.seq none (.reg [⟨none, [], [0, 1, 2, 3]⟩] [])
  (.seq none (.sub (.loop [7, 8] [33, 34, 35, 36, 37, 38, 39, 40, 41, 42, 43, 44, 7, 45, 46, 47, 48, 8]
  (.seq none (.seq none (.reg [⟨none, [], [0, 1, 2]⟩] [])
  (.cond .leaf
  .leaf))
  (.sub (.seq none (.reg [⟨none, [], [0, 1, 2, 3, 4, 5, 6, 7]⟩] [])
  (.seq none (.reg [⟨none, [], [0, 1]⟩] [])
  (.reg [⟨none, [], [0, 1, 2, 3, 4]⟩] [])))))))
  (.seq (some ([], [49, 50, 51, 9, 52, 53, 54, 55, 56, 57, 58, 59, 60])) (.seq none (.reg [⟨none, [], [0, 1, 2, 3]⟩] [])
  (.seq none (.reg [⟨none, [], [0, 1, 2]⟩] [])
  (.cond (.reg [⟨none, [], [0, 1, 2, 3, 4, 5]⟩] [])
  .leaf)))
  (.reg [⟨none, [], [0, 1, 2]⟩] []))))))))))))
def S_slices_stableCmpFunc_impl_Spot (a0 a1 a2 : Value) (w : World) (K : Value → World → Prop) : Prop :=
  loopS (fun N1 g2 s3 w =>
  pur Pg (binOp Go.BinOp.leq 3 (nth s3 1) a1) fun t13_4 =>
  ifB t13_4 (callS Pg n_slices_insertionSortCmpFunc_impl_Spot #[a0, (nth s3 0), (nth s3 1), a2] w fun t18_5 w =>
  pur Pg (binOp Go.BinOp.add 3 (nth s3 1) (Go.Value.int Go.IntKind.i64 20)) fun t22_6 =>
  N1 [(nth s3 1), t22_6] w)
  (callS Pg n_slices_insertionSortCmpFunc_impl_Spot #[a0, (nth s3 0), a1, a2] w fun t27_7 w =>
  loopS (fun N8 g9 s10 w =>
  pur Pg (binOp Go.BinOp.lss 3 (nth s10 0) a1) fun t30_11 =>
  ifB t30_11 (pur Pg (binOp Go.BinOp.mul 3 (Go.Value.int Go.IntKind.i64 2) (nth s10 0)) fun t32_12 =>
  loopS (fun N13 g14 s15 w =>
  pur Pg (binOp Go.BinOp.leq 3 (nth s15 1) a1) fun t35_16 =>
  ifB t35_16 (pur Pg (binOp Go.BinOp.add 3 (nth s15 0) (nth s10 0)) fun t40_17 =>
  callS Pg n_slices_symMergeCmpFunc_impl_Spot #[a0, (nth s15 0), t40_17, (nth s15 1), a2] w fun t43_18 w =>
  pur Pg (binOp Go.BinOp.mul 3 (Go.Value.int Go.IntKind.i64 2) (nth s10 0)) fun t47_19 =>
  pur Pg (binOp Go.BinOp.add 3 (nth s15 1) t47_19) fun t48_20 =>
  N13 [(nth s15 1), t48_20] w)
  (joinS (fun g21 s22 w =>
  pur Pg (binOp Go.BinOp.mul 3 (nth s10 0) (Go.Value.int Go.IntKind.i64 2)) fun t62_24 =>
  N8 [t62_24] w) fun J23 =>
  pur Pg (binOp Go.BinOp.add 3 (nth s15 0) (nth s10 0)) fun t51_25 =>
  pur Pg (binOp Go.BinOp.lss 3 t51_25 a1) fun t54_26 =>
  ifB t54_26 (callS Pg n_slices_symMergeCmpFunc_impl_Spot #[a0, (nth s15 0), t51_25, a1, a2] w fun t60_27 w =>
  J23 [] w)
  (J23 [] w))) [(Go.Value.int Go.IntKind.i64 0), t32_12] w)
  (K (Value.tuple #[]) w)) [(Go.Value.int Go.IntKind.i64 20)] w)) [(Go.Value.int Go.IntKind.i64 0), (Go.Value.int Go.IntKind.i64 20)] w
theorem eq_slices_stableCmpFunc_impl_Spot : ∀ (a0 a1 a2 : Value) (w : World) (K : Value → World → Prop), S_slices_stableCmpFunc_impl_Spot a0 a1 a2 w K = codeS Pg (Try.f92.body.getD .skip) ann_slices_stableCmpFunc_impl_Spot (topX Pg Try.f92.results K) (fun t => Array.getD #[a0, a1, a2] t undef) w := by
  intro a0 a1 a2 w K
  kernel_rfl
theorem call_slices_stableCmpFunc_impl_Spot (a0 a1 a2 : Value) (w : World) (K : Value → World → Prop) (h : S_slices_stableCmpFunc_impl_Spot a0 a1 a2 w K) : callS Pg n_slices_stableCmpFunc_impl_Spot #[a0, a1, a2] w K :=
  callS_of mixed Try.func92 (c := Try.f92.body.getD .skip) (by kernel_rfl) (by kernel_rfl) (ann := ann_slices_stableCmpFunc_impl_Spot) (by kernel_rfl) (Nat.le_of_ble_eq_true (by kernel_rfl)) (by rw [← eq_slices_stableCmpFunc_impl_Spot]; exact h)

-- cmp.isNaN[int64]
def ann_cmp_isNaN_int64 : Ann :=
  (.seq none (.reg [⟨none, [], [0]⟩] [])
  (.seq none (.reg [⟨none, [], [0, 1, 2, 3]⟩] [])
  .leaf))
def S_cmp_isNaN_int64 (a0 : Value) (w : World) (K : Value → World → Prop) : Prop :=
  rd Pg (binSem Go.BinOp.neq 2 (Go.Operand.tmp 3) (Go.Operand.tmp 4) a0 a0) w fun t5_1 =>
  K t5_1 w
theorem eq_cmp_isNaN_int64 : ∀ (a0 : Value) (w : World) (K : Value → World → Prop), S_cmp_isNaN_int64 a0 w K = codeS Pg (Try.f93.body.getD .skip) ann_cmp_isNaN_int64 (topX Pg Try.f93.results K) (fun t => Array.getD #[a0] t undef) w := by
  intro a0 w K
  kernel_rfl
theorem call_cmp_isNaN_int64 (a0 : Value) (w : World) (K : Value → World → Prop) (h : S_cmp_isNaN_int64 a0 w K) : callS Pg n_cmp_isNaN_int64 #[a0] w K :=
  callS_of mixed Try.func93 (c := Try.f93.body.getD .skip) (by kernel_rfl) (by kernel_rfl) (ann := ann_cmp_isNaN_int64) (by kernel_rfl) (Nat.le_of_ble_eq_true (by kernel_rfl)) (by rw [← eq_cmp_isNaN_int64]; exact h)

-- slices.Index[[]*loop.example/g01165/impl.valley,*loop.example/g01165/impl.valley]
def ann_slices_Index_impl_valley_impl_valley : Ann :=
  (.seq none (.reg [⟨none, [], [0]⟩] [])
  (.seq none (.seq none (.reg [⟨none, [], [0, 1, 2]⟩] [])
  (.sub (.loop [8] [9, 10, 5, 11, 12, 13, 14, 15, 16, 17, 4, 18, 8]
  (.seq none (.reg [⟨none, [], [0]⟩] [])
  (.seq none (.cond .leaf
  .leaf)
  (.seq none (.sub (.seq none (.reg [⟨none, [], [0, 1]⟩] [])
  (.seq none (.reg [⟨none, [], [0, 1, 2, 3, 4, 5]⟩] [])
  (.cond (.seq none (.reg [⟨none, [], [0, 1]⟩] [])
  .leaf)
  .leaf))))
  (.reg [⟨none, [], [0, 1]⟩] [])))))))
  (.seq none (.reg [⟨none, [], [0]⟩] [])
  .leaf)))
def S_slices_Index_impl_valley_impl_valley (a0 a1 : Value) (w : World) (K : Value → World → Prop) : Prop :=
  rd Pg (Builtin.len_ #[60] 3 #[a0]) w fun t7_1 =>
  loopS (fun N2 g3 s4 w =>
  pur Pg (binOp Go.BinOp.lss 3 (nth s4 0) t7_1) fun t9_5 =>
  ifB t9_5 (pur Pg (Instr.indexAt 60 a0 (nth s4 0)) fun t14_6 =>
  rd Pg (Instr.loadAt 62 t14_6) w fun t15_7 =>
  rd Pg (binSem Go.BinOp.eql 62 (Go.Operand.tmp 11) (Go.Operand.tmp 15) a1 t15_7) w fun t16_8 =>
  ifB t16_8 (K (nth s4 0) w)
  (pur Pg (binOp Go.BinOp.add 3 (nth s4 0) (Go.Value.int Go.IntKind.i64 1)) fun t18_9 =>
  N2 [t18_9] w))
  (K (Go.Value.int Go.IntKind.i64 (-1)) w)) [(Go.Value.int Go.IntKind.i64 0)] w
theorem eq_slices_Index_impl_valley_impl_valley : ∀ (a0 a1 : Value) (w : World) (K : Value → World → Prop), S_slices_Index_impl_valley_impl_valley a0 a1 w K = codeS Pg (Try.f94.body.getD .skip) ann_slices_Index_impl_valley_impl_valley (topX Pg Try.f94.results K) (fun t => Array.getD #[a0, a1] t undef) w := by
  intro a0 a1 w K
  kernel_rfl
theorem call_slices_Index_impl_valley_impl_valley (a0 a1 : Value) (w : World) (K : Value → World → Prop) (h : S_slices_Index_impl_valley_impl_valley a0 a1 w K) : callS Pg n_slices_Index_impl_valley_impl_valley #[a0, a1] w K :=
  callS_of mixed Try.func94 (c := Try.f94.body.getD .skip) (by kernel_rfl) (by kernel_rfl) (ann := ann_slices_Index_impl_valley_impl_valley) (by kernel_rfl) (Nat.le_of_ble_eq_true (by kernel_rfl)) (by rw [← eq_slices_Index_impl_valley_impl_valley]; exact h)

-- slices.pdqsortCmpFunc[*loop.example/g01165/impl.valley]
def ann_slices_pdqsortCmpFunc_impl_valley : Ann :=
  (.seq none (.reg [⟨none, [], [0]⟩] [])
  (.seq none (.reg [⟨none, [], [0]⟩] [])
  (.sub (.loop [3, 1, 11, 10, 2] [21, 22, 23, 12, 24, 25, 26, 27, 28, 29, 30, 31, 32, 33, 34, 35, 36, 37, 38, 39, 40, 41, 42, 43, 44, 45, 46, 3, 48, 49, 50, 51, 52, 47, 53, 54, 13, 14, 55, 56, 57, 58, 59, 60, 61, 62, 63, 64, 65, 66, 67, 68, 69, 70, 71, 72, 73, 74, 75, 76, 77, 78, 79, 80, 81, 82, 83, 84, 85, 86, 87, 88, 89, 90, 91, 92, 93, 94, 95, 96, 97, 98, 99, 100, 101, 102, 103, 15, 104, 1, 106, 107, 108, 109, 110, 111, 105, 112, 113, 16, 17, 114, 11, 115, 116, 117, 118, 119, 120, 18, 19, 121, 122, 20, 123, 124, 125, 126, 127, 128, 10, 129, 130, 131, 132, 133, 134, 135, 136, 137, 138, 139, 140, 141, 142, 143, 144, 145, 146, 147, 2]
  (.sub (.seq none (.reg [⟨none, [], [0, 1, 2, 3]⟩] [])
  (.seq none (.seq none (.reg [⟨none, [], [0, 1]⟩] [])
  (.cond (.seq none (.reg [⟨none, [], [0, 1, 2, 3, 4]⟩] [])
  .leaf)
  .leaf))
  (.seq none (.seq none (.reg [⟨none, [], [0, 1]⟩] [])
  (.cond (.seq none (.reg [⟨none, [], [0, 1, 2, 3, 4]⟩] [])
  .leaf)
  .leaf))
  (.seq (some ([3], [38, 39, 40, 41, 42, 43, 44, 45, 46, 3])) (.seq none (.reg [⟨none, [], [0, 1]⟩] [])
  (.cond (.seq none (.reg [⟨none, [], [0, 1, 2, 3, 4]⟩] [])
  (.reg [⟨none, [], [0, 1, 2]⟩] []))
  .leaf))
  (.seq none (.reg [⟨none, [], [0, 1, 2, 3, 4, 5, 6, 7, 8, 9]⟩] [])
  (.seq (some ([13, 14], [55, 56, 57, 58, 59, 60, 61, 62, 63, 64, 65, 66, 67, 13, 14])) (.seq none (.reg [⟨none, [], [0, 1]⟩] [])
  (.cond (.seq none (.reg [⟨none, [], [0, 1, 2, 3, 4]⟩] [])
  (.seq none (.reg [⟨none, [], [0, 1, 2, 3, 4, 5, 6]⟩] [])
  (.reg [⟨none, [], [0]⟩] [])))
  .leaf))
  (.seq (some ([], [68, 69, 70, 71, 72, 73, 74, 75, 76, 77, 78, 79, 80])) (.seq none (.reg [⟨none, [], [0, 1]⟩, ⟨some (1, true), [70], [2]⟩, ⟨none, [], [3, 4]⟩, ⟨some (4, true), [74], [5, 6]⟩, ⟨none, [], [7]⟩] [])
  (.cond (.seq none (.reg [⟨none, [], [0, 1, 2, 3, 4]⟩] [])
  (.cond .leaf
  .leaf))
  .leaf))
  (.seq none (.seq none (.reg [⟨none, [], [0, 1, 2]⟩, ⟨some (2, true), [96], [3, 4, 5, 6, 7, 8, 9, 10, 11, 12, 13, 14, 15]⟩, ⟨none, [], [16]⟩] [])
  (.cond (.seq none (.reg [⟨none, [], [0, 1, 2, 3, 4, 5, 6]⟩] [])
  (.seq none (.reg [⟨none, [], [0, 1]⟩] [])
  .leaf))
  .leaf))
  (.seq none (.reg [⟨none, [], [0, 1, 2, 3, 4, 5, 6, 7, 8, 9, 10]⟩] [])
  (.seq none (.reg [⟨none, [], [0, 1]⟩] [])
  (.seq none (.reg [⟨none, [], [0, 1, 2, 3, 4, 5, 6, 7]⟩] [])
  (.seq none (.reg [⟨none, [], [0, 1, 2]⟩] [])
  (.seq none (.reg [⟨none, [], [0, 1, 2]⟩] [])
  (.cond (.seq none (.reg [⟨none, [], [0, 1, 2, 3]⟩] [])
  (.seq none (.reg [⟨none, [], [0, 1, 2, 3, 4, 5]⟩] [])
  (.reg [⟨none, [], [0, 1, 2]⟩] [])))
  (.seq none (.reg [⟨none, [], [0, 1, 2, 3]⟩] [])
  (.seq none (.reg [⟨none, [], [0, 1, 2, 3, 4, 5, 6]⟩] [])
  (.reg [⟨none, [], [0, 1]⟩] []))))))))))))))))))))))
def S_slices_pdqsortCmpFunc_impl_valley (a0 a1 a2 a3 a4 : Value) (w : World) (K : Value → World → Prop) : Prop :=
  loopS (fun N1 g2 s3 w =>
  pur Pg (binOp Go.BinOp.sub 3 (nth s3 4) (nth s3 1)) fun t23_4 =>
  pur Pg (binOp Go.BinOp.leq 3 t23_4 (Go.Value.int Go.IntKind.i64 12)) fun t25_5 =>
  ifB t25_5 (callS Pg n_slices_insertionSortCmpFunc_impl_valley #[a0, (nth s3 1), (nth s3 4), a4] w fun t30_6 w =>
  K (Value.tuple #[]) w)
  (rd Pg (binSem Go.BinOp.eql 3 (Go.Operand.tmp 31) (Go.Operand.const (Go.Value.int Go.IntKind.i64 0)) (nth s3 0) (Go.Value.int Go.IntKind.i64 0)) w fun t32_7 =>
  ifB t32_7 (callS Pg n_slices_heapSortCmpFunc_impl_valley #[a0, (nth s3 1), (nth s3 4), a4] w fun t37_8 w =>
  K (Value.tuple #[]) w)
  (joinS (fun g9 s10 w =>
  callS Pg n_slices_choosePivotCmpFunc_impl_valley #[a0, (nth s3 1), (nth s3 4), a4] w fun t52_12 w =>
  pur Pg (Instr.extract t52_12 0) fun t53_13 =>
  pur Pg (Instr.extract t52_12 1) fun t54_14 =>
  joinS (fun g15 s16 w =>
  joinS (fun g18 s19 w =>
  drawS w fun w =>
  pur Pg (binOp Go.BinOp.gtr 3 (nth s3 1) (Go.Value.int Go.IntKind.i64 0)) fun t82_21 =>
  joinS (fun g22 s23 w =>
  pickS t82_21 (nth s23 0) (Go.Value.bool Bool.false) fun t97_25 =>
  ifB t97_25 (callS Pg n_slices_partitionEqualCmpFunc_impl_valley #[a0, (nth s3 1), (nth s3 4), (nth s16 0), a4] w fun t103_26 w =>
  N1 [(nth s10 0), t103_26, (nth s3 2), (nth s3 3), (nth s3 4)] w)
  (callS Pg n_slices_partitionCmpFunc_impl_valley #[a0, (nth s3 1), (nth s3 4), (nth s16 0), a4] w fun t111_27 w =>
  pur Pg (Instr.extract t111_27 0) fun t112_28 =>
  pur Pg (Instr.extract t111_27 1) fun t113_29 =>
  pur Pg (binOp Go.BinOp.sub 3 t112_28 (nth s3 1)) fun t117_30 =>
  pur Pg (binOp Go.BinOp.sub 3 (nth s3 4) t112_28) fun t120_31 =>
  pur Pg (binOp Go.BinOp.quo 3 t23_4 (Go.Value.int Go.IntKind.i64 8)) fun t122_32 =>
  pur Pg (binOp Go.BinOp.lss 3 t117_30 t120_31) fun t125_33 =>
  ifB t125_33 (pur Pg (binOp Go.BinOp.geq 3 t117_30 t122_32) fun t128_34 =>
  callS Pg n_slices_pdqsortCmpFunc_impl_valley #[a0, (nth s3 1), t112_28, (nth s10 0), a4] w fun t134_35 w =>
  pur Pg (binOp Go.BinOp.add 3 t112_28 (Go.Value.int Go.IntKind.i64 1)) fun t136_36 =>
  N1 [(nth s10 0), t136_36, t113_29, t128_34, (nth s3 4)] w)
  (pur Pg (binOp Go.BinOp.geq 3 t120_31 t122_32) fun t139_37 =>
  pur Pg (binOp Go.BinOp.add 3 t112_28 (Go.Value.int Go.IntKind.i64 1)) fun t142_38 =>
  callS Pg n_slices_pdqsortCmpFunc_impl_valley #[a0, t142_38, (nth s3 4), (nth s10 0), a4] w fun t146_39 w =>
  N1 [(nth s10 0), (nth s3 1), t113_29, t139_37, t112_28] w))) fun J24 =>
  ifG t82_21 true (pur Pg (binOp Go.BinOp.sub 3 (nth s3 1) (Go.Value.int Go.IntKind.i64 1)) fun t87_40 =>
  pur Pg (Instr.indexAt 60 a0 t87_40) fun t88_41 =>
  rd Pg (Instr.loadAt 62 t88_41) w fun t89_42 =>
  pur Pg (Instr.indexAt 60 a0 (nth s16 0)) fun t92_43 =>
  rd Pg (Instr.loadAt 62 t92_43) w fun t93_44 =>
  callV Pg a4 #[t89_42, t93_44] w fun t94_45 w =>
  pur Pg (binOp Go.BinOp.lss 3 t94_45 (Go.Value.int Go.IntKind.i64 0)) fun t95_46 =>
  pur Pg (Op.unary Go.UnOp.not t95_46) fun t96_47 =>
  J24 [t96_47] w)
  (J24 [undef] w)) fun J20 =>
  joinS (fun g48 s49 w =>
  pickS (nth s3 3) (nth s49 0) (Go.Value.bool Bool.false) fun t71_51 =>
  joinS (fun g52 s53 w =>
  pickS t71_51 (nth s53 0) (Go.Value.bool Bool.false) fun t75_55 =>
  ifB t75_55 (callS Pg n_slices_partialInsertionSortCmpFunc_impl_valley #[a0, (nth s3 1), (nth s3 4), a4] w fun t80_56 w =>
  ifB t80_56 (K (Value.tuple #[]) w)
  (J20 [] w))
  (J20 [] w)) fun J54 =>
  ifG t71_51 true (rd Pg (binSem Go.BinOp.eql 135 (Go.Operand.tmp 73) (Go.Operand.const (Go.Value.int Go.IntKind.i64 1)) (nth s16 1) (Go.Value.int Go.IntKind.i64 1)) w fun t74_57 =>
  J54 [t74_57] w)
  (J54 [undef] w)) fun J50 =>
  ifG (nth s3 3) true (J50 [(nth s3 2)] w)
  (J50 [undef] w)) fun J17 =>
  rd Pg (binSem Go.BinOp.eql 135 (Go.Operand.tmp 55) (Go.Operand.const (Go.Value.int Go.IntKind.i64 2)) t54_14 (Go.Value.int Go.IntKind.i64 2)) w fun t56_58 =>
  ifB t56_58 (callS Pg n_slices_reverseRangeCmpFunc_impl_valley #[a0, (nth s3 1), (nth s3 4), a4] w fun t61_59 w =>
  pur Pg (binOp Go.BinOp.sub 3 (nth s3 4) (Go.Value.int Go.IntKind.i64 1)) fun t63_60 =>
  pur Pg (binOp Go.BinOp.sub 3 t53_13 (nth s3 1)) fun t66_61 =>
  pur Pg (binOp Go.BinOp.sub 3 t63_60 t66_61) fun t67_62 =>
  J17 [t67_62, (Go.Value.int Go.IntKind.i64 1)] w)
  (J17 [t53_13, t54_14] w)) fun J11 =>
  pur Pg (Op.unary Go.UnOp.not (nth s3 3)) fun t39_63 =>
  ifB t39_63 (callS Pg n_slices_breakPatternsCmpFunc_impl_valley #[a0, (nth s3 1), (nth s3 4), a4] w fun t44_64 w =>
  pur Pg (binOp Go.BinOp.sub 3 (nth s3 0) (Go.Value.int Go.IntKind.i64 1)) fun t46_65 =>
  J11 [t46_65] w)
  (J11 [(nth s3 0)] w)))) [a3, a1, (Go.Value.bool Bool.true), (Go.Value.bool Bool.true), a2] w
theorem eq_slices_pdqsortCmpFunc_impl_valley : ∀ (a0 a1 a2 a3 a4 : Value) (w : World) (K : Value → World → Prop), S_slices_pdqsortCmpFunc_impl_valley a0 a1 a2 a3 a4 w K = codeS Pg (Try.f95.body.getD .skip) ann_slices_pdqsortCmpFunc_impl_valley (topX Pg Try.f95.results K) (fun t => Array.getD #[a0, a1, a2, a3, a4] t undef) w := by
  intro a0 a1 a2 a3 a4 w K
  kernel_rfl
theorem call_slices_pdqsortCmpFunc_impl_valley (a0 a1 a2 a3 a4 : Value) (w : World) (K : Value → World → Prop) (h : S_slices_pdqsortCmpFunc_impl_valley a0 a1 a2 a3 a4 w K) : callS Pg n_slices_pdqsortCmpFunc_impl_valley #[a0, a1, a2, a3, a4] w K :=
  callS_of mixed Try.func95 (c := Try.f95.body.getD .skip) (by kernel_rfl) (by kernel_rfl) (ann := ann_slices_pdqsortCmpFunc_impl_valley) (by kernel_rfl) (Nat.le_of_ble_eq_true (by kernel_rfl)) (by rw [← eq_slices_pdqsortCmpFunc_impl_valley]; exact h)

-- math/bits.Len
def ann_math_bits_Len : Ann :=
  (.seq none (.reg [⟨none, [], [0]⟩] [])
  (.seq none (.cond (.seq none (.reg [⟨none, [], [0, 1, 2, 3]⟩] [])
  .leaf)
  .leaf)
  (.seq none (.reg [⟨none, [], [0, 1, 2]⟩] [])
  .leaf)))
def S_math_bits_Len (a0 : Value) (w : World) (K : Value → World → Prop) : Prop :=
  ifB (Go.Value.bool Bool.false) (eff Pg (convert 112 143 a0) w fun t4_1 w =>
  callS Pg n_math_bits_Len32 #[t4_1] w fun t5_2 w =>
  K t5_2 w)
  (callS Pg n_math_bits_Len64 #[a0] w fun t7_3 w =>
  K t7_3 w)
theorem eq_math_bits_Len : ∀ (a0 : Value) (w : World) (K : Value → World → Prop), S_math_bits_Len a0 w K = codeS Pg (Try.f96.body.getD .skip) ann_math_bits_Len (topX Pg Try.f96.results K) (fun t => Array.getD #[a0] t undef) w := by
  intro a0 w K
  kernel_rfl
theorem call_math_bits_Len (a0 : Value) (w : World) (K : Value → World → Prop) (h : S_math_bits_Len a0 w K) : callS Pg n_math_bits_Len #[a0] w K :=
  callS_of mixed Try.func96 (c := Try.f96.body.getD .skip) (by kernel_rfl) (by kernel_rfl) (ann := ann_math_bits_Len) (by kernel_rfl) (Nat.le_of_ble_eq_true (by kernel_rfl)) (by rw [← eq_math_bits_Len]; exact h)

-- cmp.isNaN[int]
def ann_cmp_isNaN_int : Ann :=
  (.seq none (.reg [⟨none, [], [0]⟩] [])
  (.seq none (.reg [⟨none, [], [0, 1, 2, 3]⟩] [])
  .leaf))
def S_cmp_isNaN_int (a0 : Value) (w : World) (K : Value → World → Prop) : Prop :=
  rd Pg (binSem Go.BinOp.neq 3 (Go.Operand.tmp 3) (Go.Operand.tmp 4) a0 a0) w fun t5_1 =>
  K t5_1 w
theorem eq_cmp_isNaN_int : ∀ (a0 : Value) (w : World) (K : Value → World → Prop), S_cmp_isNaN_int a0 w K = codeS Pg (Try.f97.body.getD .skip) ann_cmp_isNaN_int (topX Pg Try.f97.results K) (fun t => Array.getD #[a0] t undef) w := by
  intro a0 w K
  kernel_rfl
theorem call_cmp_isNaN_int (a0 : Value) (w : World) (K : Value → World → Prop) (h : S_cmp_isNaN_int a0 w K) : callS Pg n_cmp_isNaN_int #[a0] w K :=
  callS_of mixed Try.func97 (c := Try.f97.body.getD .skip) (by kernel_rfl) (by kernel_rfl) (ann := ann_cmp_isNaN_int) (by kernel_rfl) (Nat.le_of_ble_eq_true (by kernel_rfl)) (by rw [← eq_cmp_isNaN_int]; exact h)

-- (*loop.example/g01165/impl.image).each
def ann_image_each : Ann :=
  (.seq none (.reg [⟨none, [], [0, 1, 2, 3, 4]⟩] [])
  (.sub (.loop [10] [11, 12, 4, 13, 14, 15, 16, 17, 18, 19, 5, 20, 21, 22, 23, 24, 25, 10]
  (.seq none (.reg [⟨none, [], [0]⟩] [])
  (.seq none (.cond .leaf
  .leaf)
  (.seq none (.sub (.seq none (.reg [⟨none, [], [0, 1]⟩] [])
  (.seq none (.reg [⟨none, [], [0, 1, 2, 3, 4]⟩] [])
  (.sub (.loop [17] [18, 19, 5, 20, 21, 22, 23, 24, 17]
  (.seq none (.reg [⟨none, [], [0]⟩] [])
  (.seq none (.cond .leaf
  .leaf)
  (.seq none (.sub (.seq none (.reg [⟨none, [], [0, 1]⟩] [])
  (.reg [⟨none, [], [0, 1, 2, 3]⟩] [])))
  (.reg [⟨none, [], [0, 1]⟩] [])))))))))
  (.reg [⟨none, [], [0, 1]⟩] [])))))))
def S_image_each (a0 a1 : Value) (w : World) (K : Value → World → Prop) : Prop :=
  nilS a0 fun t7_1 =>
  pur Pg (Instr.fieldAt 118 t7_1 1) fun t8_2 =>
  rd Pg (Instr.loadAt 2 t8_2) w fun t9_3 =>
  loopS (fun N4 g5 s6 w =>
  pur Pg (binOp Go.BinOp.lss 2 (nth s6 0) t9_3) fun t11_7 =>
  ifB t11_7 (nilS a0 fun t14_8 =>
  pur Pg (Instr.fieldAt 118 t14_8 0) fun t15_9 =>
  rd Pg (Instr.loadAt 2 t15_9) w fun t16_10 =>
  loopS (fun N11 g12 s13 w =>
  pur Pg (binOp Go.BinOp.lss 2 (nth s13 0) t16_10) fun t18_14 =>
  ifB t18_14 (callV Pg a1 #[(nth s13 0), (nth s6 0)] w fun t23_15 w =>
  pur Pg (binOp Go.BinOp.add 2 (nth s13 0) (Go.Value.int Go.IntKind.i64 1)) fun t24_16 =>
  N11 [t24_16] w)
  (pur Pg (binOp Go.BinOp.add 2 (nth s6 0) (Go.Value.int Go.IntKind.i64 1)) fun t25_17 =>
  N4 [t25_17] w)) [(Go.Value.int Go.IntKind.i64 0)] w)
  (K (Value.tuple #[]) w)) [(Go.Value.int Go.IntKind.i64 0)] w
theorem eq_image_each : ∀ (a0 a1 : Value) (w : World) (K : Value → World → Prop), S_image_each a0 a1 w K = codeS Pg (Try.f98.body.getD .skip) ann_image_each (topX Pg Try.f98.results K) (fun t => Array.getD #[a0, a1] t undef) w := by
  intro a0 a1 w K
  kernel_rfl
theorem call_image_each (a0 a1 : Value) (w : World) (K : Value → World → Prop) (h : S_image_each a0 a1 w K) : callS Pg n_image_each #[a0, a1] w K :=
  callS_of mixed Try.func98 (c := Try.f98.body.getD .skip) (by kernel_rfl) (by kernel_rfl) (ann := ann_image_each) (by kernel_rfl) (Nat.le_of_ble_eq_true (by kernel_rfl)) (by rw [← eq_image_each]; exact h)

-- loop.example/g01165/impl.made$1
def ann_made_1 : Ann :=
  (.reg [⟨none, [], [0, 1, 2, 3, 4, 5, 6, 7]⟩] [0, 6])
def S_made_1 (a0 a1 a2 a3 : Value) (w : World) (K : Value → World → Prop) : Prop :=
  drawF w fun S1 w =>
  rdF Pg S1 (Instr.loadAt 91 a2) fun t6_2 =>
  rd Pg (Instr.loadAt 107 a3) w fun t9_3 =>
  callV Pg t9_3 #[a0, a1] w fun t12_4 w =>
  S1 w ∧
  callS Pg n_image_set #[t6_2, a0, a1, t12_4] w fun t13_5 w =>
  K (Value.tuple #[]) w
theorem eq_made_1 : ∀ (a0 a1 a2 a3 : Value) (w : World) (K : Value → World → Prop), S_made_1 a0 a1 a2 a3 w K = codeS Pg (Try.f99.body.getD .skip) ann_made_1 (topX Pg Try.f99.results K) (fun t => Array.getD #[a0, a1, a2, a3] t undef) w := by
  intro a0 a1 a2 a3 w K
  kernel_rfl
theorem call_made_1 (a0 a1 a2 a3 : Value) (w : World) (K : Value → World → Prop) (h : S_made_1 a0 a1 a2 a3 w K) : callS Pg n_made_1 #[a0, a1, a2, a3] w K :=
  callS_of mixed Try.func99 (c := Try.f99.body.getD .skip) (by kernel_rfl) (by kernel_rfl) (ann := ann_made_1) (by kernel_rfl) (Nat.le_of_ble_eq_true (by kernel_rfl)) (by rw [← eq_made_1]; exact h)

-- (*loop.example/g01165/impl.image).set
def ann_image_set : Ann :=
  (.reg [⟨none, [], [0, 1, 2, 3, 4, 5, 6, 7, 8, 9, 10, 11, 12, 13, 14]⟩] [])
def S_image_set (a0 a1 a2 a3 : Value) (w : World) (K : Value → World → Prop) : Prop :=
  drawS w fun w =>
  nilS a0 fun t9_1 =>
  pur Pg (Instr.fieldAt 118 t9_1 2) fun t10_2 =>
  rd Pg (Instr.loadAt 116 t10_2) w fun t11_3 =>
  nilS a0 fun t14_4 =>
  pur Pg (Instr.fieldAt 118 t14_4 0) fun t15_5 =>
  rd Pg (Instr.loadAt 2 t15_5) w fun t16_6 =>
  pur Pg (binOp Go.BinOp.mul 2 a2 t16_6) fun t17_7 =>
  pur Pg (binOp Go.BinOp.add 2 t17_7 a1) fun t19_8 =>
  pur Pg (Instr.indexAt 116 t11_3 t19_8) fun t21_9 =>
  effU Pg (Instr.storeAt 4 t21_9 a3) w fun w =>
  K (Value.tuple #[]) w
theorem eq_image_set : ∀ (a0 a1 a2 a3 : Value) (w : World) (K : Value → World → Prop), S_image_set a0 a1 a2 a3 w K = codeS Pg (Try.f100.body.getD .skip) ann_image_set (topX Pg Try.f100.results K) (fun t => Array.getD #[a0, a1, a2, a3] t undef) w := by
  intro a0 a1 a2 a3 w K
  kernel_rfl
theorem call_image_set (a0 a1 a2 a3 : Value) (w : World) (K : Value → World → Prop) (h : S_image_set a0 a1 a2 a3 w K) : callS Pg n_image_set #[a0, a1, a2, a3] w K :=
  callS_of mixed Try.func100 (c := Try.f100.body.getD .skip) (by kernel_rfl) (by kernel_rfl) (ann := ann_image_set) (by kernel_rfl) (Nat.le_of_ble_eq_true (by kernel_rfl)) (by rw [← eq_image_set]; exact h)

-- (*loop.example/g01165/impl.image).spots
def ann_image_spots : Ann :=
  (.seq none (.reg [⟨none, [], [0, 1]⟩] [])
  (.seq none (.reg [⟨none, [], [0, 1, 2]⟩] [])
  (.seq none (.reg [⟨none, [], [0, 1, 2]⟩] [])
  (.seq none (.reg [⟨none, [], [0, 1]⟩] [])
  .leaf))))
def S_image_spots (a0 : Value) (w : World) (K : Value → World → Prop) : Prop :=
  eff Pg (Instr.box 91 a0) w fun t1_1 w =>
  eff Pg (Instr.buildSlice 63 0 #[]) w fun t4_2 w =>
  eff Pg (Instr.alloc 63 true (.tuple #[])) w fun t3_3 w =>
  effU Pg (Instr.storeAt 63 t3_3 t4_2) w fun w =>
  rd Pg (Instr.loadAt 91 t1_1) w fun t5_4 =>
  callS Pg n_image_each #[t5_4, (Value.func (.func n_image_spots_1) #[] #[t1_1, t3_3])] w fun t7_5 w =>
  rd Pg (Instr.loadAt 63 t3_3) w fun t8_6 =>
  K t8_6 w
theorem eq_image_spots : ∀ (a0 : Value) (w : World) (K : Value → World → Prop), S_image_spots a0 w K = codeS Pg (Try.f101.body.getD .skip) ann_image_spots (topX Pg Try.f101.results K) (fun t => Array.getD #[a0] t undef) w := by
  intro a0 w K
  kernel_rfl
theorem call_image_spots (a0 : Value) (w : World) (K : Value → World → Prop) (h : S_image_spots a0 w K) : callS Pg n_image_spots #[a0] w K :=
  callS_of mixed Try.func101 (c := Try.f101.body.getD .skip) (by kernel_rfl) (by kernel_rfl) (ann := ann_image_spots) (by kernel_rfl) (Nat.le_of_ble_eq_true (by kernel_rfl)) (by rw [← eq_image_spots]; exact h)

-- loop.example/g01165/impl.spread
def ann_spread : Ann :=
  (.seq none (.reg [⟨none, [], [0]⟩] [])
  (.seq none (.reg [⟨none, [], [0, 1, 2, 3]⟩] [])
  (.seq none (.seq none (.reg [⟨none, [], [0, 1, 2]⟩] [])
  (.sub (.loop [8, 17] [18, 19, 20, 10, 21, 22, 23, 24, 25, 26, 27, 28, 29, 30, 31, 32, 33, 34, 35, 8, 36, 17]
  (.seq none (.reg [⟨none, [], [0]⟩] [])
  (.seq none (.cond .leaf
  .leaf)
  (.seq (some ([8], [19, 20, 10, 21, 22, 23, 24, 25, 26, 27, 28, 29, 30, 31, 32, 33, 34, 35, 8])) (.sub (.seq none (.reg [⟨none, [], [0, 1, 2, 3]⟩] [])
  (.seq none (.reg [⟨none, [], [0, 1, 2, 3]⟩, ⟨some (3, true), [28], [4, 5, 6, 7]⟩, ⟨none, [], [8]⟩] [])
  (.cond (.seq none (.reg [⟨none, [], [0, 1, 2]⟩] [])
  (.reg [⟨none, [], [0, 1, 2, 3, 4]⟩] []))
  .leaf))))
  (.reg [⟨none, [], [0, 1]⟩] [])))))))
  (.seq none (.sub (.loop [8] [37, 38, 39, 42, 43, 44, 45, 46, 47, 48, 49, 50, 51, 52, 53, 54, 55, 56, 12, 57, 58, 59, 60, 61, 62, 63, 64, 65, 66, 67, 68, 69, 70, 71, 8, 72, 40, 41]
  (.seq none (.seq none (.reg [⟨none, [], [0, 1, 2]⟩] [])
  (.cond .leaf
  .leaf))
  (.seq none (.sub (.seq none (.reg [⟨none, [], [0, 1, 2, 3, 4, 5, 6, 7, 8, 11, 9, 10]⟩] [])
  (.sub (.loop [8, 53] [54, 55, 56, 12, 57, 58, 59, 60, 61, 62, 63, 64, 65, 66, 67, 68, 69, 70, 71, 8, 72, 53]
  (.seq none (.reg [⟨none, [], [0]⟩] [])
  (.seq none (.cond .leaf
  .leaf)
  (.seq (some ([8], [55, 56, 12, 57, 58, 59, 60, 61, 62, 63, 64, 65, 66, 67, 68, 69, 70, 71, 8])) (.sub (.seq none (.reg [⟨none, [], [0, 1, 2, 3]⟩] [])
  (.seq none (.reg [⟨none, [], [0, 1, 2, 3]⟩, ⟨some (3, true), [64], [4, 5, 6, 7]⟩, ⟨none, [], [8]⟩] [])
  (.cond (.seq none (.reg [⟨none, [], [0, 1, 2]⟩] [])
  (.reg [⟨none, [], [0, 1, 2, 3, 4]⟩] []))
  .leaf))))
  (.reg [⟨none, [], [0, 1]⟩] []))))))))
  (.reg [⟨none, [], [0, 1, 2]⟩] [])))))
  (.seq none (.reg [⟨none, [], [0, 1]⟩] [])
  .leaf)))))
def S_spread (a0 a1 a2 : Value) (w : World) (K : Value → World → Prop) : Prop :=
  eff Pg (Instr.makeMap 127 none) w fun t13_1 w =>
  eff Pg (Instr.buildSlice 63 0 #[]) w fun t14_2 w =>
  rd Pg (Builtin.len_ #[63] 3 #[a0]) w fun t16_3 =>
  loopS (fun N4 g5 s6 w =>
  pur Pg (binOp Go.BinOp.lss 3 (nth s6 1) t16_3) fun t18_7 =>
  ifB t18_7 (joinS (fun g8 s9 w =>
  pur Pg (binOp Go.BinOp.add 3 (nth s6 1) (Go.Value.int Go.IntKind.i64 1)) fun t36_11 =>
  N4 [(nth s9 0), t36_11] w) fun J10 =>
  pur Pg (Instr.indexAt 63 a0 (nth s6 1)) fun t19_12 =>
  rd Pg (Instr.loadAt 39 t19_12) w fun t20_13 =>
  eff Pg (Instr.alloc 39 true (.tuple #[])) w fun t10_14 w =>
  effU Pg (Instr.storeAt 39 t10_14 t20_13) w fun w =>
  rd Pg (Instr.loadAt 39 t10_14) w fun t22_15 =>
  callV Pg a2 #[t22_15] w fun t23_16 w =>
  joinS (fun g17 s18 w =>
  pickS t23_16 (nth s18 0) (Go.Value.bool Bool.false) fun t29_20 =>
  ifB t29_20 (rd Pg (Instr.loadAt 39 t10_14) w fun t31_21 =>
  effU Pg (Instr.mapUpdate 127 t13_1 t31_21 (Go.Value.bool Bool.true)) w fun w =>
  rd Pg (Instr.loadAt 39 t10_14) w fun t33_22 =>
  eff Pg (Instr.buildSlice 63 1 #[(0, t33_22)]) w fun t34_23 w =>
  eff Pg (Builtin.append_ #[63, 63] 63 #[(nth s6 0), t34_23]) w fun t35_24 w =>
  J10 [t35_24] w)
  (J10 [(nth s6 0)] w)) fun J19 =>
  ifG t23_16 true (rd Pg (Instr.loadAt 39 t10_14) w fun t26_25 =>
  rd Pg (Instr.lookup 127 t13_1 t26_25 Bool.false) w fun t27_26 =>
  pur Pg (Op.unary Go.UnOp.not t27_26) fun t28_27 =>
  J19 [t28_27] w)
  (J19 [undef] w))
  (loopS (fun N28 g29 s30 w =>
  rd Pg (Builtin.len_ #[63] 3 #[(nth s30 0)]) w fun t38_31 =>
  pur Pg (binOp Go.BinOp.gtr 3 t38_31 (Go.Value.int Go.IntKind.i64 0)) fun t39_32 =>
  ifB t39_32 (drawS w fun w =>
  pur Pg (Instr.indexAt 63 (nth s30 0) (Go.Value.int Go.IntKind.i64 0)) fun t43_33 =>
  pur Pg (Instr.fieldAt 39 t43_33 0) fun t44_34 =>
  rd Pg (Instr.loadAt 2 t44_34) w fun t45_35 =>
  pur Pg (Instr.indexAt 63 (nth s30 0) (Go.Value.int Go.IntKind.i64 0)) fun t47_36 =>
  pur Pg (Instr.fieldAt 39 t47_36 1) fun t48_37 =>
  rd Pg (Instr.loadAt 2 t48_37) w fun t49_38 =>
  callS Pg n_around #[t45_35, t49_38, a1] w fun t51_39 w =>
  rd Pg (Builtin.len_ #[63] 3 #[t51_39]) w fun t52_40 =>
  loopS (fun N41 g42 s43 w =>
  pur Pg (binOp Go.BinOp.lss 3 (nth s43 1) t52_40) fun t54_44 =>
  ifB t54_44 (joinS (fun g45 s46 w =>
  pur Pg (binOp Go.BinOp.add 3 (nth s43 1) (Go.Value.int Go.IntKind.i64 1)) fun t72_48 =>
  N41 [(nth s46 0), t72_48] w) fun J47 =>
  pur Pg (Instr.indexAt 63 t51_39 (nth s43 1)) fun t55_49 =>
  rd Pg (Instr.loadAt 39 t55_49) w fun t56_50 =>
  eff Pg (Instr.alloc 39 true (.tuple #[])) w fun t12_51 w =>
  effU Pg (Instr.storeAt 39 t12_51 t56_50) w fun w =>
  rd Pg (Instr.loadAt 39 t12_51) w fun t58_52 =>
  callV Pg a2 #[t58_52] w fun t59_53 w =>
  joinS (fun g54 s55 w =>
  pickS t59_53 (nth s55 0) (Go.Value.bool Bool.false) fun t65_57 =>
  ifB t65_57 (rd Pg (Instr.loadAt 39 t12_51) w fun t67_58 =>
  effU Pg (Instr.mapUpdate 127 t13_1 t67_58 (Go.Value.bool Bool.true)) w fun w =>
  rd Pg (Instr.loadAt 39 t12_51) w fun t69_59 =>
  eff Pg (Instr.buildSlice 63 1 #[(0, t69_59)]) w fun t70_60 w =>
  eff Pg (Builtin.append_ #[63, 63] 63 #[(nth s43 0), t70_60]) w fun t71_61 w =>
  J47 [t71_61] w)
  (J47 [(nth s43 0)] w)) fun J56 =>
  ifG t59_53 true (rd Pg (Instr.loadAt 39 t12_51) w fun t62_62 =>
  rd Pg (Instr.lookup 127 t13_1 t62_62 Bool.false) w fun t63_63 =>
  pur Pg (Op.unary Go.UnOp.not t63_63) fun t64_64 =>
  J56 [t64_64] w)
  (J56 [undef] w))
  (pur Pg (Instr.sliceAt 63 (nth s43 0) (some (Go.Value.int Go.IntKind.i64 1)) none none) fun t41_65 =>
  N28 [t41_65] w)) [(nth s30 0), (Go.Value.int Go.IntKind.i64 0)] w)
  (K t13_1 w)) [(nth s6 0)] w)) [t14_2, (Go.Value.int Go.IntKind.i64 0)] w
theorem eq_spread : ∀ (a0 a1 a2 : Value) (w : World) (K : Value → World → Prop), S_spread a0 a1 a2 w K = codeS Pg (Try.f102.body.getD .skip) ann_spread (topX Pg Try.f102.results K) (fun t => Array.getD #[a0, a1, a2] t undef) w := by
  intro a0 a1 a2 w K
  kernel_rfl
theorem call_spread (a0 a1 a2 : Value) (w : World) (K : Value → World → Prop) (h : S_spread a0 a1 a2 w K) : callS Pg n_spread #[a0, a1, a2] w K :=
  callS_of mixed Try.func102 (c := Try.f102.body.getD .skip) (by kernel_rfl) (by kernel_rfl) (ann := ann_spread) (by kernel_rfl) (Nat.le_of_ble_eq_true (by kernel_rfl)) (by rw [← eq_spread]; exact h)

-- (*loop.example/g01165/impl.image).labels$1
def ann_image_labels_1 : Ann :=
  (.seq none (.reg [⟨none, [], [0, 1]⟩] [])
  (.seq none (.reg [⟨none, [], [0, 1, 2, 3, 4, 5, 6]⟩] [])
  .leaf))
def S_image_labels_1 (a0 a1 : Value) (w : World) (K : Value → World → Prop) : Prop :=
  eff Pg (Instr.box 39 a0) w fun t2_1 w =>
  rd Pg (Instr.loadAt 91 a1) w fun t4_2 =>
  pur Pg (Instr.fieldAt 39 t2_1 0) fun t5_3 =>
  rd Pg (Instr.loadAt 2 t5_3) w fun t6_4 =>
  pur Pg (Instr.fieldAt 39 t2_1 1) fun t7_5 =>
  rd Pg (Instr.loadAt 2 t7_5) w fun t8_6 =>
  callS Pg n_image_get #[t4_2, t6_4, t8_6] w fun t9_7 w =>
  K t9_7 w
theorem eq_image_labels_1 : ∀ (a0 a1 : Value) (w : World) (K : Value → World → Prop), S_image_labels_1 a0 a1 w K = codeS Pg (Try.f103.body.getD .skip) ann_image_labels_1 (topX Pg Try.f103.results K) (fun t => Array.getD #[a0, a1] t undef) w := by
  intro a0 a1 w K
  kernel_rfl
theorem call_image_labels_1 (a0 a1 : Value) (w : World) (K : Value → World → Prop) (h : S_image_labels_1 a0 a1 w K) : callS Pg n_image_labels_1 #[a0, a1] w K :=
  callS_of mixed Try.func103 (c := Try.f103.body.getD .skip) (by kernel_rfl) (by kernel_rfl) (ann := ann_image_labels_1) (by kernel_rfl) (Nat.le_of_ble_eq_true (by kernel_rfl)) (by rw [← eq_image_labels_1]; exact h)

-- (*loop.example/g01165/impl.image).get
def ann_image_get : Ann :=
  (.seq none (.reg [⟨none, [], [0]⟩] [])
  (.seq none (.reg [⟨none, [], [0, 1, 2, 3, 4]⟩, ⟨some (4, true), [25], [5, 6, 7, 8, 9, 10, 11, 12, 13, 14, 15, 16, 17, 18]⟩, ⟨none, [], [19, 20]⟩] [])
  .leaf))
def S_image_get (a0 a1 a2 : Value) (w : World) (K : Value → World → Prop) : Prop :=
  drawS w fun w =>
  callS Pg n_image_has #[a0, a1, a2] w fun t10_1 w =>
  joinS (fun g2 s3 w =>
  pickS t10_1 (nth s3 0) (Go.Value.bool Bool.false) fun t26_5 =>
  K t26_5 w) fun J4 =>
  ifG t10_1 true (nilS a0 fun t13_6 =>
  pur Pg (Instr.fieldAt 118 t13_6 2) fun t14_7 =>
  rd Pg (Instr.loadAt 116 t14_7) w fun t15_8 =>
  nilS a0 fun t18_9 =>
  pur Pg (Instr.fieldAt 118 t18_9 0) fun t19_10 =>
  rd Pg (Instr.loadAt 2 t19_10) w fun t20_11 =>
  pur Pg (binOp Go.BinOp.mul 2 a2 t20_11) fun t21_12 =>
  pur Pg (binOp Go.BinOp.add 2 t21_12 a1) fun t23_13 =>
  pur Pg (Instr.indexAt 116 t15_8 t23_13) fun t24_14 =>
  rd Pg (Instr.loadAt 4 t24_14) w fun t25_15 =>
  J4 [t25_15] w)
  (J4 [undef] w)
theorem eq_image_get : ∀ (a0 a1 a2 : Value) (w : World) (K : Value → World → Prop), S_image_get a0 a1 a2 w K = codeS Pg (Try.f104.body.getD .skip) ann_image_get (topX Pg Try.f104.results K) (fun t => Array.getD #[a0, a1, a2] t undef) w := by
  intro a0 a1 a2 w K
  kernel_rfl
theorem call_image_get (a0 a1 a2 : Value) (w : World) (K : Value → World → Prop) (h : S_image_get a0 a1 a2 w K) : callS Pg n_image_get #[a0, a1, a2] w K :=
  callS_of mixed Try.func104 (c := Try.f104.body.getD .skip) (by kernel_rfl) (by kernel_rfl) (ann := ann_image_get) (by kernel_rfl) (Nat.le_of_ble_eq_true (by kernel_rfl)) (by rw [← eq_image_get]; exact h)

-- loop.example/g01165/spec.l01Side
def ann_l01Side : Ann :=
  (.seq none (.reg [⟨none, [], [0]⟩] [])
  (.seq none (.reg [⟨none, [], [0, 1, 2]⟩] [])
  .leaf))
def S_l01Side (a0 : Value) (w : World) (K : Value → World → Prop) : Prop :=
  callS Pg n_l00In #[a0, (Go.Value.int Go.IntKind.i64 1), (Go.Value.int Go.IntKind.i64 16)] w fun t4_1 w =>
  K t4_1 w
theorem eq_l01Side : ∀ (a0 : Value) (w : World) (K : Value → World → Prop), S_l01Side a0 w K = codeS Pg (Try.f105.body.getD .skip) ann_l01Side (topX Pg Try.f105.results K) (fun t => Array.getD #[a0] t undef) w := by
  intro a0 w K
  kernel_rfl
theorem call_l01Side (a0 : Value) (w : World) (K : Value → World → Prop) (h : S_l01Side a0 w K) : callS Pg n_l01Side #[a0] w K :=
  callS_of mixed Try.func105 (c := Try.f105.body.getD .skip) (by kernel_rfl) (by kernel_rfl) (ann := ann_l01Side) (by kernel_rfl) (Nat.le_of_ble_eq_true (by kernel_rfl)) (by rw [← eq_l01Side]; exact h)

-- loop.example/g01165/spec.l03Steps
def ann_l03Steps : Ann :=
  (.seq none (.reg [⟨none, [], [0]⟩] [])
  (.seq none (.reg [⟨none, [], [0, 1, 2, 3, 4, 5]⟩] [])
  (.seq (some ([3], [9, 10, 11, 12, 13, 14, 15, 16, 3])) (.seq none (.reg [⟨none, [], [0]⟩] [])
  (.cond (.reg [⟨none, [], [0, 1, 2, 3, 4, 5, 6, 7]⟩] [])
  .leaf))
  (.seq none (.reg [⟨none, [], [0, 1]⟩] [])
  .leaf))))
def S_l03Steps (a0 : Value) (w : World) (K : Value → World → Prop) : Prop :=
  pur Pg (Instr.build 39 #[(0, (Go.Value.int Go.IntKind.i64 0)), (1, (Go.Value.int Go.IntKind.i64 (-1)))]) fun t4_1 =>
  pur Pg (Instr.build 39 #[(0, (Go.Value.int Go.IntKind.i64 (-1))), (1, (Go.Value.int Go.IntKind.i64 0))]) fun t5_2 =>
  pur Pg (Instr.build 39 #[(0, (Go.Value.int Go.IntKind.i64 1)), (1, (Go.Value.int Go.IntKind.i64 0))]) fun t6_3 =>
  pur Pg (Instr.build 39 #[(0, (Go.Value.int Go.IntKind.i64 0)), (1, (Go.Value.int Go.IntKind.i64 1))]) fun t7_4 =>
  eff Pg (Instr.buildSlice 63 4 #[(0, t4_1), (1, t5_2), (2, t6_3), (3, t7_4)]) w fun t8_5 w =>
  joinS (fun g6 s7 w =>
  K (nth s7 0) w) fun J8 =>
  ifB a0 (pur Pg (Instr.build 39 #[(0, (Go.Value.int Go.IntKind.i64 (-1))), (1, (Go.Value.int Go.IntKind.i64 (-1)))]) fun t11_9 =>
  pur Pg (Instr.build 39 #[(0, (Go.Value.int Go.IntKind.i64 1)), (1, (Go.Value.int Go.IntKind.i64 (-1)))]) fun t12_10 =>
  pur Pg (Instr.build 39 #[(0, (Go.Value.int Go.IntKind.i64 (-1))), (1, (Go.Value.int Go.IntKind.i64 1))]) fun t13_11 =>
  pur Pg (Instr.build 39 #[(0, (Go.Value.int Go.IntKind.i64 1)), (1, (Go.Value.int Go.IntKind.i64 1))]) fun t14_12 =>
  eff Pg (Instr.buildSlice 63 4 #[(0, t11_9), (1, t12_10), (2, t13_11), (3, t14_12)]) w fun t15_13 w =>
  eff Pg (Builtin.append_ #[63, 63] 63 #[t8_5, t15_13]) w fun t16_14 w =>
  J8 [t16_14] w)
  (J8 [t8_5] w)
theorem eq_l03Steps : ∀ (a0 : Value) (w : World) (K : Value → World → Prop), S_l03Steps a0 w K = codeS Pg (Try.f106.body.getD .skip) ann_l03Steps (topX Pg Try.f106.results K) (fun t => Array.getD #[a0] t undef) w := by
  intro a0 w K
  kernel_rfl
theorem call_l03Steps (a0 : Value) (w : World) (K : Value → World → Prop) (h : S_l03Steps a0 w K) : callS Pg n_l03Steps #[a0] w K :=
  callS_of mixed Try.func106 (c := Try.f106.body.getD .skip) (by kernel_rfl) (by kernel_rfl) (ann := ann_l03Steps) (by kernel_rfl) (Nat.le_of_ble_eq_true (by kernel_rfl)) (by rw [← eq_l03Steps]; exact h)

-- slices.IndexFunc[[][]int64,[]int64]
def ann_slices_IndexFunc_int64_int64 : Ann :=
  (.seq none (.reg [⟨none, [], [0]⟩] [])
  (.seq none (.seq none (.reg [⟨none, [], [0, 1, 2]⟩] [])
  (.sub (.loop [8] [9, 10, 5, 11, 12, 13, 14, 15, 16, 17, 4, 18, 8]
  (.seq none (.reg [⟨none, [], [0]⟩] [])
  (.seq none (.cond .leaf
  .leaf)
  (.seq none (.sub (.seq none (.reg [⟨none, [], [0, 1]⟩] [])
  (.seq none (.reg [⟨none, [], [0, 1, 2, 3, 4, 5]⟩] [])
  (.cond (.seq none (.reg [⟨none, [], [0, 1]⟩] [])
  .leaf)
  .leaf))))
  (.reg [⟨none, [], [0, 1]⟩] [])))))))
  (.seq none (.reg [⟨none, [], [0]⟩] [])
  .leaf)))
def S_slices_IndexFunc_int64_int64 (a0 a1 : Value) (w : World) (K : Value → World → Prop) : Prop :=
  rd Pg (Builtin.len_ #[24] 3 #[a0]) w fun t7_1 =>
  loopS (fun N2 g3 s4 w =>
  pur Pg (binOp Go.BinOp.lss 3 (nth s4 0) t7_1) fun t9_5 =>
  ifB t9_5 (pur Pg (Instr.indexAt 24 a0 (nth s4 0)) fun t14_6 =>
  rd Pg (Instr.loadAt 34 t14_6) w fun t15_7 =>
  callV Pg a1 #[t15_7] w fun t16_8 w =>
  ifB t16_8 (K (nth s4 0) w)
  (pur Pg (binOp Go.BinOp.add 3 (nth s4 0) (Go.Value.int Go.IntKind.i64 1)) fun t18_9 =>
  N2 [t18_9] w))
  (K (Go.Value.int Go.IntKind.i64 (-1)) w)) [(Go.Value.int Go.IntKind.i64 0)] w
theorem eq_slices_IndexFunc_int64_int64 : ∀ (a0 a1 : Value) (w : World) (K : Value → World → Prop), S_slices_IndexFunc_int64_int64 a0 a1 w K = codeS Pg (Try.f107.body.getD .skip) ann_slices_IndexFunc_int64_int64 (topX Pg Try.f107.results K) (fun t => Array.getD #[a0, a1] t undef) w := by
  intro a0 a1 w K
  kernel_rfl
theorem call_slices_IndexFunc_int64_int64 (a0 a1 : Value) (w : World) (K : Value → World → Prop) (h : S_slices_IndexFunc_int64_int64 a0 a1 w K) : callS Pg n_slices_IndexFunc_int64_int64 #[a0, a1] w K :=
  callS_of mixed Try.func107 (c := Try.f107.body.getD .skip) (by kernel_rfl) (by kernel_rfl) (ann := ann_slices_IndexFunc_int64_int64) (by kernel_rfl) (Nat.le_of_ble_eq_true (by kernel_rfl)) (by rw [← eq_slices_IndexFunc_int64_int64]; exact h)

-- slices.IndexFunc[[]int64,int64]
def ann_slices_IndexFunc_int64_int64_108 : Ann :=
  (.seq none (.reg [⟨none, [], [0]⟩] [])
  (.seq none (.seq none (.reg [⟨none, [], [0, 1, 2]⟩] [])
  (.sub (.loop [8] [9, 10, 5, 11, 12, 13, 14, 15, 16, 17, 4, 18, 8]
  (.seq none (.reg [⟨none, [], [0]⟩] [])
  (.seq none (.cond .leaf
  .leaf)
  (.seq none (.sub (.seq none (.reg [⟨none, [], [0, 1]⟩] [])
  (.seq none (.reg [⟨none, [], [0, 1, 2, 3, 4, 5]⟩] [])
  (.cond (.seq none (.reg [⟨none, [], [0, 1]⟩] [])
  .leaf)
  .leaf))))
  (.reg [⟨none, [], [0, 1]⟩] [])))))))
  (.seq none (.reg [⟨none, [], [0]⟩] [])
  .leaf)))
def S_slices_IndexFunc_int64_int64_108 (a0 a1 : Value) (w : World) (K : Value → World → Prop) : Prop :=
  rd Pg (Builtin.len_ #[34] 3 #[a0]) w fun t7_1 =>
  loopS (fun N2 g3 s4 w =>
  pur Pg (binOp Go.BinOp.lss 3 (nth s4 0) t7_1) fun t9_5 =>
  ifB t9_5 (pur Pg (Instr.indexAt 34 a0 (nth s4 0)) fun t14_6 =>
  rd Pg (Instr.loadAt 2 t14_6) w fun t15_7 =>
  callV Pg a1 #[t15_7] w fun t16_8 w =>
  ifB t16_8 (K (nth s4 0) w)
  (pur Pg (binOp Go.BinOp.add 3 (nth s4 0) (Go.Value.int Go.IntKind.i64 1)) fun t18_9 =>
  N2 [t18_9] w))
  (K (Go.Value.int Go.IntKind.i64 (-1)) w)) [(Go.Value.int Go.IntKind.i64 0)] w
theorem eq_slices_IndexFunc_int64_int64_108 : ∀ (a0 a1 : Value) (w : World) (K : Value → World → Prop), S_slices_IndexFunc_int64_int64_108 a0 a1 w K = codeS Pg (Try.f108.body.getD .skip) ann_slices_IndexFunc_int64_int64_108 (topX Pg Try.f108.results K) (fun t => Array.getD #[a0, a1] t undef) w := by
  intro a0 a1 w K
  kernel_rfl
theorem call_slices_IndexFunc_int64_int64_108 (a0 a1 : Value) (w : World) (K : Value → World → Prop) (h : S_slices_IndexFunc_int64_int64_108 a0 a1 w K) : callS Pg n_slices_IndexFunc_int64_int64_108 #[a0, a1] w K :=
  callS_of mixed Try.func108 (c := Try.f108.body.getD .skip) (by kernel_rfl) (by kernel_rfl) (ann := ann_slices_IndexFunc_int64_int64_108) (by kernel_rfl) (Nat.le_of_ble_eq_true (by kernel_rfl)) (by rw [← eq_slices_IndexFunc_int64_int64_108]; exact h)

-- slices.insertionSortCmpFunc[loop.example/g01165/impl.Spot]
def ann_slices_insertionSortCmpFunc_impl_Spot : Ann :=
  (.seq none (.reg [⟨none, [], [0, 1, 2]⟩] [])
  (.sub (.loop [8] [12, 13, 14, 17, 9, 18, 19, 20, 21, 22, 23, 24, 25, 26, 27, 28, 29, 30, 31, 32, 33, 34, 37, 38, 39, 40, 41, 42, 43, 44, 45, 46, 47, 48, 49, 50, 51, 52, 35, 36, 15, 16, 8]
  (.seq none (.seq none (.reg [⟨none, [], [0, 1, 2]⟩] [])
  (.cond .leaf
  .leaf))
  (.seq none (.sub (.seq none (.reg [⟨none, [], [0, 1]⟩] [])
  (.sub (.loop [9] [18, 19, 20, 21, 22, 23, 24, 25, 26, 27, 28, 29, 30, 31, 32, 33, 34, 37, 38, 39, 40, 41, 42, 43, 44, 45, 46, 47, 48, 49, 50, 51, 52, 35, 36, 9]
  (.seq none (.seq none (.reg [⟨none, [], [0, 1, 2, 3]⟩, ⟨some (3, true), [33], [4, 5, 6, 7, 8, 9, 10, 11, 12, 13, 14, 15]⟩, ⟨none, [], [16]⟩] [])
  (.cond .leaf
  .leaf))
  (.seq none (.sub (.reg [⟨none, [], [0, 1, 2, 3, 4, 5, 6, 7, 8, 9, 10, 11, 12, 13, 14, 15, 16, 17]⟩] []))
  (.reg [⟨none, [], [0, 1, 2]⟩] [])))))))
  (.reg [⟨none, [], [0, 1, 2]⟩] []))))))
def S_slices_insertionSortCmpFunc_impl_Spot (a0 a1 a2 a3 : Value) (w : World) (K : Value → World → Prop) : Prop :=
  pur Pg (binOp Go.BinOp.add 3 a1 (Go.Value.int Go.IntKind.i64 1)) fun t11_1 =>
  loopS (fun N2 g3 s4 w =>
  pur Pg (binOp Go.BinOp.lss 3 (nth s4 0) a2) fun t14_5 =>
  ifB t14_5 (loopS (fun N6 g7 s8 w =>
  drawS w fun w =>
  pur Pg (binOp Go.BinOp.gtr 3 (nth s8 0) a1) fun t20_9 =>
  joinS (fun g10 s11 w =>
  pickS t20_9 (nth s11 0) (Go.Value.bool Bool.false) fun t34_13 =>
  ifB t34_13 (drawS w fun w =>
  pur Pg (binOp Go.BinOp.sub 3 (nth s8 0) (Go.Value.int Go.IntKind.i64 1)) fun t41_14 =>
  pur Pg (binOp Go.BinOp.sub 3 (nth s8 0) (Go.Value.int Go.IntKind.i64 1)) fun t44_15 =>
  pur Pg (Instr.indexAt 63 a0 t44_15) fun t45_16 =>
  rd Pg (Instr.loadAt 39 t45_16) w fun t46_17 =>
  pur Pg (Instr.indexAt 63 a0 (nth s8 0)) fun t49_18 =>
  rd Pg (Instr.loadAt 39 t49_18) w fun t50_19 =>
  pur Pg (Instr.indexAt 63 a0 (nth s8 0)) fun t51_20 =>
  effU Pg (Instr.storeAt 39 t51_20 t46_17) w fun w =>
  pur Pg (Instr.indexAt 63 a0 t41_14) fun t52_21 =>
  effU Pg (Instr.storeAt 39 t52_21 t50_19) w fun w =>
  pur Pg (binOp Go.BinOp.sub 3 (nth s8 0) (Go.Value.int Go.IntKind.i64 1)) fun t36_22 =>
  N6 [t36_22] w)
  (pur Pg (binOp Go.BinOp.add 3 (nth s4 0) (Go.Value.int Go.IntKind.i64 1)) fun t16_23 =>
  N2 [t16_23] w)) fun J12 =>
  ifG t20_9 true (pur Pg (Instr.indexAt 63 a0 (nth s8 0)) fun t25_24 =>
  rd Pg (Instr.loadAt 39 t25_24) w fun t26_25 =>
  pur Pg (binOp Go.BinOp.sub 3 (nth s8 0) (Go.Value.int Go.IntKind.i64 1)) fun t29_26 =>
  pur Pg (Instr.indexAt 63 a0 t29_26) fun t30_27 =>
  rd Pg (Instr.loadAt 39 t30_27) w fun t31_28 =>
  callV Pg a3 #[t26_25, t31_28] w fun t32_29 w =>
  pur Pg (binOp Go.BinOp.lss 3 t32_29 (Go.Value.int Go.IntKind.i64 0)) fun t33_30 =>
  J12 [t33_30] w)
  (J12 [undef] w)) [(nth s4 0)] w)
  (K (Value.tuple #[]) w)) [t11_1] w
theorem eq_slices_insertionSortCmpFunc_impl_Spot : ∀ (a0 a1 a2 a3 : Value) (w : World) (K : Value → World → Prop), S_slices_insertionSortCmpFunc_impl_Spot a0 a1 a2 a3 w K = codeS Pg (Try.f109.body.getD .skip) ann_slices_insertionSortCmpFunc_impl_Spot (topX Pg Try.f109.results K) (fun t => Array.getD #[a0, a1, a2, a3] t undef) w := by
  intro a0 a1 a2 a3 w K
  kernel_rfl
theorem call_slices_insertionSortCmpFunc_impl_Spot (a0 a1 a2 a3 : Value) (w : World) (K : Value → World → Prop) (h : S_slices_insertionSortCmpFunc_impl_Spot a0 a1 a2 a3 w K) : callS Pg n_slices_insertionSortCmpFunc_impl_Spot #[a0, a1, a2, a3] w K :=
  callS_of mixed Try.func109 (c := Try.f109.body.getD .skip) (by kernel_rfl) (by kernel_rfl) (ann := ann_slices_insertionSortCmpFunc_impl_Spot) (by kernel_rfl) (Nat.le_of_ble_eq_true (by kernel_rfl)) (by rw [← eq_slices_insertionSortCmpFunc_impl_Spot]; exact h)

-- slices.symMergeCmpFunc[loop.example/g01165/impl.Spot]
def ann_slices_symMergeCmpFunc_impl_Spot : Ann :=
  (.seq none (.seq none (.reg [⟨none, [], [0, 1, 2, 3]⟩] [])
  (.cond (.seq none (.reg [⟨none, [], [0, 1]⟩] [])
  (.seq none (.reg [⟨none, [], [0, 1]⟩] [])
  (.seq none (.sub (.loop [10, 11] [31, 32, 33, 34, 35, 36, 37, 38, 39, 12, 40, 41, 42, 43, 44, 45, 46, 47, 48, 49, 50, 51, 52, 10, 53, 11]
  (.seq none (.seq none (.reg [⟨none, [], [0, 1, 2]⟩] [])
  (.cond .leaf
  .leaf))
  (.sub (.seq none (.reg [⟨none, [], [0, 1, 2, 3, 4, 5, 6]⟩] [])
  (.seq none (.reg [⟨none, [], [0, 1, 2, 3, 4, 5, 6, 7, 8, 9, 10]⟩] [])
  (.cond (.reg [⟨none, [], [0, 1, 2]⟩] [])
  (.reg [⟨none, [], [0, 1]⟩] []))))))))
  (.seq none (.seq none (.reg [⟨none, [], [0, 1]⟩] [])
  (.sub (.loop [13] [55, 56, 57, 58, 61, 62, 63, 64, 65, 66, 67, 68, 69, 70, 71, 72, 73, 74, 75, 76, 59, 60, 13]
  (.seq none (.seq none (.reg [⟨none, [], [0, 1, 2, 3]⟩] [])
  (.cond .leaf
  .leaf))
  (.seq none (.sub (.reg [⟨none, [], [0, 1, 2, 3, 4, 5, 6, 7, 8, 9, 10, 11, 12, 13, 14, 15, 16, 17]⟩] []))
  (.reg [⟨none, [], [0, 1, 2]⟩] []))))))
  .leaf))))
  .leaf))
  (.seq none (.seq none (.reg [⟨none, [], [0, 1, 2, 3]⟩] [])
  (.cond (.seq none (.reg [⟨none, [], [0, 1]⟩] [])
  (.seq none (.reg [⟨none, [], [0, 1]⟩] [])
  (.seq none (.sub (.loop [14, 15] [83, 84, 85, 86, 87, 88, 89, 90, 91, 16, 92, 93, 94, 95, 96, 97, 98, 99, 100, 101, 102, 103, 104, 105, 14, 106, 15]
  (.seq none (.seq none (.reg [⟨none, [], [0, 1, 2]⟩] [])
  (.cond .leaf
  .leaf))
  (.sub (.seq none (.reg [⟨none, [], [0, 1, 2, 3, 4, 5, 6]⟩] [])
  (.seq none (.reg [⟨none, [], [0, 1, 2, 3, 4, 5, 6, 7, 8, 9, 10, 11]⟩] [])
  (.cond (.reg [⟨none, [], [0, 1, 2]⟩] [])
  (.reg [⟨none, [], [0, 1]⟩] []))))))))
  (.seq none (.seq none (.reg [⟨none, [], [0, 1]⟩] [])
  (.sub (.loop [17] [108, 109, 110, 113, 114, 115, 116, 117, 118, 119, 120, 121, 122, 123, 124, 125, 126, 127, 128, 111, 112, 17]
  (.seq none (.seq none (.reg [⟨none, [], [0, 1, 2]⟩] [])
  (.cond .leaf
  .leaf))
  (.seq none (.sub (.reg [⟨none, [], [0, 1, 2, 3, 4, 5, 6, 7, 8, 9, 10, 11, 12, 13, 14, 15, 16, 17]⟩] []))
  (.reg [⟨none, [], [0, 1, 2]⟩] []))))))
  .leaf))))
  .leaf))
  (.seq none (.reg [⟨none, [], [0, 1, 2, 3, 4, 5, 6]⟩] [])
  (.seq none (.reg [⟨none, [], [0, 1, 2, 3]⟩] [])
  (.seq none (.reg [⟨none, [], [0, 1]⟩] [])
  (.seq (some ([20, 21], [138, 139, 140, 141, 142, 143, 20, 144, 21, 145, 146])) (.seq none (.reg [⟨none, [], [0, 1, 2]⟩] [])
  (.cond (.seq none (.reg [⟨none, [], [0, 1, 2, 3]⟩] [])
  (.reg [⟨none, [], [0, 1]⟩] []))
  (.seq none (.reg [⟨none, [], [0, 1]⟩] [])
  (.reg [⟨none, [], [0, 1]⟩] []))))
  (.seq none (.reg [⟨none, [], [0, 1, 2]⟩] [])
  (.seq none (.sub (.loop [20, 21] [149, 150, 151, 152, 153, 154, 155, 156, 157, 23, 158, 159, 160, 161, 162, 163, 164, 165, 166, 167, 168, 169, 170, 171, 172, 173, 20, 174, 21]
  (.seq none (.seq none (.reg [⟨none, [], [0, 1, 2]⟩] [])
  (.cond .leaf
  .leaf))
  (.sub (.seq none (.reg [⟨none, [], [0, 1, 2, 3, 4, 5, 6]⟩] [])
  (.seq none (.reg [⟨none, [], [0, 1, 2, 3, 4, 5, 6, 7, 8, 9, 10, 11, 12, 13]⟩] [])
  (.cond (.reg [⟨none, [], [0, 1, 2]⟩] [])
  (.reg [⟨none, [], [0, 1]⟩] []))))))))
  (.seq none (.reg [⟨none, [], [0, 1, 2, 3]⟩] [])
  (.seq (some ([], [178, 179, 180, 181, 182, 183, 184, 185, 186, 187, 188, 189, 190, 191])) (.seq none (.reg [⟨none, [], [0, 1, 2, 3]⟩, ⟨some (3, true), [184], [4, 5, 6]⟩, ⟨none, [], [7]⟩] [])
  (.cond (.reg [⟨none, [], [0, 1, 2, 3, 4, 5]⟩] [])
  .leaf))
  (.seq (some ([], [192, 193, 194, 195, 196, 197, 198, 199, 200, 201, 202, 203, 204, 205])) (.seq none (.reg [⟨none, [], [0, 1, 2, 3]⟩, ⟨some (3, true), [198], [4, 5, 6]⟩, ⟨none, [], [7]⟩] [])
  (.cond (.reg [⟨none, [], [0, 1, 2, 3, 4, 5]⟩] [])
  .leaf))
  (.seq none (.reg [⟨none, [], [0, 1, 2, 3]⟩, ⟨some (3, true), [212], [4, 5, 6]⟩, ⟨none, [], [7]⟩] [])
  (.cond (.reg [⟨none, [], [0, 1, 2, 3, 4, 5]⟩] [])
  .leaf)))))))))))))
def S_slices_symMergeCmpFunc_impl_Spot (a0 a1 a2 a3 a4 : Value) (w : World) (K : Value → World → Prop) : Prop :=
  pur Pg (binOp Go.BinOp.sub 3 a2 a1) fun t27_1 =>
  rd Pg (binSem Go.BinOp.eql 3 (Go.Operand.tmp 27) (Go.Operand.const (Go.Value.int Go.IntKind.i64 1)) t27_1 (Go.Value.int Go.IntKind.i64 1)) w fun t28_2 =>
  ifB t28_2 (loopS (fun N3 g4 s5 w =>
  pur Pg (binOp Go.BinOp.lss 3 (nth s5 0) (nth s5 1)) fun t33_6 =>
  ifB t33_6 (pur Pg (binOp Go.BinOp.add 3 (nth s5 0) (nth s5 1)) fun t36_7 =>
  eff Pg (convert 3 112 t36_7) w fun t37_8 w =>
  pur Pg (binOp Go.BinOp.shr 112 t37_8 (Go.Value.int Go.IntKind.u64 1)) fun t38_9 =>
  eff Pg (convert 112 3 t38_9) w fun t39_10 w =>
  drawS w fun w =>
  pur Pg (Instr.indexAt 63 a0 t39_10) fun t43_11 =>
  rd Pg (Instr.loadAt 39 t43_11) w fun t44_12 =>
  pur Pg (Instr.indexAt 63 a0 a1) fun t47_13 =>
  rd Pg (Instr.loadAt 39 t47_13) w fun t48_14 =>
  callV Pg a4 #[t44_12, t48_14] w fun t49_15 w =>
  pur Pg (binOp Go.BinOp.lss 3 t49_15 (Go.Value.int Go.IntKind.i64 0)) fun t50_16 =>
  ifB t50_16 (pur Pg (binOp Go.BinOp.add 3 t39_10 (Go.Value.int Go.IntKind.i64 1)) fun t52_17 =>
  N3 [t52_17, (nth s5 1)] w)
  (N3 [(nth s5 0), t39_10] w))
  (loopS (fun N18 g19 s20 w =>
  pur Pg (binOp Go.BinOp.sub 3 (nth s5 0) (Go.Value.int Go.IntKind.i64 1)) fun t57_21 =>
  pur Pg (binOp Go.BinOp.lss 3 (nth s20 0) t57_21) fun t58_22 =>
  ifB t58_22 (drawS w fun w =>
  pur Pg (binOp Go.BinOp.add 3 (nth s20 0) (Go.Value.int Go.IntKind.i64 1)) fun t65_23 =>
  pur Pg (binOp Go.BinOp.add 3 (nth s20 0) (Go.Value.int Go.IntKind.i64 1)) fun t68_24 =>
  pur Pg (Instr.indexAt 63 a0 t68_24) fun t69_25 =>
  rd Pg (Instr.loadAt 39 t69_25) w fun t70_26 =>
  pur Pg (Instr.indexAt 63 a0 (nth s20 0)) fun t73_27 =>
  rd Pg (Instr.loadAt 39 t73_27) w fun t74_28 =>
  pur Pg (Instr.indexAt 63 a0 (nth s20 0)) fun t75_29 =>
  effU Pg (Instr.storeAt 39 t75_29 t70_26) w fun w =>
  pur Pg (Instr.indexAt 63 a0 t65_23) fun t76_30 =>
  effU Pg (Instr.storeAt 39 t76_30 t74_28) w fun w =>
  pur Pg (binOp Go.BinOp.add 3 (nth s20 0) (Go.Value.int Go.IntKind.i64 1)) fun t60_31 =>
  N18 [t60_31] w)
  (K (Value.tuple #[]) w)) [a1] w)) [a2, a3] w)
  (pur Pg (binOp Go.BinOp.sub 3 a3 a2) fun t79_32 =>
  rd Pg (binSem Go.BinOp.eql 3 (Go.Operand.tmp 79) (Go.Operand.const (Go.Value.int Go.IntKind.i64 1)) t79_32 (Go.Value.int Go.IntKind.i64 1)) w fun t80_33 =>
  ifB t80_33 (loopS (fun N34 g35 s36 w =>
  pur Pg (binOp Go.BinOp.lss 3 (nth s36 0) (nth s36 1)) fun t85_37 =>
  ifB t85_37 (pur Pg (binOp Go.BinOp.add 3 (nth s36 0) (nth s36 1)) fun t88_38 =>
  eff Pg (convert 3 112 t88_38) w fun t89_39 w =>
  pur Pg (binOp Go.BinOp.shr 112 t89_39 (Go.Value.int Go.IntKind.u64 1)) fun t90_40 =>
  eff Pg (convert 112 3 t90_40) w fun t91_41 w =>
  drawS w fun w =>
  pur Pg (Instr.indexAt 63 a0 a2) fun t95_42 =>
  rd Pg (Instr.loadAt 39 t95_42) w fun t96_43 =>
  pur Pg (Instr.indexAt 63 a0 t91_41) fun t99_44 =>
  rd Pg (Instr.loadAt 39 t99_44) w fun t100_45 =>
  callV Pg a4 #[t96_43, t100_45] w fun t101_46 w =>
  pur Pg (binOp Go.BinOp.lss 3 t101_46 (Go.Value.int Go.IntKind.i64 0)) fun t102_47 =>
  pur Pg (Op.unary Go.UnOp.not t102_47) fun t103_48 =>
  ifB t103_48 (pur Pg (binOp Go.BinOp.add 3 t91_41 (Go.Value.int Go.IntKind.i64 1)) fun t105_49 =>
  N34 [t105_49, (nth s36 1)] w)
  (N34 [(nth s36 0), t91_41] w))
  (loopS (fun N50 g51 s52 w =>
  pur Pg (binOp Go.BinOp.gtr 3 (nth s52 0) (nth s36 0)) fun t110_53 =>
  ifB t110_53 (drawS w fun w =>
  pur Pg (binOp Go.BinOp.sub 3 (nth s52 0) (Go.Value.int Go.IntKind.i64 1)) fun t117_54 =>
  pur Pg (binOp Go.BinOp.sub 3 (nth s52 0) (Go.Value.int Go.IntKind.i64 1)) fun t120_55 =>
  pur Pg (Instr.indexAt 63 a0 t120_55) fun t121_56 =>
  rd Pg (Instr.loadAt 39 t121_56) w fun t122_57 =>
  pur Pg (Instr.indexAt 63 a0 (nth s52 0)) fun t125_58 =>
  rd Pg (Instr.loadAt 39 t125_58) w fun t126_59 =>
  pur Pg (Instr.indexAt 63 a0 (nth s52 0)) fun t127_60 =>
  effU Pg (Instr.storeAt 39 t127_60 t122_57) w fun w =>
  pur Pg (Instr.indexAt 63 a0 t117_54) fun t128_61 =>
  effU Pg (Instr.storeAt 39 t128_61 t126_59) w fun w =>
  pur Pg (binOp Go.BinOp.sub 3 (nth s52 0) (Go.Value.int Go.IntKind.i64 1)) fun t112_62 =>
  N50 [t112_62] w)
  (K (Value.tuple #[]) w)) [a2] w)) [a1, a2] w)
  (pur Pg (binOp Go.BinOp.add 3 a1 a3) fun t131_63 =>
  eff Pg (convert 3 112 t131_63) w fun t132_64 w =>
  pur Pg (binOp Go.BinOp.shr 112 t132_64 (Go.Value.int Go.IntKind.u64 1)) fun t133_65 =>
  eff Pg (convert 112 3 t133_65) w fun t134_66 w =>
  pur Pg (binOp Go.BinOp.add 3 t134_66 a2) fun t137_67 =>
  joinS (fun g68 s69 w =>
  pur Pg (binOp Go.BinOp.sub 3 t137_67 (Go.Value.int Go.IntKind.i64 1)) fun t148_71 =>
  loopS (fun N72 g73 s74 w =>
  pur Pg (binOp Go.BinOp.lss 3 (nth s74 0) (nth s74 1)) fun t151_75 =>
  ifB t151_75 (pur Pg (binOp Go.BinOp.add 3 (nth s74 0) (nth s74 1)) fun t154_76 =>
  eff Pg (convert 3 112 t154_76) w fun t155_77 w =>
  pur Pg (binOp Go.BinOp.shr 112 t155_77 (Go.Value.int Go.IntKind.u64 1)) fun t156_78 =>
  eff Pg (convert 112 3 t156_78) w fun t157_79 w =>
  drawS w fun w =>
  pur Pg (binOp Go.BinOp.sub 3 t148_71 t157_79) fun t162_80 =>
  pur Pg (Instr.indexAt 63 a0 t162_80) fun t163_81 =>
  rd Pg (Instr.loadAt 39 t163_81) w fun t164_82 =>
  pur Pg (Instr.indexAt 63 a0 t157_79) fun t167_83 =>
  rd Pg (Instr.loadAt 39 t167_83) w fun t168_84 =>
  callV Pg a4 #[t164_82, t168_84] w fun t169_85 w =>
  pur Pg (binOp Go.BinOp.lss 3 t169_85 (Go.Value.int Go.IntKind.i64 0)) fun t170_86 =>
  pur Pg (Op.unary Go.UnOp.not t170_86) fun t171_87 =>
  ifB t171_87 (pur Pg (binOp Go.BinOp.add 3 t157_79 (Go.Value.int Go.IntKind.i64 1)) fun t173_88 =>
  N72 [t173_88, (nth s74 1)] w)
  (N72 [(nth s74 0), t157_79] w))
  (pur Pg (binOp Go.BinOp.sub 3 t137_67 (nth s74 0)) fun t177_89 =>
  joinS (fun g90 s91 w =>
  joinS (fun g93 s94 w =>
  pur Pg (binOp Go.BinOp.lss 3 t134_66 t177_89) fun t208_96 =>
  joinS (fun g97 s98 w =>
  pickS t208_96 (nth s98 0) (Go.Value.bool Bool.false) fun t213_100 =>
  ifB t213_100 (callS Pg n_slices_symMergeCmpFunc_impl_Spot #[a0, t134_66, t177_89, a3, a4] w fun t219_101 w =>
  K (Value.tuple #[]) w)
  (K (Value.tuple #[]) w)) fun J99 =>
  ifG t208_96 true (pur Pg (binOp Go.BinOp.lss 3 t177_89 a3) fun t212_102 =>
  J99 [t212_102] w)
  (J99 [undef] w)) fun J95 =>
  pur Pg (binOp Go.BinOp.lss 3 a1 (nth s74 0)) fun t194_103 =>
  joinS (fun g104 s105 w =>
  pickS t194_103 (nth s105 0) (Go.Value.bool Bool.false) fun t199_107 =>
  ifB t199_107 (callS Pg n_slices_symMergeCmpFunc_impl_Spot #[a0, a1, (nth s74 0), t134_66, a4] w fun t205_108 w =>
  J95 [] w)
  (J95 [] w)) fun J106 =>
  ifG t194_103 true (pur Pg (binOp Go.BinOp.lss 3 (nth s74 0) t134_66) fun t198_109 =>
  J106 [t198_109] w)
  (J106 [undef] w)) fun J92 =>
  pur Pg (binOp Go.BinOp.lss 3 (nth s74 0) a2) fun t180_110 =>
  joinS (fun g111 s112 w =>
  pickS t180_110 (nth s112 0) (Go.Value.bool Bool.false) fun t185_114 =>
  ifB t185_114 (callS Pg n_slices_rotateCmpFunc_impl_Spot #[a0, (nth s74 0), a2, t177_89, a4] w fun t191_115 w =>
  J92 [] w)
  (J92 [] w)) fun J113 =>
  ifG t180_110 true (pur Pg (binOp Go.BinOp.lss 3 a2 t177_89) fun t184_116 =>
  J113 [t184_116] w)
  (J113 [undef] w))) [(nth s69 0), (nth s69 1)] w) fun J70 =>
  pur Pg (binOp Go.BinOp.gtr 3 a2 t134_66) fun t140_117 =>
  ifB t140_117 (pur Pg (binOp Go.BinOp.sub 3 t137_67 a3) fun t143_118 =>
  J70 [t143_118, t134_66] w)
  (J70 [a1, a2] w)))
theorem eq_slices_symMergeCmpFunc_impl_Spot : ∀ (a0 a1 a2 a3 a4 : Value) (w : World) (K : Value → World → Prop), S_slices_symMergeCmpFunc_impl_Spot a0 a1 a2 a3 a4 w K = codeS Pg (Try.f110.body.getD .skip) ann_slices_symMergeCmpFunc_impl_Spot (topX Pg Try.f110.results K) (fun t => Array.getD #[a0, a1, a2, a3, a4] t undef) w := by
  intro a0 a1 a2 a3 a4 w K
  kernel_rfl
theorem call_slices_symMergeCmpFunc_impl_Spot (a0 a1 a2 a3 a4 : Value) (w : World) (K : Value → World → Prop) (h : S_slices_symMergeCmpFunc_impl_Spot a0 a1 a2 a3 a4 w K) : callS Pg n_slices_symMergeCmpFunc_impl_Spot #[a0, a1, a2, a3, a4] w K :=
  callS_of mixed Try.func110 (c := Try.f110.body.getD .skip) (by kernel_rfl) (by kernel_rfl) (ann := ann_slices_symMergeCmpFunc_impl_Spot) (by kernel_rfl) (Nat.le_of_ble_eq_true (by kernel_rfl)) (by rw [← eq_slices_symMergeCmpFunc_impl_Spot]; exact h)

-- slices.insertionSortCmpFunc[*loop.example/g01165/impl.valley]
def ann_slices_insertionSortCmpFunc_impl_valley : Ann :=
  (.seq none (.reg [⟨none, [], [0, 1, 2]⟩] [])
  (.sub (.loop [8] [12, 13, 14, 17, 9, 18, 19, 20, 21, 22, 23, 24, 25, 26, 27, 28, 29, 30, 31, 32, 33, 34, 37, 38, 39, 40, 41, 42, 43, 44, 45, 46, 47, 48, 49, 50, 51, 52, 35, 36, 15, 16, 8]
  (.seq none (.seq none (.reg [⟨none, [], [0, 1, 2]⟩] [])
  (.cond .leaf
  .leaf))
  (.seq none (.sub (.seq none (.reg [⟨none, [], [0, 1]⟩] [])
  (.sub (.loop [9] [18, 19, 20, 21, 22, 23, 24, 25, 26, 27, 28, 29, 30, 31, 32, 33, 34, 37, 38, 39, 40, 41, 42, 43, 44, 45, 46, 47, 48, 49, 50, 51, 52, 35, 36, 9]
  (.seq none (.seq none (.reg [⟨none, [], [0, 1, 2, 3]⟩, ⟨some (3, true), [33], [4, 5, 6, 7, 8, 9, 10, 11, 12, 13, 14, 15]⟩, ⟨none, [], [16]⟩] [])
  (.cond .leaf
  .leaf))
  (.seq none (.sub (.reg [⟨none, [], [0, 1, 2, 3, 4, 5, 6, 7, 8, 9, 10, 11, 12, 13, 14, 15, 16, 17]⟩] []))
  (.reg [⟨none, [], [0, 1, 2]⟩] [])))))))
  (.reg [⟨none, [], [0, 1, 2]⟩] []))))))
def S_slices_insertionSortCmpFunc_impl_valley (a0 a1 a2 a3 : Value) (w : World) (K : Value → World → Prop) : Prop :=
  pur Pg (binOp Go.BinOp.add 3 a1 (Go.Value.int Go.IntKind.i64 1)) fun t11_1 =>
  loopS (fun N2 g3 s4 w =>
  pur Pg (binOp Go.BinOp.lss 3 (nth s4 0) a2) fun t14_5 =>
  ifB t14_5 (loopS (fun N6 g7 s8 w =>
  drawS w fun w =>
  pur Pg (binOp Go.BinOp.gtr 3 (nth s8 0) a1) fun t20_9 =>
  joinS (fun g10 s11 w =>
  pickS t20_9 (nth s11 0) (Go.Value.bool Bool.false) fun t34_13 =>
  ifB t34_13 (drawS w fun w =>
  pur Pg (binOp Go.BinOp.sub 3 (nth s8 0) (Go.Value.int Go.IntKind.i64 1)) fun t41_14 =>
  pur Pg (binOp Go.BinOp.sub 3 (nth s8 0) (Go.Value.int Go.IntKind.i64 1)) fun t44_15 =>
  pur Pg (Instr.indexAt 60 a0 t44_15) fun t45_16 =>
  rd Pg (Instr.loadAt 62 t45_16) w fun t46_17 =>
  pur Pg (Instr.indexAt 60 a0 (nth s8 0)) fun t49_18 =>
  rd Pg (Instr.loadAt 62 t49_18) w fun t50_19 =>
  pur Pg (Instr.indexAt 60 a0 (nth s8 0)) fun t51_20 =>
  effU Pg (Instr.storeAt 62 t51_20 t46_17) w fun w =>
  pur Pg (Instr.indexAt 60 a0 t41_14) fun t52_21 =>
  effU Pg (Instr.storeAt 62 t52_21 t50_19) w fun w =>
  pur Pg (binOp Go.BinOp.sub 3 (nth s8 0) (Go.Value.int Go.IntKind.i64 1)) fun t36_22 =>
  N6 [t36_22] w)
  (pur Pg (binOp Go.BinOp.add 3 (nth s4 0) (Go.Value.int Go.IntKind.i64 1)) fun t16_23 =>
  N2 [t16_23] w)) fun J12 =>
  ifG t20_9 true (pur Pg (Instr.indexAt 60 a0 (nth s8 0)) fun t25_24 =>
  rd Pg (Instr.loadAt 62 t25_24) w fun t26_25 =>
  pur Pg (binOp Go.BinOp.sub 3 (nth s8 0) (Go.Value.int Go.IntKind.i64 1)) fun t29_26 =>
  pur Pg (Instr.indexAt 60 a0 t29_26) fun t30_27 =>
  rd Pg (Instr.loadAt 62 t30_27) w fun t31_28 =>
  callV Pg a3 #[t26_25, t31_28] w fun t32_29 w =>
  pur Pg (binOp Go.BinOp.lss 3 t32_29 (Go.Value.int Go.IntKind.i64 0)) fun t33_30 =>
  J12 [t33_30] w)
  (J12 [undef] w)) [(nth s4 0)] w)
  (K (Value.tuple #[]) w)) [t11_1] w
theorem eq_slices_insertionSortCmpFunc_impl_valley : ∀ (a0 a1 a2 a3 : Value) (w : World) (K : Value → World → Prop), S_slices_insertionSortCmpFunc_impl_valley a0 a1 a2 a3 w K = codeS Pg (Try.f111.body.getD .skip) ann_slices_insertionSortCmpFunc_impl_valley (topX Pg Try.f111.results K) (fun t => Array.getD #[a0, a1, a2, a3] t undef) w := by
  intro a0 a1 a2 a3 w K
  kernel_rfl
theorem call_slices_insertionSortCmpFunc_impl_valley (a0 a1 a2 a3 : Value) (w : World) (K : Value → World → Prop) (h : S_slices_insertionSortCmpFunc_impl_valley a0 a1 a2 a3 w K) : callS Pg n_slices_insertionSortCmpFunc_impl_valley #[a0, a1, a2, a3] w K :=
  callS_of mixed Try.func111 (c := Try.f111.body.getD .skip) (by kernel_rfl) (by kernel_rfl) (ann := ann_slices_insertionSortCmpFunc_impl_valley) (by kernel_rfl) (Nat.le_of_ble_eq_true (by kernel_rfl)) (by rw [← eq_slices_insertionSortCmpFunc_impl_valley]; exact h)

-- math/bits.Len32
def ann_math_bits_Len32 : Ann :=
  (.seq none (.reg [⟨none, [], [0]⟩] [])
  (.seq (some ([0, 2], [3, 4, 5, 6, 0, 2])) (.seq none (.reg [⟨none, [], [0, 1]⟩] [])
  (.cond (.seq none (.reg [⟨none, [], [0, 1, 2]⟩] [])
  (.reg [⟨none, [], [0]⟩] []))
  .leaf))
  (.seq (some ([0, 2], [7, 8, 9, 10, 0, 11, 12, 2])) (.seq none (.reg [⟨none, [], [0, 1]⟩] [])
  (.cond (.seq none (.reg [⟨none, [], [0, 1, 2]⟩] [])
  (.reg [⟨none, [], [0, 1, 2]⟩] []))
  .leaf))
  (.seq none (.reg [⟨none, [], [0, 1, 2, 3, 4, 5, 6]⟩] [])
  .leaf))))
def S_math_bits_Len32 (a0 : Value) (w : World) (K : Value → World → Prop) : Prop :=
  joinS (fun g1 s2 w =>
  joinS (fun g4 s5 w =>
  eff Pg (convert 143 5 (nth s5 0)) w fun t15_7 w =>
  pur Pg (Instr.index 9 (Go.Value.string (ByteArray.mk (List.toArray (List.append (List.append [0, 1, 2, 2, 3, 3, 3, 3, 4, 4, 4, 4, 4, 4, 4, 4, 5, 5, 5, 5, 5, 5, 5, 5, 5, 5, 5, 5, 5, 5, 5, 5, 6, 6, 6, 6, 6, 6, 6, 6, 6, 6, 6, 6, 6, 6, 6, 6, 6, 6, 6, 6, 6, 6, 6, 6, 6, 6, 6, 6, 6, 6, 6, 6] [7, 7, 7, 7, 7, 7, 7, 7, 7, 7, 7, 7, 7, 7, 7, 7, 7, 7, 7, 7, 7, 7, 7, 7, 7, 7, 7, 7, 7, 7, 7, 7, 7, 7, 7, 7, 7, 7, 7, 7, 7, 7, 7, 7, 7, 7, 7, 7, 7, 7, 7, 7, 7, 7, 7, 7, 7, 7, 7, 7, 7, 7, 7, 7]) (List.append [8, 8, 8, 8, 8, 8, 8, 8, 8, 8, 8, 8, 8, 8, 8, 8, 8, 8, 8, 8, 8, 8, 8, 8, 8, 8, 8, 8, 8, 8, 8, 8, 8, 8, 8, 8, 8, 8, 8, 8, 8, 8, 8, 8, 8, 8, 8, 8, 8, 8, 8, 8, 8, 8, 8, 8, 8, 8, 8, 8, 8, 8, 8, 8] [8, 8, 8, 8, 8, 8, 8, 8, 8, 8, 8, 8, 8, 8, 8, 8, 8, 8, 8, 8, 8, 8, 8, 8, 8, 8, 8, 8, 8, 8, 8, 8, 8, 8, 8, 8, 8, 8, 8, 8, 8, 8, 8, 8, 8, 8, 8, 8, 8, 8, 8, 8, 8, 8, 8, 8, 8, 8, 8, 8, 8, 8, 8, 8]))))) t15_7) fun t16_8 =>
  eff Pg (convert 5 3 t16_8) w fun t17_9 w =>
  pur Pg (binOp Go.BinOp.add 3 (nth s5 1) t17_9) fun t18_10 =>
  K t18_10 w) fun J6 =>
  pur Pg (binOp Go.BinOp.geq 143 (nth s2 0) (Go.Value.int Go.IntKind.u32 256)) fun t8_11 =>
  ifB t8_11 (pur Pg (binOp Go.BinOp.shr 143 (nth s2 0) (Go.Value.int Go.IntKind.u64 8)) fun t10_12 =>
  pur Pg (binOp Go.BinOp.add 3 (nth s2 1) (Go.Value.int Go.IntKind.i64 8)) fun t12_13 =>
  J6 [t10_12, t12_13] w)
  (J6 [(nth s2 0), (nth s2 1)] w)) fun J3 =>
  pur Pg (binOp Go.BinOp.geq 143 a0 (Go.Value.int Go.IntKind.u32 65536)) fun t4_14 =>
  ifB t4_14 (pur Pg (binOp Go.BinOp.shr 143 a0 (Go.Value.int Go.IntKind.u64 16)) fun t6_15 =>
  J3 [t6_15, (Go.Value.int Go.IntKind.i64 16)] w)
  (J3 [a0, (Go.Value.int Go.IntKind.i64 0)] w)
theorem eq_math_bits_Len32 : ∀ (a0 : Value) (w : World) (K : Value → World → Prop), S_math_bits_Len32 a0 w K = codeS Pg (Try.f119.body.getD .skip) ann_math_bits_Len32 (topX Pg Try.f119.results K) (fun t => Array.getD #[a0] t undef) w := by
  intro a0 w K
  kernel_rfl
theorem call_math_bits_Len32 (a0 : Value) (w : World) (K : Value → World → Prop) (h : S_math_bits_Len32 a0 w K) : callS Pg n_math_bits_Len32 #[a0] w K :=
  callS_of mixed Try.func119 (c := Try.f119.body.getD .skip) (by kernel_rfl) (by kernel_rfl) (ann := ann_math_bits_Len32) (by kernel_rfl) (Nat.le_of_ble_eq_true (by kernel_rfl)) (by rw [← eq_math_bits_Len32]; exact h)

-- math/bits.Len64
def ann_math_bits_Len64 : Ann :=
  (.seq none (.reg [⟨none, [], [0]⟩] [])
  (.seq (some ([0, 2], [3, 4, 5, 6, 0, 2])) (.seq none (.reg [⟨none, [], [0, 1]⟩] [])
  (.cond (.seq none (.reg [⟨none, [], [0, 1, 2]⟩] [])
  (.reg [⟨none, [], [0]⟩] []))
  .leaf))
  (.seq (some ([0, 2], [7, 8, 9, 10, 0, 11, 12, 2])) (.seq none (.reg [⟨none, [], [0, 1]⟩] [])
  (.cond (.seq none (.reg [⟨none, [], [0, 1, 2]⟩] [])
  (.reg [⟨none, [], [0, 1, 2]⟩] []))
  .leaf))
  (.seq (some ([0, 2], [13, 14, 15, 16, 0, 17, 18, 2])) (.seq none (.reg [⟨none, [], [0, 1]⟩] [])
  (.cond (.seq none (.reg [⟨none, [], [0, 1, 2]⟩] [])
  (.reg [⟨none, [], [0, 1, 2]⟩] []))
  .leaf))
  (.seq none (.reg [⟨none, [], [0, 1, 2, 3, 4, 5, 6]⟩] [])
  .leaf)))))
def S_math_bits_Len64 (a0 : Value) (w : World) (K : Value → World → Prop) : Prop :=
  joinS (fun g1 s2 w =>
  joinS (fun g4 s5 w =>
  joinS (fun g7 s8 w =>
  eff Pg (convert 83 5 (nth s8 0)) w fun t21_10 w =>
  pur Pg (Instr.index 9 (Go.Value.string (ByteArray.mk (List.toArray (List.append (List.append [0, 1, 2, 2, 3, 3, 3, 3, 4, 4, 4, 4, 4, 4, 4, 4, 5, 5, 5, 5, 5, 5, 5, 5, 5, 5, 5, 5, 5, 5, 5, 5, 6, 6, 6, 6, 6, 6, 6, 6, 6, 6, 6, 6, 6, 6, 6, 6, 6, 6, 6, 6, 6, 6, 6, 6, 6, 6, 6, 6, 6, 6, 6, 6] [7, 7, 7, 7, 7, 7, 7, 7, 7, 7, 7, 7, 7, 7, 7, 7, 7, 7, 7, 7, 7, 7, 7, 7, 7, 7, 7, 7, 7, 7, 7, 7, 7, 7, 7, 7, 7, 7, 7, 7, 7, 7, 7, 7, 7, 7, 7, 7, 7, 7, 7, 7, 7, 7, 7, 7, 7, 7, 7, 7, 7, 7, 7, 7]) (List.append [8, 8, 8, 8, 8, 8, 8, 8, 8, 8, 8, 8, 8, 8, 8, 8, 8, 8, 8, 8, 8, 8, 8, 8, 8, 8, 8, 8, 8, 8, 8, 8, 8, 8, 8, 8, 8, 8, 8, 8, 8, 8, 8, 8, 8, 8, 8, 8, 8, 8, 8, 8, 8, 8, 8, 8, 8, 8, 8, 8, 8, 8, 8, 8] [8, 8, 8, 8, 8, 8, 8, 8, 8, 8, 8, 8, 8, 8, 8, 8, 8, 8, 8, 8, 8, 8, 8, 8, 8, 8, 8, 8, 8, 8, 8, 8, 8, 8, 8, 8, 8, 8, 8, 8, 8, 8, 8, 8, 8, 8, 8, 8, 8, 8, 8, 8, 8, 8, 8, 8, 8, 8, 8, 8, 8, 8, 8, 8]))))) t21_10) fun t22_11 =>
  eff Pg (convert 5 3 t22_11) w fun t23_12 w =>
  pur Pg (binOp Go.BinOp.add 3 (nth s8 1) t23_12) fun t24_13 =>
  K t24_13 w) fun J9 =>
  pur Pg (binOp Go.BinOp.geq 83 (nth s5 0) (Go.Value.int Go.IntKind.u64 256)) fun t14_14 =>
  ifB t14_14 (pur Pg (binOp Go.BinOp.shr 83 (nth s5 0) (Go.Value.int Go.IntKind.u64 8)) fun t16_15 =>
  pur Pg (binOp Go.BinOp.add 3 (nth s5 1) (Go.Value.int Go.IntKind.i64 8)) fun t18_16 =>
  J9 [t16_15, t18_16] w)
  (J9 [(nth s5 0), (nth s5 1)] w)) fun J6 =>
  pur Pg (binOp Go.BinOp.geq 83 (nth s2 0) (Go.Value.int Go.IntKind.u64 65536)) fun t8_17 =>
  ifB t8_17 (pur Pg (binOp Go.BinOp.shr 83 (nth s2 0) (Go.Value.int Go.IntKind.u64 16)) fun t10_18 =>
  pur Pg (binOp Go.BinOp.add 3 (nth s2 1) (Go.Value.int Go.IntKind.i64 16)) fun t12_19 =>
  J6 [t10_18, t12_19] w)
  (J6 [(nth s2 0), (nth s2 1)] w)) fun J3 =>
  pur Pg (binOp Go.BinOp.geq 83 a0 (Go.Value.int Go.IntKind.u64 4294967296)) fun t4_20 =>
  ifB t4_20 (pur Pg (binOp Go.BinOp.shr 83 a0 (Go.Value.int Go.IntKind.u64 32)) fun t6_21 =>
  J3 [t6_21, (Go.Value.int Go.IntKind.i64 32)] w)
  (J3 [a0, (Go.Value.int Go.IntKind.i64 0)] w)
theorem eq_math_bits_Len64 : ∀ (a0 : Value) (w : World) (K : Value → World → Prop), S_math_bits_Len64 a0 w K = codeS Pg (Try.f120.body.getD .skip) ann_math_bits_Len64 (topX Pg Try.f120.results K) (fun t => Array.getD #[a0] t undef) w := by
  intro a0 w K
  kernel_rfl
theorem call_math_bits_Len64 (a0 : Value) (w : World) (K : Value → World → Prop) (h : S_math_bits_Len64 a0 w K) : callS Pg n_math_bits_Len64 #[a0] w K :=
  callS_of mixed Try.func120 (c := Try.f120.body.getD .skip) (by kernel_rfl) (by kernel_rfl) (ann := ann_math_bits_Len64) (by kernel_rfl) (Nat.le_of_ble_eq_true (by kernel_rfl)) (by rw [← eq_math_bits_Len64]; exact h)

-- (*loop.example/g01165/impl.image).spots$1
def ann_image_spots_1 : Ann :=
  (.seq none (.reg [⟨none, [], [0, 1, 2, 3]⟩] [])
  (.cond (.reg [⟨none, [], [0, 1, 2, 3, 4, 5, 6]⟩] [])
  .leaf))
def S_image_spots_1 (a0 a1 a2 a3 : Value) (w : World) (K : Value → World → Prop) : Prop :=
  rd Pg (Instr.loadAt 91 a2) w fun t6_1 =>
  callS Pg n_image_get #[t6_1, a0, a1] w fun t9_2 w =>
  ifB t9_2 (rd Pg (Instr.loadAt 63 a3) w fun t10_3 =>
  pur Pg (Instr.build 39 #[(0, a0), (1, a1)]) fun t13_4 =>
  eff Pg (Instr.buildSlice 63 1 #[(0, t13_4)]) w fun t14_5 w =>
  eff Pg (Builtin.append_ #[63, 63] 63 #[t10_3, t14_5]) w fun t15_6 w =>
  effU Pg (Instr.storeAt 63 a3 t15_6) w fun w =>
  K (Value.tuple #[]) w)
  (K (Value.tuple #[]) w)
theorem eq_image_spots_1 : ∀ (a0 a1 a2 a3 : Value) (w : World) (K : Value → World → Prop), S_image_spots_1 a0 a1 a2 a3 w K = codeS Pg (Try.f121.body.getD .skip) ann_image_spots_1 (topX Pg Try.f121.results K) (fun t => Array.getD #[a0, a1, a2, a3] t undef) w := by
  intro a0 a1 a2 a3 w K
  kernel_rfl
theorem call_image_spots_1 (a0 a1 a2 a3 : Value) (w : World) (K : Value → World → Prop) (h : S_image_spots_1 a0 a1 a2 a3 w K) : callS Pg n_image_spots_1 #[a0, a1, a2, a3] w K :=
  callS_of mixed Try.func121 (c := Try.f121.body.getD .skip) (by kernel_rfl) (by kernel_rfl) (ann := ann_image_spots_1) (by kernel_rfl) (Nat.le_of_ble_eq_true (by kernel_rfl)) (by rw [← eq_image_spots_1]; exact h)

-- (*loop.example/g01165/impl.image).has
def ann_image_has : Ann :=
  (.seq none (.reg [⟨none, [], [0]⟩] [])
  (.seq none (.reg [⟨none, [], [0, 1, 2, 3, 4, 5, 6, 7]⟩, ⟨some (7, true), [21], [8, 9, 10, 11, 12, 13, 14]⟩, ⟨none, [], [15, 16]⟩] [])
  .leaf))
def S_image_has (a0 a1 a2 : Value) (w : World) (K : Value → World → Prop) : Prop :=
  nilS a0 fun t9_1 =>
  pur Pg (Instr.fieldAt 118 t9_1 0) fun t10_2 =>
  rd Pg (Instr.loadAt 2 t10_2) w fun t11_3 =>
  pur Pg (binOp Go.BinOp.sub 2 t11_3 (Go.Value.int Go.IntKind.i64 1)) fun t12_4 =>
  callS Pg n_in #[a1, (Go.Value.int Go.IntKind.i64 0), t12_4] w fun t13_5 w =>
  joinS (fun g6 s7 w =>
  pickS t13_5 (nth s7 0) (Go.Value.bool Bool.false) fun t22_9 =>
  K t22_9 w) fun J8 =>
  ifG t13_5 true (nilS a0 fun t17_10 =>
  pur Pg (Instr.fieldAt 118 t17_10 1) fun t18_11 =>
  rd Pg (Instr.loadAt 2 t18_11) w fun t19_12 =>
  pur Pg (binOp Go.BinOp.sub 2 t19_12 (Go.Value.int Go.IntKind.i64 1)) fun t20_13 =>
  callS Pg n_in #[a2, (Go.Value.int Go.IntKind.i64 0), t20_13] w fun t21_14 w =>
  J8 [t21_14] w)
  (J8 [undef] w)
theorem eq_image_has : ∀ (a0 a1 a2 : Value) (w : World) (K : Value → World → Prop), S_image_has a0 a1 a2 w K = codeS Pg (Try.f122.body.getD .skip) ann_image_has (topX Pg Try.f122.results K) (fun t => Array.getD #[a0, a1, a2] t undef) w := by
  intro a0 a1 a2 w K
  kernel_rfl
theorem call_image_has (a0 a1 a2 : Value) (w : World) (K : Value → World → Prop) (h : S_image_has a0 a1 a2 w K) : callS Pg n_image_has #[a0, a1, a2] w K :=
  callS_of mixed Try.func122 (c := Try.f122.body.getD .skip) (by kernel_rfl) (by kernel_rfl) (ann := ann_image_has) (by kernel_rfl) (Nat.le_of_ble_eq_true (by kernel_rfl)) (by rw [← eq_image_has]; exact h)

-- slices.rotateCmpFunc[loop.example/g01165/impl.Spot]
def ann_slices_rotateCmpFunc_impl_Spot : Ann :=
  (.seq none (.reg [⟨none, [], [0, 1, 2, 3]⟩] [])
  (.seq none (.reg [⟨none, [], [0, 1, 2, 3]⟩] [])
  (.seq none (.sub (.loop [10, 11] [18, 19, 20, 21, 22, 23, 24, 25, 26, 27, 28, 29, 30, 31, 32, 33, 34, 10, 35, 36, 37, 38, 39, 40, 41, 42, 43, 44, 45, 46, 47, 48, 49, 11]
  (.seq none (.seq none (.reg [⟨none, [], [0, 1, 2]⟩] [])
  (.cond .leaf
  .leaf))
  (.sub (.seq none (.reg [⟨none, [], [0, 1, 2]⟩] [])
  (.cond (.seq none (.reg [⟨none, [], [0, 1, 2, 3, 4, 5, 6, 7]⟩] [])
  (.reg [⟨none, [], [0, 1, 2, 3]⟩] []))
  (.seq none (.reg [⟨none, [], [0, 1, 2, 3, 4, 5, 6, 7, 8, 9, 10, 11]⟩] [])
  (.reg [⟨none, [], [0, 1, 2, 3]⟩] []))))))))
  (.reg [⟨none, [], [0, 1, 2, 3, 4, 5, 6, 7]⟩] []))))
def S_slices_rotateCmpFunc_impl_Spot (a0 a1 a2 a3 a4 : Value) (w : World) (K : Value → World → Prop) : Prop :=
  pur Pg (binOp Go.BinOp.sub 3 a2 a1) fun t14_1 =>
  pur Pg (binOp Go.BinOp.sub 3 a3 a2) fun t17_2 =>
  loopS (fun N3 g4 s5 w =>
  rd Pg (binSem Go.BinOp.neq 3 (Go.Operand.tmp 18) (Go.Operand.tmp 19) (nth s5 0) (nth s5 1)) w fun t20_6 =>
  ifB t20_6 (pur Pg (binOp Go.BinOp.gtr 3 (nth s5 0) (nth s5 1)) fun t23_7 =>
  ifB t23_7 (pur Pg (binOp Go.BinOp.sub 3 a2 (nth s5 0)) fun t27_8 =>
  callS Pg n_slices_swapRangeCmpFunc_impl_Spot #[a0, t27_8, a2, (nth s5 1), a4] w fun t31_9 w =>
  pur Pg (binOp Go.BinOp.sub 3 (nth s5 0) (nth s5 1)) fun t34_10 =>
  N3 [t34_10, (nth s5 1)] w)
  (pur Pg (binOp Go.BinOp.sub 3 a2 (nth s5 0)) fun t38_11 =>
  pur Pg (binOp Go.BinOp.add 3 a2 (nth s5 1)) fun t41_12 =>
  pur Pg (binOp Go.BinOp.sub 3 t41_12 (nth s5 0)) fun t43_13 =>
  callS Pg n_slices_swapRangeCmpFunc_impl_Spot #[a0, t38_11, t43_13, (nth s5 0), a4] w fun t46_14 w =>
  pur Pg (binOp Go.BinOp.sub 3 (nth s5 1) (nth s5 0)) fun t49_15 =>
  N3 [(nth s5 0), t49_15] w))
  (pur Pg (binOp Go.BinOp.sub 3 a2 (nth s5 0)) fun t53_16 =>
  callS Pg n_slices_swapRangeCmpFunc_impl_Spot #[a0, t53_16, a2, (nth s5 0), a4] w fun t57_17 w =>
  K (Value.tuple #[]) w)) [t14_1, t17_2] w
theorem eq_slices_rotateCmpFunc_impl_Spot : ∀ (a0 a1 a2 a3 a4 : Value) (w : World) (K : Value → World → Prop), S_slices_rotateCmpFunc_impl_Spot a0 a1 a2 a3 a4 w K = codeS Pg (Try.f123.body.getD .skip) ann_slices_rotateCmpFunc_impl_Spot (topX Pg Try.f123.results K) (fun t => Array.getD #[a0, a1, a2, a3, a4] t undef) w := by
  intro a0 a1 a2 a3 a4 w K
  kernel_rfl
theorem call_slices_rotateCmpFunc_impl_Spot (a0 a1 a2 a3 a4 : Value) (w : World) (K : Value → World → Prop) (h : S_slices_rotateCmpFunc_impl_Spot a0 a1 a2 a3 a4 w K) : callS Pg n_slices_rotateCmpFunc_impl_Spot #[a0, a1, a2, a3, a4] w K :=
  callS_of mixed Try.func123 (c := Try.f123.body.getD .skip) (by kernel_rfl) (by kernel_rfl) (ann := ann_slices_rotateCmpFunc_impl_Spot) (by kernel_rfl) (Nat.le_of_ble_eq_true (by kernel_rfl)) (by rw [← eq_slices_rotateCmpFunc_impl_Spot]; exact h)

-- slices.swapRangeCmpFunc[loop.example/g01165/impl.Spot]
def ann_slices_swapRangeCmpFunc_impl_Spot : Ann :=
  (.seq none (.reg [⟨none, [], [0]⟩] [])
  (.sub (.loop [10] [11, 12, 13, 16, 17, 18, 19, 20, 21, 22, 23, 24, 25, 26, 27, 28, 29, 30, 31, 32, 33, 34, 35, 36, 37, 14, 15, 10]
  (.seq none (.seq none (.reg [⟨none, [], [0, 1, 2]⟩] [])
  (.cond .leaf
  .leaf))
  (.seq none (.sub (.reg [⟨none, [], [0, 1, 2, 3, 4, 5, 6, 7, 8, 9, 10, 11, 12, 13, 14, 15, 16, 17, 18, 19, 20, 21, 22, 23]⟩] []))
  (.reg [⟨none, [], [0, 1, 2]⟩] []))))))
def S_slices_swapRangeCmpFunc_impl_Spot (a0 a1 a2 a3 a4 : Value) (w : World) (K : Value → World → Prop) : Prop :=
  loopS (fun N1 g2 s3 w =>
  pur Pg (binOp Go.BinOp.lss 3 (nth s3 0) a3) fun t13_4 =>
  ifB t13_4 (drawS w fun w =>
  pur Pg (binOp Go.BinOp.add 3 a1 (nth s3 0)) fun t19_5 =>
  pur Pg (binOp Go.BinOp.add 3 a2 (nth s3 0)) fun t23_6 =>
  pur Pg (binOp Go.BinOp.add 3 a2 (nth s3 0)) fun t27_7 =>
  pur Pg (Instr.indexAt 63 a0 t27_7) fun t28_8 =>
  rd Pg (Instr.loadAt 39 t28_8) w fun t29_9 =>
  pur Pg (binOp Go.BinOp.add 3 a1 (nth s3 0)) fun t33_10 =>
  pur Pg (Instr.indexAt 63 a0 t33_10) fun t34_11 =>
  rd Pg (Instr.loadAt 39 t34_11) w fun t35_12 =>
  pur Pg (Instr.indexAt 63 a0 t19_5) fun t36_13 =>
  effU Pg (Instr.storeAt 39 t36_13 t29_9) w fun w =>
  pur Pg (Instr.indexAt 63 a0 t23_6) fun t37_14 =>
  effU Pg (Instr.storeAt 39 t37_14 t35_12) w fun w =>
  pur Pg (binOp Go.BinOp.add 3 (nth s3 0) (Go.Value.int Go.IntKind.i64 1)) fun t15_15 =>
  N1 [t15_15] w)
  (K (Value.tuple #[]) w)) [(Go.Value.int Go.IntKind.i64 0)] w
theorem eq_slices_swapRangeCmpFunc_impl_Spot : ∀ (a0 a1 a2 a3 a4 : Value) (w : World) (K : Value → World → Prop), S_slices_swapRangeCmpFunc_impl_Spot a0 a1 a2 a3 a4 w K = codeS Pg (Try.f129.body.getD .skip) ann_slices_swapRangeCmpFunc_impl_Spot (topX Pg Try.f129.results K) (fun t => Array.getD #[a0, a1, a2, a3, a4] t undef) w := by
  intro a0 a1 a2 a3 a4 w K
  kernel_rfl
theorem call_slices_swapRangeCmpFunc_impl_Spot (a0 a1 a2 a3 a4 : Value) (w : World) (K : Value → World → Prop) (h : S_slices_swapRangeCmpFunc_impl_Spot a0 a1 a2 a3 a4 w K) : callS Pg n_slices_swapRangeCmpFunc_impl_Spot #[a0, a1, a2, a3, a4] w K :=
  callS_of mixed Try.func129 (c := Try.f129.body.getD .skip) (by kernel_rfl) (by kernel_rfl) (ann := ann_slices_swapRangeCmpFunc_impl_Spot) (by kernel_rfl) (Nat.le_of_ble_eq_true (by kernel_rfl)) (by rw [← eq_slices_swapRangeCmpFunc_impl_Spot]; exact h)

end Go.Proofs.Ytfdmphgbodmkpaa
