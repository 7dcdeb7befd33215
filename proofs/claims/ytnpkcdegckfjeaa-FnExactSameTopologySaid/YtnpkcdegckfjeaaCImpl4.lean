/- Contracts of the program's tree and of both sides' answers. -/
import Derived.Test.YtnpkcdegckfjeaaCImpl3
namespace Go.Proofs.Ytnpkcdegckfjeaa
open Go Go.SL Go.RowKit
set_option maxRecDepth 100000

theorem ext20_i {a b : Value} {K : Value → Prop} (hK : K a) : pur Pg (Instr.extract (.tuple #[a, b]) 0) K := ext_i rfl hK
theorem ext21_i {a b : Value} {K : Value → Prop} (hK : K b) : pur Pg (Instr.extract (.tuple #[a, b]) 1) K := ext_i rfl hK
theorem image_tree_c {w : World} {b c W H : Nat} {px : List Bool} {K : Value → World → Prop} (hi : Img w b c W H px) (hw : W ≤ 16) (hh : H ≤ 16)
    (hK : ∀ cd d w', Ext w w' → TreeIs W H px cd d → K (.tuple #[.string cd, i64 d]) w') : callS Pg n_image_tree #[ptr b 0] w K := by
  refine call_image_tree _ _ _ ?_
  unfold S_image_tree
  refine framed_c hi (by omega) (by omega) fun b' c' w1 he1 hb' hc' hI1 => ?_
  refine var1_i (by kernel_rfl) rfl rfl rfl fun tb w2 h2 => ?_
  have hE2 : Ext w w2 := he1.trans h2.ext
  have hI2 := hI1.ext h2.ext
  refine build_i rfl rfl ?_
  refine spots_one_i (p := (0, 0)) rfl fun qv qb w3 he3 hqb hqv => ?_
  have hE3 := hE2.trans he3
  have htb3 := he3.at_ h2.at_
  have hWH : (W + 2) * (H + 2) ≤ 18 * 18 := Nat.mul_le_mul (by omega) (by omega)
  have hcor := pad_corner W H px
  refine spread_c (ok := okc (W + 2) (H + 2) (colOf (W + 2) (H + 2) (padOf W H px)) false) (e := false) (start := [(0, 0)]) (L := grid (W + 2) (H + 2)) (fun p hp => mem_grid (okc_iff.1 hp).1) (by simp [grid]; omega) (fun p hp => by have := (okc_iff.1 hp).1; unfold inG at this; omega) hqv (by simp)
    (fun p hp => by rw [List.mem_singleton] at hp; subst hp; simp only; omega)
    (fun p w1 he _ K' hK' => tree1_c ((hI2.ext he3).ext he) (he.at_ htb3) hK') fun r S w4 he4 hr hS hSn hSr => ?_
  have hSc : ∀ x, x ∈ S ↔ Conn (W + 2) (H + 2) (colOf (W + 2) (H + 2) (padOf W H px)) (0, 0) x := fun x => by
    rw [hSr]; unfold Conn; rw [hcor]
  refine makeMap_i pairV fun r2 w5 he5 hr2 hm5 => ?_
  have hrl := hS.lt
  have hE5 : Ext w w5 := hE3.trans (he4.trans he5)
  refine mark_c (M := []) (hS.ext he5) hm5 (by omega) hSn fun M w6 hm6 hM6 hmem => ?_
  have z1 := he1.size; have z2 := h2.ext.size; have z3 := he3.size; have z4 := he4.size
  have htl := lt_of_at h2.at_
  have hE6 : Ext w w6 := hE5.own hm6 (by omega)
  have htb6 := hm6.at_ (he5.at_ (he4.at_ htb3)) (by omega)
  refine ld_i (by kernel_rfl) htb6 rfl ?_
  have hmem' : ∀ x, x ∈ M ↔ Conn (W + 2) (H + 2) (colOf (W + 2) (H + 2) (padOf W H px)) (0, 0) x := fun x => by
    rw [hmem, ← hSc]; simp
  have hI5 := ((hI2.ext he3).ext he4).ext he5
  refine below_c (by omega) ((W + 2) * (H + 2)) (s := (0, 0)) (P := fun _ => False) (by omega) hcor.symm (hI5.mod hm6 (img_ne hI5 hm5).1 (img_ne hI5 hm5).2) ((hS.ext he5).mod hm6 (by omega)) hM6 (by omega) hSn hSc
    ⟨⟨by simp only; omega, by simp only; omega, by simp only; omega, by simp only; omega⟩, .inl fun _ h => h, fun q hq => (hmem' q).2 hq, fun _ h => h.elim, fun t _ x hx hx' => hx.not ((hmem' x).1 hx')⟩ fun cd d M' w7 hm7 _ hvis => ?_
  refine ext20_i (ext21_i ?_)
  exact hK cd d w7 (hE6.own hm7 (by omega)) hvis.code

/-- Code and depth of a list of rows. -/
def TreeAns (rows : List ByteArray) (cd : ByteArray) (d : Int) : Prop := ∃ W, GoodW rows W ∧ TreeIs W rows.length (pxOf rows W) cd d
theorem TreeAns.same {rows : List ByteArray} {cd cd' : ByteArray} {d d' : Int} (h : TreeAns rows cd d) (k : TreeAns rows cd' d') : cd = cd' ∧ d = d' := by
  obtain ⟨W, h1, h2⟩ := h
  obtain ⟨V, k1, k2⟩ := k
  obtain rfl := h1.same k1
  exact CodeOf.unique h2 (fun _ _ _ k => k) (conn_refl ⟨by simp only; omega, by simp only; omega, by simp only; omega, by simp only; omega⟩) k2
theorem TreeAns.good {rows : List ByteArray} {cd : ByteArray} {d : Int} (h : TreeAns rows cd d) : Good rows := by obtain ⟨W, h1, _⟩ := h; exact h1.good
theorem no_good {rows : List ByteArray} (h : ¬ Good rows) (cd : ByteArray) (d : Int) : ¬ TreeAns rows cd d := fun k => h k.good

theorem specTree_c {w : World} {p b : Nat} {rows : List ByteArray} {K : Value → World → Prop} (h : APic w p b rows) (hg : Good rows) (hK : ∀ cd d w', Ext w w' → TreeAns rows cd d → K (.tuple #[.string cd, i64 d]) w') : callS Pg n_l05Tree #[ptr p 0] w K := by
  obtain ⟨W, hW⟩ := hg.w
  exact l05Tree_c (h.spic hW.isPic) hW.h4 hW.h2 fun cd d w' he ht => hK cd d w' he ⟨W, hW, ht⟩

theorem spec_TreeCode_c {w : World} {v : Value} {b : Nat} {rows : List ByteArray} {K : Value → World → Prop} (h : AVal w v b rows)
    (hK1 : ∀ cd d w', Ext w w' → TreeAns rows cd d → K (.tuple #[.string cd, .bool true]) w') (hK0 : ∀ w', Ext w w' → ¬ Good rows → K (.tuple #[.string (ByteArray.mk #[]), .bool false]) w') : callS Pg n_spec_TreeCode #[v] w K := by
  refine call_spec_TreeCode _ _ _ ?_
  unfold S_spec_TreeCode
  refine boxA_i rfl h fun p w1 he1 _ hA => ?_
  refine l01Is_c hA fun g w2 he2 hg => ?_
  refine not_i ?_
  rw [ifB_eq]
  cases g
  · rw [if_pos (by simp)]
    exact hK0 w2 (he1.trans he2) fun k => by have := hg.2 k; cases this
  · rw [if_neg (by simp)]
    refine specTree_c (hA.ext he2) (hg.1 rfl) fun cd d w3 he3 ht => ?_
    refine ext20_i (ext21_i ?_)
    exact hK1 cd d w3 ((he1.trans he2).trans he3) ht
theorem spec_DepthOf_c {w : World} {v : Value} {b : Nat} {rows : List ByteArray} {K : Value → World → Prop} (h : AVal w v b rows)
    (hK1 : ∀ cd d w', Ext w w' → TreeAns rows cd d → K (.tuple #[i64 d, .bool true]) w') (hK0 : ∀ w', Ext w w' → ¬ Good rows → K (.tuple #[i64 0, .bool false]) w') : callS Pg n_spec_DepthOf #[v] w K := by
  refine call_spec_DepthOf _ _ _ ?_
  unfold S_spec_DepthOf
  refine boxA_i rfl h fun p w1 he1 _ hA => ?_
  refine l01Is_c hA fun g w2 he2 hg => ?_
  refine not_i ?_
  rw [ifB_eq]
  cases g
  · rw [if_pos (by simp)]
    exact hK0 w2 (he1.trans he2) fun k => by have := hg.2 k; cases this
  · rw [if_neg (by simp)]
    refine specTree_c (hA.ext he2) (hg.1 rfl) fun cd d w3 he3 ht => ?_
    refine ext20_i (ext21_i ?_)
    exact hK1 cd d w3 ((he1.trans he2).trans he3) ht
theorem impl_TreeCode_c {w : World} {v : Value} {b : Nat} {rows : List ByteArray} {K : Value → World → Prop} (h : AVal w v b rows)
    (hK1 : ∀ cd d w', Ext w w' → TreeAns rows cd d → K (.tuple #[.string cd, .bool true]) w') (hK0 : ∀ w', Ext w w' → ¬ Good rows → K (.tuple #[.string (ByteArray.mk #[]), .bool false]) w') : callS Pg n_impl_TreeCode #[v] w K := by
  refine call_impl_TreeCode _ _ _ ?_
  unfold S_impl_TreeCode
  refine boxA_i rfl h fun p w1 he1 _ hA => ?_
  refine ldA_i rfl hA fun v' hv' => ?_
  refine imageOf_c hv' (fun m c W w2 hW he2 hm hc hI => ?_) (fun w2 he2 hg => ?_)
  · refine ext20_i (ext21_i ?_)
    refine not_i ?_
    rw [ifB_eq, if_neg (by simp)]
    refine image_tree_c hI hW.h4 hW.h2 fun cd d w3 he3 ht => ?_
    refine ext20_i (ext21_i ?_)
    exact hK1 cd d w3 ((he1.trans he2).trans he3) ⟨W, hW, ht⟩
  · refine ext20_i (ext21_i ?_)
    refine not_i ?_
    rw [ifB_eq, if_pos (by simp)]
    exact hK0 w2 (he1.trans he2) hg
theorem impl_DepthOf_c {w : World} {v : Value} {b : Nat} {rows : List ByteArray} {K : Value → World → Prop} (h : AVal w v b rows)
    (hK1 : ∀ cd d w', Ext w w' → TreeAns rows cd d → K (.tuple #[i64 d, .bool true]) w') (hK0 : ∀ w', Ext w w' → ¬ Good rows → K (.tuple #[i64 0, .bool false]) w') : callS Pg n_impl_DepthOf #[v] w K := by
  refine call_impl_DepthOf _ _ _ ?_
  unfold S_impl_DepthOf
  refine boxA_i rfl h fun p w1 he1 _ hA => ?_
  refine ldA_i rfl hA fun v' hv' => ?_
  refine imageOf_c hv' (fun m c W w2 hW he2 hm hc hI => ?_) (fun w2 he2 hg => ?_)
  · refine ext20_i (ext21_i ?_)
    refine not_i ?_
    rw [ifB_eq, if_neg (by simp)]
    refine image_tree_c hI hW.h4 hW.h2 fun cd d w3 he3 ht => ?_
    refine ext20_i (ext21_i ?_)
    exact hK1 cd d w3 ((he1.trans he2).trans he3) ⟨W, hW, ht⟩
  · refine ext20_i (ext21_i ?_)
    refine not_i ?_
    rw [ifB_eq, if_pos (by simp)]
    exact hK0 w2 (he1.trans he2) hg

/-- Two lists of rows have the same tree. -/
def SameT (r1 r2 : List ByteArray) : Prop := ∃ cd d d', TreeAns r1 cd d ∧ TreeAns r2 cd d'
theorem spec_Same_c {w : World} {v1 v2 : Value} {b1 b2 : Nat} {r1 r2 : List ByteArray} {K : Value → World → Prop} (h1 : AVal w v1 b1 r1) (h2 : AVal w v2 b2 r2)
    (hK : ∀ g w', Ext w w' → (g = true ↔ SameT r1 r2) → K (.bool g) w') : callS Pg n_spec_SameTopology #[v1, v2] w K := by
  refine call_spec_SameTopology _ _ _ _ ?_
  unfold S_spec_SameTopology
  refine boxA_i rfl h1 fun p w1 he1 _ hA => ?_
  refine boxA_i rfl (h2.ext he1) fun q w2 he2 _ hB => ?_
  have hA2 := hA.ext he2
  have hE2 := he1.trans he2
  refine l01Is_c hA2 fun g w3 he3 hg => ?_
  refine not_i ?_
  rw [joinS_eq]
  cases g
  · refine ifG_f (fun h => ?_) (fun h => ?_)
    · cases h
    · intro g
      rw [Bool.not_false, pickS_eq, cond_true, ifB_eq, if_pos rfl]
      exact hK false w3 (hE2.trans he3) ⟨fun h => by (cases h), fun ⟨_, _, _, k, _⟩ => by have := hg.2 k.good; cases this⟩
  · refine ifG_f (fun h => ?_) (fun h => ?_)
    · refine l01Is_c (hB.ext he3) fun g' w4 he4 hg' => ?_
      refine not_i ?_
      intro gg
      rw [Bool.not_true, pickS_eq, nth0, cond_false, ifB_eq]
      have hE4 := (hE2.trans he3).trans he4
      cases g'
      · rw [Bool.not_false, if_pos rfl]
        exact hK false w4 hE4 ⟨fun h => by (cases h), fun ⟨_, _, _, _, k⟩ => by have := hg'.2 k.good; cases this⟩
      · rw [if_neg (by simp)]
        refine specTree_c ((hA2.ext he3).ext he4) (hg.1 rfl) fun cd d w5 he5 ht => ?_
        refine ext20_i (ext21_i ?_)
        refine specTree_c (((hB.ext he3).ext he4).ext he5) (hg'.1 rfl) fun cd' d' w6 he6 ht' => ?_
        refine ext20_i (ext21_i ?_)
        refine eqStr_i ?_
        refine hK _ w6 ((hE4.trans he5).trans he6) ⟨fun h => ?_, fun ⟨x, y, z, k1, k2⟩ => ?_⟩
        · have : cd = cd' := of_decide_eq_true h
          subst this
          exact ⟨cd, d, d', ht, ht'⟩
        · refine decide_eq_true ?_
          show cd = cd'
          rw [(ht.same k1).1, (ht'.same k2).1]
    · cases h
theorem impl_Same_c {w : World} {v1 v2 : Value} {b1 b2 : Nat} {r1 r2 : List ByteArray} {K : Value → World → Prop} (h1 : AVal w v1 b1 r1) (h2 : AVal w v2 b2 r2)
    (hK : ∀ g w', Ext w w' → (g = true ↔ SameT r1 r2) → K (.bool g) w') : callS Pg n_impl_SameTopology #[v1, v2] w K := by
  refine call_impl_SameTopology _ _ _ _ ?_
  unfold S_impl_SameTopology
  refine boxA_i rfl h1 fun p w1 he1 _ hA => ?_
  refine boxA_i rfl (h2.ext he1) fun q w2 he2 _ hB => ?_
  have hE2 := he1.trans he2
  refine ldA_i rfl (hA.ext he2) fun u1 hu1 => ?_
  refine impl_TreeCode_c hu1 (fun cd d w3 he3 ht => ?_) (fun w3 he3 hn => ?_)
  · refine ext20_i (ext21_i ?_)
    refine ldA_i rfl (hB.ext he3) fun u2 hu2 => ?_
    refine impl_TreeCode_c hu2 (fun cd' d' w4 he4 ht' => ?_) (fun w4 he4 hn' => ?_)
    · refine ext20_i (ext21_i ?_)
      rw [joinS_eq, ifG_eq_t]
      show if true = true then _ else _
      rw [if_pos rfl]
      intro g
      show pickS (.bool true) _ _ _
      rw [pickS_eq, nth0, cond_true, joinS_eq]
      show ifG (.bool true) true _ _
      rw [ifG_eq_t, if_pos rfl]
      refine eqStr_i ?_
      intro g'
      rw [pickS_eq, nth0, cond_true]
      refine hK _ w4 ((hE2.trans he3).trans he4) ⟨fun h => ?_, fun ⟨x, y, z, k1, k2⟩ => ?_⟩
      · have : cd = cd' := of_decide_eq_true h
        subst this
        exact ⟨cd, d, d', ht, ht'⟩
      · refine decide_eq_true ?_
        show cd = cd'
        rw [(ht.same k1).1, (ht'.same k2).1]
    · refine ext20_i (ext21_i ?_)
      rw [joinS_eq, ifG_eq_t]
      show if true = true then _ else _
      rw [if_pos rfl]
      intro g
      show pickS (.bool true) _ _ _
      rw [pickS_eq, nth0, cond_true, joinS_eq]
      show ifG (.bool false) true _ _
      rw [ifG_eq_t, if_neg (by simp)]
      intro g'
      show pickS (.bool false) _ _ _
      rw [pickS_eq, cond_false]
      exact hK _ w4 ((hE2.trans he3).trans he4) ⟨fun h => by (cases h), fun ⟨_, _, _, _, k⟩ => absurd k.good hn'⟩
  · refine ext20_i (ext21_i ?_)
    refine ldA_i rfl (hB.ext he3) fun u2 hu2 => ?_
    have fin : ∀ {w4}, Ext w3 w4 → K (.bool false) w4 := fun {w4} he4 => hK _ w4 ((hE2.trans he3).trans he4) ⟨fun h => by (cases h), fun ⟨_, _, _, k, _⟩ => absurd k.good hn⟩
    refine impl_TreeCode_c hu2 (fun cd' d' w4 he4 ht' => ?_) (fun w4 he4 hn' => ?_)
    all_goals
      refine ext20_i (ext21_i ?_)
      rw [joinS_eq, ifG_eq_t]
      show if false = true then _ else _
      rw [if_neg (by simp)]
      intro g
      show pickS (.bool false) _ _ _
      rw [pickS_eq, cond_false, joinS_eq]
      show ifG (.bool false) true _ _
      rw [ifG_eq_t, if_neg (by simp)]
      intro g'
      show pickS (.bool false) _ _ _
      rw [pickS_eq, cond_false]
      exact fin he4
end Go.Proofs.Ytnpkcdegckfjeaa
