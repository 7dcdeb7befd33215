/- Contract of below, continued. -/
import Derived.Test.YtnpkcdegckfjeaaCImpl2
namespace Go.Proofs.Ytnpkcdegckfjeaa
open Go Go.SL Go.RowKit
set_option maxRecDepth 100000

theorem below_c {W H b c : Nat} {px : List Bool} (hWH : W * H < 100000) : ∀ (n : Nat) {w : World} {S M : List (Int × Int)} {s : Int × Int} {P : Int × Int → Prop} {k : Bool} {r1 r2 : Nat} {K : Value → World → Prop}, W * H ≤ n + cnt W H (· ∈ M) → k = colOf W H px s →
    Img w b c W H px → MapAt w pairV r1 (setM S) → MapAt w pairV r2 (setM M) → r1 ≠ r2 → S.Nodup → (∀ q, q ∈ S ↔ Conn W H (colOf W H px) s q) → Begun W H (colOf W H px) P s (· ∈ M) →
    (∀ cd d M' w', Mod (· = r2) w w' → MapAt w' pairV r2 (setM M') → Visit W H (colOf W H px) P s (· ∈ M) (· ∈ M') cd d → K (.tuple #[.string cd, i64 d]) w') →
    callS Pg n_image_below #[ptr b 0, .map (some r1), .bool k, .map (some r2)] w K := by
  intro n
  induction n using Nat.strongRecOn with
  | _ n ihn =>
  intro w S M s P k r1 r2 K hn hk hI hS hM hr12 hSn hSc hB hK
  refine call_image_below _ _ _ _ _ _ ?_
  unfold S_image_below
  have hW1000 := hI.wb
  have hH1000 := hI.hb
  refine box_i fun fb w1 h1 => ?_
  refine box_i fun kb w2 h2 => ?_
  refine sl1_nil (E := ty_string) (by kernel_rfl) fun cv0 cb0 w3 he3 hcb3 hcv3 => ?_
  have hE3 : Ext w w3 := h1.ext.trans (h2.ext.trans he3)
  refine range_i (T := ty_impl_Spot) (z := .bool false) (by kernel_rfl) pairV_inj (hS.ext hE3) fun it w4 he4 hit hIt => ?_
  have hE4 : Ext w w4 := hE3.trans he4
  have z1 := h1.ext.size; have z2 := h2.ext.size; have z3 := he3.size
  have o1 := h1.old; have o2 := h2.old
  have l1 := lt_of_at h1.at_; have l2 := lt_of_at h2.at_
  have hfb4 : w4.heap[fb]? = some (row #[ptr b 0] ty_Pimpl_image) := he4.at_ (he3.at_ (h2.ext.at_ h1.at_))
  have hkb4 : w4.heap[kb]? = some (row #[.bool k] ty_bool) := he4.at_ (he3.at_ h2.at_)
  have hr2l := hM.lt
  have hr1l := hS.lt
  have himg : ∀ {w'}, Mod (· = r2) w w' → Img w' b c W H px := fun hm => hI.mod hm (img_ne hI hM).1 (img_ne hI hM).2
  let ok : List (Int × Int) → Int × Int → Prop := fun ts x => Child W H (colOf W H px) P s x → ∃ u ∈ ts, Conn W H (colOf W H px) u x
  have hmono : ∀ {ts q x}, ok ts x → ok (ts ++ [q]) x := fun {ts q x} h hx => by obtain ⟨u, hu, hc⟩ := h hx; exact ⟨u, List.mem_append_left _ hu, hc⟩
  have hcl3 := hcv3.lt
  refine loopS_n S.length (fun n s' w' => ∃ (cv : Value) (cb : Nat) (done M' ts : List (Int × Int)) (f : Int × Int → ByteArray × Int), s' = [cv, i64 (depB (ts.map fun t => (f t).2))] ∧ n + done.length = S.length ∧ Mod (· = r2) w w' ∧ w.heap.size ≤ cb ∧ cb ≠ fb ∧ cb ≠ kb ∧ cb ≠ it ∧
      w'.heap[fb]? = some (row #[ptr b 0] ty_Pimpl_image) ∧ w'.heap[kb]? = some (row #[.bool k] ty_bool) ∧ IterAt w' pairV it r1 (setM S) done ∧ MapAt w' pairV r2 (setM M') ∧ Sl1 w' ty_string cv ((ts.map fun t => (f t).1).map Value.string) cb ∧
      Dfs W H (colOf W H px) P s (· ∈ M) (· ∈ M') ts f ∧ done.Nodup ∧ (∀ x ∈ done, x ∈ S) ∧ ∀ a ∈ done, ∀ q ∈ nbrs false a, ok ts q)
    ⟨cv0, cb0, [], M, [], fun _ => (ByteArray.empty, 0), rfl, by simp, hE4.mod, by omega, by omega, by omega, by omega, hfb4, hkb4, hIt, hM.ext hE4, hcv3.ext he4, Dfs.start hB _, List.nodup_nil, by simp, by simp⟩ ?_
  clear hcv3 hcb3 hcl3 hIt he4 he3 hfb4 hkb4 hE4
  rintro n1 g s' w5 ⟨cv, cb, done, M', ts, f, rfl, hn1, hm5, hcbo, hcf, hck, hci, hfb, hkb, hIt, hM5, hcv, hD, hnd, hsub, hok⟩ N hN
  rw [nth1, nth0]
  have hitr2 : it ≠ r2 := by have := hE3.size; omega
  refine next_i hIt (fun hall w6 hs6 => ?_) (fun a v hav hnew w6 hm6 hI6 => ?_)
  · -- all spots are done: sort and join
    refine ext_i rfl ?_
    have hmem := all_setM hall
    have hch : ∀ t, Child W H (colOf W H px) P s t → ∃ u ∈ ts, Conn W H (colOf W H px) u t := fun t ht => by
      obtain ⟨a, ha, hn⟩ := ht.beside
      exact hok a (hmem a ((hSc a).2 ha)) t hn ht
    have hvis := hD.visit hch
    have hsz := hvis.siz
    have hcl := cnt_le (W := W) (H := H) (· ∈ M')
    have hnl := hD.nlen
    have hsum := encB_size (ts.map fun t => (f t).1)
    have hlen : (ts.map fun t => (f t).1).length ≤ 1000000 := by rw [List.length_map]; omega
    refine sort_c (hcv.ext hs6.ext) hlen fun w7 hm7 hcv7 => ?_
    refine strJoin_c hcv7 (by rw [(sortB_perm _).length_eq]; exact hlen) (by rw [((sortB_perm _).map _).sum_nat]; omega) fun w8 he8 => ?_
    have hcs : (catB (sortB (ts.map fun t => (f t).1))).size ≤ 100000000 := by rw [catB_size, ((sortB_perm _).map _).sum_nat]; omega
    refine catStr_i (by show 1 + _ ≤ _; omega) ?_
    refine catStr_i (by rw [ByteArray.size_append]; show 1 + _ + 1 ≤ _; omega) ?_
    rw [enc_join]
    have z5 := hm5.size
    have hcr2 := sl1_ne hcv hM5
    have hm56 : Mod (· = r2) w w6 := hm5.trans hs6.mod
    refine hK _ _ M' w8 ((hm56.comp hm7 (fun _ _ h => h) (fun i hi e => by omega)).trans he8.mod) (((hM5.ext hs6.ext).mod hm7 (fun e => hcr2 e.symm)).ext he8) hvis
  · refine ext_i rfl ?_
    obtain ⟨haS, rfl⟩ := mem_setM hav
    refine entry_i hI6 fun v hv => ?_
    refine ext_i rfl ?_
    refine varS_i (p := a) rfl fun sb w7 h7 => ?_
    have hac := (hSc a).1 haS
    have hain := (conn_ok hac).1
    have ha1 := hain.1; have ha2 := hain.2.1; have ha3 := hain.2.2.1; have ha4 := hain.2.2.2
    refine fldi_i (by kernel_rfl) (ld_i (by kernel_rfl) h7.at_ rfl ?_)
    refine fldi_i (by kernel_rfl) (ld_i (by kernel_rfl) h7.at_ rfl ?_)
    refine around_c ⟨by omega, by omega⟩ ⟨by omega, by omega⟩ fun nv nb w8 he8 hnb hnv => ?_
    refine spots_len_i rfl hnv ?_
    have z5 := hm5.size
    have zz6 := hm6.size
    have he68 : Ext w6 w8 := h7.ext.trans he8
    have z68 := he68.size
    have z7 := h7.ext.size
    have hm8 : Mod (· = r2) w w8 := (hm5.comp hm6 (fun _ _ h => h) (fun i hi e => by have := hE3.size; omega)).trans he68.mod
    have hfl := lt_of_at hfb; have hkl := lt_of_at hkb
    have hfi : fb ≠ it := by have := he68; omega
    have hki : kb ≠ it := by omega
    have hlen : (done ++ [a]).length ≤ S.length := nodup_le (by rw [List.nodup_append]; exact ⟨hnd, by simp, fun x hx y hy => by rw [List.mem_singleton] at hy; subst hy; exact fun e => hnew (e ▸ hx)⟩) (fun x hx => by
      rcases List.mem_append.1 hx with hx | hx
      · exact hsub x hx
      · rw [List.mem_singleton] at hx; subst hx; exact haS)
    rw [List.length_append, List.length_singleton] at hlen
    have hnbl : (nbrs false (a.1, a.2)).length ≤ 8 := nbrs_le false a
    have hnvl := hnv.lt
    have hcvl := hcv.lt
    refine loopS_i (fun s' w' => ∃ (cv : Value) (cb i : Nat) (M' ts : List (Int × Int)) (f : Int × Int → ByteArray × Int), s' = [cv, i64 (depB (ts.map fun t => (f t).2)), i64 i] ∧ i ≤ (nbrs false (a.1, a.2)).length ∧ Mod (· = r2) w w' ∧ w.heap.size ≤ cb ∧ cb ≠ fb ∧ cb ≠ kb ∧ cb ≠ it ∧ cb ≠ nb ∧
        w'.heap[fb]? = some (row #[ptr b 0] ty_Pimpl_image) ∧ w'.heap[kb]? = some (row #[.bool k] ty_bool) ∧ IterAt w' pairV it r1 (setM S) (done ++ [a]) ∧ MapAt w' pairV r2 (setM M') ∧ Sl1 w' ty_string cv ((ts.map fun t => (f t).1).map Value.string) cb ∧ OwnSpots w' nv (nbrs false (a.1, a.2)) nb ∧
        Dfs W H (colOf W H px) P s (· ∈ M) (· ∈ M') ts f ∧ (∀ a ∈ done, ∀ q ∈ nbrs false a, ok ts q) ∧ ∀ q ∈ (nbrs false (a.1, a.2)).take i, ok ts q) (fun s' _ => (nbrs false (a.1, a.2)).length - (intOf (nth s' 2)).toNat)
      ⟨cv, cb, 0, M', ts, f, rfl, by omega, hm8, hcbo, hcf, hck, hci, by omega, he68.at_ (hm6.at_ hfb hfi), he68.at_ (hm6.at_ hkb hki), hI6.mod he68 id id, (hM5.mod hm6 (fun e => hitr2 e.symm)).ext he68, (hcv.mod hm6 hci).ext he68, hnv, hD, hok, by simp⟩ ?_
    clear hcv hM5 hIt hfb hkb hD hok hm5 hcbo hcf hck hci hm8 hnv hfl hkl hI6 hm6 hcvl
    clear cv cb M' ts f
    rintro g2 s2 w9 ⟨cv, cb, i, M', ts, f, rfl, hi, hm9, hcbo, hcf, hck, hci, hcn, hfb, hkb, hIt, hM9, hcv, hnv, hD, hok, hoki⟩
    rw [nth2, nth1, nth0]
    refine lss_i (ifB_i (fun hlt => ?_) (fun hlt => ?_))
    · have hil : i < (nbrs false (a.1, a.2)).length := by omega
      have hgi : (nbrs false (a.1, a.2))[((i : Nat) : Int).toNat]? = some (nbrs false (a.1, a.2))[i] := by simp [hil]
      have htk : (nbrs false (a.1, a.2)).take (i + 1) = (nbrs false (a.1, a.2)).take i ++ [(nbrs false (a.1, a.2))[i]] := List.take_succ_eq_append_getElem hil
      have hadj : (nbrs false (a.1, a.2))[i] ∈ nbrs false a := List.getElem_mem hil
      generalize (nbrs false (a.1, a.2))[i] = q at hgi htk hadj
      have hqb : -2000 ≤ q.1 ∧ q.1 ≤ 2000 ∧ -2000 ≤ q.2 ∧ q.2 ≤ 2000 := by have := (mem_nbrs.1 hadj).1; omega
      refine joinS_k fun J hJ => ?_
      have fin : ∀ cv' cb' M'' ts' f' w', Mod (· = r2) w w' → w.heap.size ≤ cb' → cb' ≠ fb → cb' ≠ kb → cb' ≠ it → cb' ≠ nb → w'.heap[fb]? = some (row #[ptr b 0] ty_Pimpl_image) → w'.heap[kb]? = some (row #[.bool k] ty_bool) → IterAt w' pairV it r1 (setM S) (done ++ [a]) → MapAt w' pairV r2 (setM M'') →
          Sl1 w' ty_string cv' ((ts'.map fun t => (f' t).1).map Value.string) cb' → OwnSpots w' nv (nbrs false (a.1, a.2)) nb → Dfs W H (colOf W H px) P s (· ∈ M) (· ∈ M'') ts' f' → (∀ x, ok ts x → ok ts' x) → ok ts' q → J [cv', i64 (depB (ts'.map fun t => (f' t).2))] w' := by
        intro cv' cb' M'' ts' f' w' a1 a2 a3 a4 a5 a6 a7 a8 a9 a10 a11 a12 a13 a14 a15
        refine hJ _ _ fun _ => ?_
        refine add_i (.of (by omega) (by omega)) ?_
        rw [nth0, nth1]
        refine ⟨⟨cv', cb', i + 1, M'', ts', f', rfl, by omega, a1, a2, a3, a4, a5, a6, a7, a8, a9, a10, a11, a12, a13, fun x hx y hy => a14 _ (hok x hx y hy), fun y hy => ?_⟩, ?_⟩
        · rw [htk] at hy
          rcases List.mem_append.1 hy with hy | hy
          · exact a14 _ (hoki y hy)
          · rw [List.mem_singleton] at hy; subst hy; exact a15
        · simp only [nth2, intOf]; omega
      clear hJ
      refine spotV_i ⟨rfl, rfl⟩ hnv (by omega) hgi ?_
      refine varS_i (p := q) rfl fun vb w10 h10 => ?_
      have hd := (Same.drew w10).ext
      have he11 : Ext w9 w10.drew := h10.ext.trans hd
      have hvb : w10.drew.heap[vb]? = some (row #[i64 q.1, i64 q.2] ty_impl_Spot) := h10.at_
      have hkb11 := he11.at_ hkb
      refine drawF_i (fun w' => w'.heap[kb]? = some (row #[.bool k] ty_bool)) hkb11 ?_
      generalize w10.drew = w11 at he11 hvb hkb11 ⊢
      have hm11 : Mod (· = r2) w w11 := hm9.trans he11.mod
      have hfb11 := he11.at_ hfb; have hIt11 := hIt.mod he11 id id; have hM11 := hM9.ext he11; have hcv11 := hcv.ext he11; have hnv11 := hnv.ext he11
      refine ldS_i rfl hvb ?_
      refine look_i (T := ty_impl_Spot) (z := .bool false) (by kernel_rfl) spotKey hM11 q ?_
      rw [look_setM, joinS_eq]
      have skip : ∀ w', Ext w11 w' → ok ts q → J [cv, i64 (depB (ts.map fun t => (f t).2))] w' := fun w' he ho =>
        fin cv cb M' ts f w' (hm11.trans he.mod) hcbo hcf hck hci hcn (he.at_ hfb11) (he.at_ hkb11) (hIt11.mod he id id) (hM11.ext he) (hcv11.ext he) (hnv11.ext he) hD (fun _ h => h) ho
      refine ifG_f (fun hseen => ?_) (fun hseen => ?_)
      · have hnin : q ∉ M' := of_decide_eq_false hseen
        refine ld_i (by kernel_rfl) hfb11 rfl ?_
        refine fldi_i (by kernel_rfl) (ld_i (by kernel_rfl) hvb rfl ?_)
        refine fldi_i (by kernel_rfl) (ld_i (by kernel_rfl) hvb rfl ?_)
        refine has_c (himg hm11) ?_
        refine ⟨hkb11, ?_⟩
        refine not_i ?_
        intro g
        rw [hseen, pickS_eq, nth0, cond_false, joinS_eq]
        refine ifG_f (fun hhas => ?_) (fun hhas => ?_)
        · have hinq : inG W H q := by
            have h : 0 ≤ q.1 ∧ q.1 < (W : Int) ∧ 0 ≤ q.2 ∧ q.2 < (H : Int) := by simpa using hhas
            exact h
          refine ld_i (by kernel_rfl) hfb11 rfl ?_
          refine fldi_i (by kernel_rfl) (ld_i (by kernel_rfl) hvb rfl ?_)
          refine fldi_i (by kernel_rfl) (ld_i (by kernel_rfl) hvb rfl ?_)
          refine rdF_i (fun w' hS => ld_run (by kernel_rfl) hS rfl) ?_
          refine get_c (himg hm11) fun w12 hs12 => ?_
          refine ⟨hs12.ext.at_ hkb11, ?_⟩
          refine eqBool_i (by kernel_rfl) ?_
          intro g
          rw [hhas, pickS_eq, nth0, cond_false, ifB_eq]
          split
          · rename_i hcol
            refine skip w12 hs12.ext fun hc => ?_
            exfalso
            have hcq : colOf W H px q = k := by
              have h : pixel W H px q.1 q.2 = k := by simpa using hcol
              exact h
            exact hc.other (conn_trans hac (conn_one hain hinq (by rw [hcq, hk, (conn_ok hac).2]) (nbrs_mono hadj)))
          · rename_i hcol
            obtain ⟨hc, hnew', hbeg⟩ := hD.found hac hinq hadj hnin
            have hcq : (!k) = colOf W H px q := by
              have : ¬ colOf W H px q = k := by
                have h : ¬ pixel W H px q.1 q.2 = k := by simpa using hcol
                exact h
              revert this
              cases k <;> cases colOf W H px q <;> simp
            have he12 := hs12.ext
            refine ldS_i rfl (he12.at_ hvb) ?_
            refine spots_one_i rfl fun qv qb w13 he13 hqb hqv => ?_
            have he113 : Ext w11 w13 := he12.trans he13
            refine ld_i (by kernel_rfl) (he113.at_ hkb11) rfl ?_
            refine not_i ?_
            have hm13 : Mod (· = r2) w w13 := hm11.trans he113.mod
            refine spread_c (ok := okc W H (colOf W H px) (!k)) (e := !k) (start := [q]) (L := grid W H) (fun p hp => mem_grid (okc_iff.1 hp).1) (by simp [grid]; omega) (fun p hp => by have := (okc_iff.1 hp).1; unfold inG at this; omega) hqv (by simp) (fun p hp => by rw [List.mem_singleton] at hp; subst hp; exact hqb)
              (fun p w1 he1 _ K' hK' => below1_c (himg (hm13.trans he1.mod)) (he1.at_ (he113.at_ hfb11)) (he1.at_ (he113.at_ hkb11)) hK') fun r S' w14 he14 hr hS' hSn' hSr => ?_
            have he114 : Ext w11 w14 := he113.trans he14
            have hSc' : ∀ x, x ∈ S' ↔ Conn W H (colOf W H px) q x := fun x => by rw [hSr, hcq]; exact Iff.rfl
            have hrr2 : r ≠ r2 := by have := he113.size; have := hm11.size; omega
            refine mark_c hS' (hM11.ext he114) hrr2 hSn' fun M2 w15 hm15 hM15 hmem => ?_
            have hm14 : Mod (· = r2) w w14 := hm11.trans he114.mod
            have hm115 : Mod (· = r2) w w15 := hm14.trans hm15
            have hfbr : fb ≠ r2 := by omega
            have hkbr : kb ≠ r2 := by omega
            have hfb15 := hm15.at_ (he114.at_ hfb11) hfbr
            have hkb15 := hm15.at_ (he114.at_ hkb11) hkbr
            refine ld_i (by kernel_rfl) hfb15 rfl ?_
            refine ld_i (by kernel_rfl) hkb15 rfl ?_
            refine not_i ?_
            have hV : ∀ x, x ∈ M2 ↔ x ∈ M' ∨ Conn W H (colOf W H px) q x := fun x => by rw [hmem, hSc']
            have hcnt : cnt W H (· ∈ M') + 1 ≤ cnt W H (· ∈ M2) := cnt_lt (fun x hx => (hV x).2 (.inl hx)) hinq hnin ((hV q).2 (.inr (conn_refl hinq)))
            have hcnt0 : cnt W H (· ∈ M) ≤ cnt W H (· ∈ M') := cnt_mono hD.more
            have hcl2 := cnt_le (W := W) (H := H) (· ∈ M2)
            refine ihn (n - 1) (by omega) (P := Conn W H (colOf W H px) s) (s := q) (by omega) hcq (himg hm115) (hS'.mod hm15 hrr2) hM15 hrr2 hSn' hSc' (hbeg _ hV) fun cd d M3 w16 hm16 hM16 hvis => ?_
            refine ext_i rfl (ext_i rfl ?_)
            have hm116 := hm115.trans hm16
            have hvd := hvis.dep
            have hvs := hvis.siz
            have hcl3 := cnt_le (W := W) (H := H) (· ∈ M3)
            have hnl := hD.nlen
            have hcr2 : cb ≠ r2 := sl1_ne hcv hM9
            have hnr2 : nb ≠ r2 := own_ne hnv hM9
            have hcv16 := ((hcv11.ext he114).mod hm15 hcr2).mod hm16 hcr2
            have hnv16 := ((hnv11.ext he114).mod hm15 hnr2).mod hm16 hnr2
            have hIt16 := ((hIt11.mod he114 id id).mod hm15 hr12 hitr2).mod hm16 hr12 hitr2
            have hfb16 := hm16.at_ hfb15 hfbr
            have hkb16 := hm16.at_ hkb15 hkbr
            refine sl1_app (E := ty_string) (by kernel_rfl) rfl hcv16 (by rw [List.length_map, List.length_map]; omega) fun cv' w17 cb' hor hm17 hcv17 => ?_
            refine add_i (.of (by omega) (by omega)) ?_
            refine max_i ?_
            have hDn := hD.next hc hnew' hV hvis.more hvis.less hvis.code hvis.siz hvis.dep hnin
            have hneq : ∀ t ∈ ts, t ≠ q := fun t ht e => hnew' t ht (by rw [e]; exact conn_refl hinq)
            have e1 : (ts.map fun t => (f t).1).map Value.string ++ [.string cd] = ((ts ++ [q]).map fun t => (if t = q then (cd, d) else f t).1).map Value.string := by
              rw [List.map_append (l₁ := ts), List.map_singleton, if_pos rfl, List.map_append, List.map_singleton]
              congr 2
              exact (List.map_congr_left fun t ht => by rw [if_neg (hneq t ht)])
            have e2 : depB ((ts ++ [q]).map fun t => (if t = q then (cd, d) else f t).2) = max (depB (ts.map fun t => (f t).2)) (d + 1) := by
              rw [List.map_append, List.map_singleton, if_pos rfl, ← depB_snoc]
              congr 2
              exact List.map_congr_left fun t ht => by rw [if_neg (hneq t ht)]
            show J [cv', i64 (max (depB (ts.map fun t => (f t).2)) (d + 1))] w17
            rw [← e2]
            have hcv17 : Sl1 w17 ty_string cv' ((ts.map fun t => (f t).1).map Value.string ++ [.string cd]) cb' := hcv17
            rw [e1] at hcv17
            have zs16 := hm116.size
            have hfl := lt_of_at hfb16; have hkl := lt_of_at hkb16; have hnl16 := hnv16.lt; have hil16 := hIt16.lt.2
            have hcr1 : cb ≠ r1 := fun e => (sl1_ne hcv hIt.map) e
            refine fin cv' cb' M3 (ts ++ [q]) _ w17 ?_ ?_ ?_ ?_ ?_ ?_ (hm17.at_ hfb16 (fun e => hcf e.symm)) (hm17.at_ hkb16 (fun e => hck e.symm)) (hIt16.mod hm17 (fun e => hcr1 e.symm) (fun e => hci e.symm)) (hM16.mod hm17 (fun e => hcr2 e.symm)) hcv17 (hnv16.mod hm17 (fun e => hcn e.symm)) hDn (fun x h => hmono h) (fun _ => ⟨q, List.mem_append_right _ (List.mem_singleton_self _), conn_refl hinq⟩)
            · exact hm116.comp hm17 (fun _ _ h => h) (fun i hi e => by omega)
            · rcases hor with rfl | h' <;> omega
            · rcases hor with rfl | h'
              · exact hcf
              · omega
            · rcases hor with rfl | h'
              · exact hck
              · omega
            · rcases hor with rfl | h'
              · exact hci
              · omega
            · rcases hor with rfl | h'
              · exact hcn
              · omega
        · intro g
          rw [hhas, pickS_eq, cond_true, ifB_eq, if_pos rfl]
          refine skip w11 (Mod.refl _) fun hc => ?_
          exfalso
          have h := hc.ht
          have : decide (0 ≤ q.1 ∧ q.1 < (W : Int) ∧ 0 ≤ q.2 ∧ q.2 < (H : Int)) = true := decide_eq_true h
          rw [this] at hhas; cases hhas
      · intro g
        rw [hseen, pickS_eq, cond_true, joinS_eq, ifG_eq_f, if_pos rfl]
        intro g
        rw [pickS_eq, cond_true, ifB_eq, if_pos rfl]
        exact skip w11 (Mod.refl _) fun hc => hD.seen (of_decide_eq_true hseen) hc
    · have : i = (nbrs false (a.1, a.2)).length := by omega
      subst this
      rw [List.take_length] at hoki
      refine hN (n1 - 1) _ _ (by omega) ⟨cv, cb, done ++ [a], M', ts, f, rfl, by rw [List.length_append, List.length_singleton]; omega, hm9, hcbo, hcf, hck, hci, hfb, hkb, hIt, hM9, hcv, hD, ?_, ?_, ?_⟩
      · rw [List.nodup_append]; exact ⟨hnd, by simp, fun x hx y hy => by rw [List.mem_singleton] at hy; subst hy; exact fun e => hnew (e ▸ hx)⟩
      · intro x hx
        rcases List.mem_append.1 hx with hx | hx
        · exact hsub x hx
        · rw [List.mem_singleton] at hx; subst hx; exact haS
      · intro x hx y hy
        rcases List.mem_append.1 hx with hx | hx
        · exact hok x hx y hy
        · rw [List.mem_singleton] at hx; subst hx; exact hoki y hy
end Go.Proofs.Ytnpkcdegckfjeaa
