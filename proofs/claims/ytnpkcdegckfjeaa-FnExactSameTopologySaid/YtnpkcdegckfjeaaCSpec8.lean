/- Contract of the reference's node: the code of what lies at a spot. -/
import Derived.Test.YtnpkcdegckfjeaaCSpec7
namespace Go.Proofs.Ytnpkcdegckfjeaa
open Go Go.SL Go.RowKit
set_option maxRecDepth 100000

theorem sortB_snoc (l : List ByteArray) (c : ByteArray) : sortB (l ++ [c]) = insertB c (sortB l) := by unfold sortB; rw [List.foldl_append]; rfl
theorem depB_snoc (l : List Int) (d : Int) : depB (l ++ [d]) = max (depB l) (d + 1) := by unfold depB; rw [List.foldl_append]; rfl
theorem joinB_take (l : List ByteArray) (i : Nat) (h : i < l.length) : joinB (l.take (i + 1)) = joinB (l.take i) ++ l[i] := by
  unfold joinB; rw [List.take_succ_eq_append_getElem h, List.foldl_append]; rfl
theorem joinB_take_size (l : List ByteArray) (i : Nat) : (joinB (l.take i)).size ≤ 1 + (l.map ByteArray.size).sum := by
  unfold joinB
  rw [joinB_size]
  have : ∀ (l : List ByteArray) (i : Nat), ((l.take i).map ByteArray.size).sum ≤ (l.map ByteArray.size).sum := by
    intro l
    induction l with
    | nil => intro i; simp
    | cons x l ih => intro i; cases i with
      | zero => simp
      | succ i => have := ih i; rw [List.take_succ_cons, List.map_cons, List.map_cons, List.sum_cons, List.sum_cons]; omega
  have := this l i
  show 1 + _ ≤ _
  omega
/-- Joining the codes: the last loop. -/
theorem join_c {w : World} {cv : Value} {l : List ByteArray} {cb : Nat} {K : Value → World → Prop} (h : Sl1 w ty_string cv (l.map Value.string) cb) (hl : l.length ≤ 1000000) (hs : (l.map ByteArray.size).sum ≤ 100000000)
    (hK : K (.string (joinB l ++ ByteArray.mk #[41])) w) :
    loopS (fun N g s w =>
      rd Pg (Builtin.len_ #[ty_Sstring] ty_int #[cv]) w fun t134 =>
      pur Pg (binOp Go.BinOp.lss ty_int (nth s 1) t134) fun t135 =>
      ifB t135 (pur Pg (Instr.indexAt ty_Sstring cv (nth s 1)) fun t141 =>
      rd Pg (Instr.loadAt ty_string t141) w fun t142 =>
      pur Pg (binOp Go.BinOp.add ty_string (nth s 0) t142) fun t143 =>
      pur Pg (binOp Go.BinOp.add ty_int (nth s 1) (Go.Value.int Go.IntKind.i64 1)) fun t137 =>
      N [t143, t137] w)
      (pur Pg (binOp Go.BinOp.add ty_string (nth s 0) (Go.Value.string (ByteArray.mk #[41]))) fun t145 =>
      K t145 w)) [(Go.Value.string (ByteArray.mk #[40])), (Go.Value.int Go.IntKind.i64 0)] w := by
  refine loopS_i (fun s w' => ∃ i : Nat, s = [.string (joinB (l.take i)), i64 i] ∧ i ≤ l.length ∧ w' = w) (fun s _ => l.length - (intOf (nth s 1)).toNat) ⟨0, rfl, by omega, rfl⟩ ?_
  rintro g s w' ⟨i, rfl, hi, rfl⟩
  rw [nth1, nth0]
  have hsz := joinB_take_size l i
  refine sl1_len (by kernel_rfl) h ?_
  rw [List.length_map]
  refine lss_i (ifB_i (fun hlt => ?_) (fun hlt => ?_))
  · have hil : i < l.length := by omega
    refine sl1_get (x := .string l[i]) (by kernel_rfl) (by kernel_rfl) h (by omega) (by simp [hil]) ?_
    have hi1 : l[i].size ≤ (l.map ByteArray.size).sum := by
      have h1 := joinB_take_size l (i + 1)
      rw [joinB_take l i hil, ByteArray.size_append] at h1
      have h2 : 1 ≤ (joinB (l.take i)).size := by unfold joinB; rw [joinB_size]; show 1 ≤ 1 + _; omega
      omega
    refine catStr_i (by omega) ?_
    refine add_i (.of (by omega) (by omega)) ?_
    refine ⟨⟨i + 1, by rw [joinB_take l i hil]; rfl, by omega, rfl⟩, ?_⟩
    simp only [nth1, intOf]; omega
  · have : i = l.length := by omega
    subst this
    rw [List.take_length] at hsz ⊢
    refine catStr_i (by show _ + 1 ≤ _; omega) hK

/-- What a visit leaves. -/
structure Visit (W H : Nat) (col : Int × Int → Bool) (P : Int × Int → Prop) (s : Int × Int) (V0 V : Int × Int → Prop) (c : ByteArray) (d : Int) : Prop where
  code : CodeOf W H col P s c d
  more : ∀ x, V0 x → V x
  less : ∀ x, V x → V0 x ∨ ∃ t, Child W H col P s t ∧ Avoid W H col (Conn W H col s) t x
  siz : c.size + 2 * cnt W H V0 ≤ 2 + 2 * cnt W H V
  dep : 0 ≤ d ∧ d + cnt W H V0 ≤ cnt W H V
theorem Dfs.visit {W H : Nat} {col : Int × Int → Bool} {P : Int × Int → Prop} {s : Int × Int} {V0 V : Int × Int → Prop} {ts : List (Int × Int)} {f : Int × Int → ByteArray × Int} (h : Dfs W H col P s V0 V ts f) (ha : ∀ t, Child W H col P s t → ∃ u ∈ ts, Conn W H col u t) :
    Visit W H col P s V0 V (encB (ts.map fun t => (f t).1)) (depB (ts.map fun t => (f t).2)) :=
  ⟨h.done ha, h.more, h.less, h.sizes.1, h.sizes.2⟩

def marks (W H : Nat) (ms : List Bool) (q : Int × Int) : Prop := colOf W H ms q = true

theorem l05Node_c {W H p b : Nat} {px : List Bool} {sv : Value} {sb : Nat} (hWH : W * H < 100000) : ∀ (n : Nat) {w : World} {ms : List Bool} {s : Int × Int} {P : Int × Int → Prop} {cb : Bool} {K : Value → World → Prop}, W * H ≤ n + cnt W H (marks W H ms) → cb = colOf W H px s →
    SPic w p b W H px → Sl1 w ty_bool sv (ms.map Value.bool) sb → ms.length = W * H → inG W H s → From W H (colOf W H px) P s → (∀ q, P q → marks W H ms q) → (∀ x, Avoid W H (colOf W H px) P s x → ¬ marks W H ms x) →
    (∀ c d ms' w' (V0 : Int × Int → Prop), Mod (· = sb) w w' → Sl1 w' ty_bool sv (ms'.map Value.bool) sb → ms'.length = W * H → (∀ x, V0 x ↔ marks W H ms x ∨ Conn W H (colOf W H px) s x) → Visit W H (colOf W H px) P s V0 (marks W H ms') c d → K (.tuple #[.string c, i64 d]) w') →
    callS Pg n_l05Node #[ptr p 0, pairV s, .bool cb, sv] w K
  | 0, w, ms, s, P, cb, K, hn, hcb, hp, hsv, hms, hs, hfr, hback, hfree, hK => by
    exfalso
    have h0 : ¬ marks W H ms s := hfree s (.base hs hfr.not)
    have := cnt_lt (W := W) (H := H) (V := marks W H ms) (V' := fun _ => True) (fun _ _ => trivial) hs h0 trivial
    have := cnt_le (W := W) (H := H) (fun _ => True)
    omega
  | n + 1, w, ms, s, P, cb, K, hn, hcb, hp, hsv, hms, hs, hfr, hback, hfree, hK => by
    refine call_l05Node _ _ _ _ _ _ ?_
    unfold S_l05Node
    have hb := hp.bounds
    have hmb := mul_bound hb.2.1 hb.2.2.2.1
    have hpl := hb.2.2.2.2
    refine box_i fun qb w1 h1 => ?_
    refine l01Width_c (hp.ext h1.ext) ?_
    refine nilS_i ?_
    refine ldP_i rfl (hp.ext h1.ext) fun pv hpv => ?_
    refine varP_i rfl hpv fun q w2 he2 hq2 hP2 => ?_
    have hE2 : Ext w w2 := h1.ext.trans he2
    have z1 := h1.ext.size
    have hqo : w.heap.size ≤ q := by omega
    have h1o := h1.old
    have h1l := lt_of_at h1.at_
    refine joinS_k fun J hJ => ?_
    have key : ∀ w3 c3, Mod (· = q) w2 w3 → SPic w3 q c3 W H (if colOf W H px s then px else px.map not) → J [] w3 := by
      intro w3 c3 hm3 hP3
      refine hJ _ _ fun _ => ?_
      clear hJ hP2 hpv
      have hE3 : Ext w w3 := hE2.own hm3 hqo
      have h13 := hm3.at_ (he2.at_ h1.at_) (by omega)
      refine ldS_i rfl h13 ?_
      rw [hcb]
      refine l05Part_c hP3 fun S p4 c4 w4 hSn hS he4 hp4 hc4 hP4 => ?_
      have hS' : ∀ r, r ∈ S ↔ Conn W H (colOf W H px) s r := fun r => (hS r).trans (conn_reach hpl s r)
      refine l01Spots_c hP4 fun Lv Lb w5 he5 hLb hL => ?_
      have hLm := spots_conn hS'
      have hLle := spotsOf_le W (maskOf W H S) (W * H)
      generalize spotsOf W (maskOf W H S) (W * H) = L at hL hLm hLle
      have hE5 : Ext w w5 := hE3.trans (he4.trans he5)
      have hLin : ∀ x ∈ L, inG W H x := fun x hx => (conn_ok ((hLm x).1 hx)).1
      have z3 := hE3.size
      have z4 := he4.size
      have hLo : w.heap.size ≤ Lb := by omega
      have hsbl := hsv.lt
      have hmulI : ∀ {x : Int × Int}, inG W H x → 0 ≤ x.2 * (W : Int) ∧ x.2 * (W : Int) + x.1 < 1000000 ∧ (x.2 * (W : Int) + x.1).toNat = x.2.toNat * W + x.1.toNat ∧ 0 ≤ x.2 * (W : Int) + x.1 := fun {x} hin => by
        have hlt := idx_bound hin
        have e1 : ((x.2.toNat : Int)) = x.2 := Int.toNat_of_nonneg hin.2.2.1
        have e2 : x.2 * (W : Int) = ((x.2.toNat * W : Nat) : Int) := by rw [Int.natCast_mul, e1]
        have h1 := hin.1
        omega
      clear he4 he5 hP4 hP3 h13 hS hS' hSn hm3
      -- the marks
      refine loopS_i (fun s' w' => ∃ (i : Nat) (ms' : List Bool), s' = [i64 i] ∧ i ≤ L.length ∧ Mod (· = sb) w w' ∧ OwnSpots w' Lv L Lb ∧ Sl1 w' ty_bool sv (ms'.map Value.bool) sb ∧ ms'.length = W * H ∧ ∀ x, marks W H ms' x ↔ marks W H ms x ∨ x ∈ L.take i) (fun s' _ => L.length - (intOf (nth s' 0)).toNat)
        ⟨0, ms, rfl, by omega, hE5.mod, hL, hsv.ext hE5, hms, by simp⟩ ?_
      clear hL
      rintro g s' w6 ⟨i, ms6, rfl, hi, hm6, hL6, hs6, hl6, hmk6⟩
      rw [nth0]
      refine spots_len_i rfl hL6 ?_
      refine lss_i (ifB_i (fun hlt => ?_) (fun hlt => ?_))
      · have hil : i < L.length := by omega
        have hgi : L[((i : Nat) : Int).toNat]? = some L[i] := by simp [hil]
        have hin := hLin _ (List.getElem_mem hil)
        have hbd := hmulI hin
        have hx0 := hin.1
        refine drawS_i ?_
        have hd := (Same.drew w6).ext
        refine spotY_i ⟨rfl, rfl, rfl⟩ (hL6.ext hd) (by omega) hgi ?_
        refine mul_i (.of (by omega) (by omega)) ?_
        refine spotX_i ⟨rfl, rfl, rfl⟩ (hL6.ext hd) (by omega) hgi ?_
        refine add_i (.of (by omega) (by omega)) ?_
        have hblt := idx_bound hin
        refine sl1_addr (by kernel_rfl) (hs6.ext hd) hbd.2.2.2 (by rw [hbd.2.2.1, List.length_map, hl6]; exact hblt) fun a hst => ?_
        refine hst _ _ _ (by kernel_rfl) rfl fun w7 hm7 hs7 => ?_
        rw [hbd.2.2.1, show Value.bool true = (Value.bool) true from rfl, ← List.map_set] at hs7
        refine add_i (.of (by omega) (by omega)) ?_
        refine ⟨⟨i + 1, _, by simp, by omega, hm6.trans ((hd.mod).trans hm7), (hL6.ext hd).mod hm7 (by omega), hs7, by rw [List.length_set]; exact hl6, fun x => ?_⟩, ?_⟩
        · rw [List.take_succ_eq_append_getElem hil]
          unfold marks at hmk6 ⊢
          rw [marks_set hl6 hin, hmk6]
          rw [List.mem_append, List.mem_singleton, or_assoc]
        · simp only [nth0, intOf]; omega
      · have : i = L.length := by omega
        subst this
        rw [List.take_length] at hmk6
        have hV0 : ∀ x, marks W H ms6 x ↔ marks W H ms x ∨ Conn W H (colOf W H px) s x := fun x => by rw [hmk6, hLm]
        have hBeg : Begun W H (colOf W H px) P s (marks W H ms6) := by
          refine ⟨hs, hfr, fun x hx => (hV0 x).2 (.inr hx), fun x hx => (hV0 x).2 (.inl (hback x hx)), fun t ht x hx hx' => ?_⟩
          rcases (hV0 x).1 hx' with hx' | hx'
          · exact hfree x (child_avoid hs hfr ht hx) hx'
          · exact hx.not hx'
        have hcnt6 : cnt W H (marks W H ms) + 1 ≤ cnt W H (marks W H ms6) := cnt_lt (fun x hx => (hV0 x).2 (.inl hx)) hs (hfree s (.base hs hfr.not)) ((hV0 s).2 (.inr (conn_refl hs)))
        refine sl1_nil (E := ty_string) (by kernel_rfl) fun cv0 cb0 w7 he7 hcb7 hcv7 => ?_
        refine l03Steps_c fun tv tb w8 he8 htb ht8 => ?_
        have hm8 : Mod (· = sb) w w8 := hm6.trans ((he7.trans he8).mod)
        have z6 := hm6.size
        have z7 := he7.size
        have hcl := hcv7.lt
        have hLl := hL6.lt
        have hsl6 := hs6.lt
        have step4 : (steps false).length = 4 := rfl
        -- all pairs of a cell and a step
        let ok : List (Int × Int) → Int × Int → Prop := fun ts x => Child W H (colOf W H px) P s x → ∃ u ∈ ts, Conn W H (colOf W H px) u x
        have hmono : ∀ {ts q x}, ok ts x → ok (ts ++ [q]) x := fun {ts q x} h hx => by obtain ⟨u, hu, hc⟩ := h hx; exact ⟨u, List.mem_append_left _ hu, hc⟩
        refine loopS_i (fun s' w' => ∃ (cv : Value) (cb : Nat) (i : Nat) (ms' : List Bool) (ts : List (Int × Int)) (f : Int × Int → ByteArray × Int), s' = [cv, i64 (depB (ts.map fun t => (f t).2)), i64 i] ∧ i ≤ L.length ∧ Mod (· = sb) w w' ∧ w.heap.size ≤ cb ∧ cb ≠ Lb ∧ cb ≠ tb ∧ OwnSpots w' Lv L Lb ∧ OwnSpots w' tv (steps false) tb ∧
            Sl1 w' ty_string cv ((sortB (ts.map fun t => (f t).1)).map Value.string) cb ∧ Sl1 w' ty_bool sv (ms'.map Value.bool) sb ∧ ms'.length = W * H ∧ Dfs W H (colOf W H px) P s (marks W H ms6) (marks W H ms') ts f ∧
            ∀ j, (hj : j < L.length) → j < i → ∀ d ∈ steps false, ok ts (L[j].1 + d.1, L[j].2 + d.2)) (fun s' _ => L.length - (intOf (nth s' 2)).toNat)
          ⟨cv0, cb0, 0, ms6, [], fun _ => (ByteArray.empty, 0), rfl, by omega, hm8, by omega, by omega, by omega, hL6.ext (he7.trans he8), ht8, hcv7.ext he8, hs6.ext (he7.trans he8), hl6, Dfs.start hBeg _, by intro j _ h; omega⟩ ?_
        clear hL6 hs6 hcv7 ht8 he7 he8 hm8 hcl hLl hcb7 hi hlt
        rintro g s' w9 ⟨cv, cb, i, ms9, ts, f, rfl, hi, hm9, hcbo, hcL, hct, hL9, ht9, hcv9, hs9, hl9, hD, hok⟩
        rw [nth2, nth1, nth0]
        refine spots_len_i rfl hL9 ?_
        refine lss_i (ifB_i (fun hlt => ?_) (fun hlt => ?_))
        · have hil : i < L.length := by omega
          have hgi : L[((i : Nat) : Int).toNat]? = some L[i] := by simp [hil]
          have hin := hLin _ (List.getElem_mem hil)
          have hconn := (hLm _).1 (List.getElem_mem hil)
          refine loopS_i (fun s' w' => ∃ (cv : Value) (cb : Nat) (k : Nat) (ms' : List Bool) (ts : List (Int × Int)) (f : Int × Int → ByteArray × Int), s' = [cv, i64 (depB (ts.map fun t => (f t).2)), i64 k] ∧ k ≤ 4 ∧ Mod (· = sb) w w' ∧ w.heap.size ≤ cb ∧ cb ≠ Lb ∧ cb ≠ tb ∧ OwnSpots w' Lv L Lb ∧ OwnSpots w' tv (steps false) tb ∧
              Sl1 w' ty_string cv ((sortB (ts.map fun t => (f t).1)).map Value.string) cb ∧ Sl1 w' ty_bool sv (ms'.map Value.bool) sb ∧ ms'.length = W * H ∧ Dfs W H (colOf W H px) P s (marks W H ms6) (marks W H ms') ts f ∧
              (∀ j, (hj : j < L.length) → j < i → ∀ d ∈ steps false, ok ts (L[j].1 + d.1, L[j].2 + d.2)) ∧ ∀ d ∈ (steps false).take k, ok ts (L[i].1 + d.1, L[i].2 + d.2)) (fun s' _ => 4 - (intOf (nth s' 2)).toNat)
            ⟨cv, cb, 0, ms9, ts, f, rfl, by omega, hm9, hcbo, hcL, hct, hL9, ht9, hcv9, hs9, hl9, hD, hok, by simp⟩ ?_
          clear hL9 ht9 hcv9 hs9 hl9 hD hok hm9 hcbo hcL hct
          clear ms9 ts f cv cb
          rintro g2 s2 w10 ⟨cv, cb, k, ms10, ts, f, rfl, hk, hm10, hcbo, hcL, hct, hL10, ht10, hcv10, hs10, hl10, hD, hok, hokk⟩
          rw [nth2, nth1, nth0]
          refine spots_len_i rfl ht10 ?_
          rw [step4]
          refine lss_i (ifB_i (fun hlt2 => ?_) (fun hlt2 => ?_))
          · have hkl : k < (steps false).length := by rw [step4]; omega
            have hgk : (steps false)[((k : Nat) : Int).toNat]? = some (steps false)[k] := by simp [hkl]
            have hbdd := steps_bd false _ (List.getElem_mem hkl)
            have hadj := steps_mem false L[i] _ (List.getElem_mem hkl)
            have htk : (steps false).take (k + 1) = (steps false).take k ++ [(steps false)[k]] := List.take_succ_eq_append_getElem hkl
            have hx1 := hin.1; have hx2 := hin.2.1; have hx3 := hin.2.2.1; have hx4 := hin.2.2.2
            generalize hqdef : (L[i].1 + (steps false)[k].1, L[i].2 + (steps false)[k].2) = nq at hadj
            have hnq1 : L[i].1 + (steps false)[k].1 = nq.1 := by rw [← hqdef]
            have hnq2 : L[i].2 + (steps false)[k].2 = nq.2 := by rw [← hqdef]
            refine joinS_k fun J2 hJ2 => ?_
            have fin : ∀ cv' cb' ms' ts' f' w', Mod (· = sb) w w' → w.heap.size ≤ cb' → cb' ≠ Lb → cb' ≠ tb → OwnSpots w' Lv L Lb → OwnSpots w' tv (steps false) tb → Sl1 w' ty_string cv' ((sortB (ts'.map fun t => (f' t).1)).map Value.string) cb' → Sl1 w' ty_bool sv (ms'.map Value.bool) sb → ms'.length = W * H →
                Dfs W H (colOf W H px) P s (marks W H ms6) (marks W H ms') ts' f' → (∀ x, ok ts x → ok ts' x) → ok ts' nq → J2 [cv', i64 (depB (ts'.map fun t => (f' t).2))] w' := by
              intro cv' cb' ms' ts' f' w' a1 a2 a3 a4 a5 a6 a7 a8 a9 a10 a11 a12
              refine hJ2 _ _ fun _ => ?_
              refine add_i (.of (by omega) (by omega)) ?_
              rw [nth0, nth1]
              refine ⟨⟨cv', cb', k + 1, ms', ts', f', rfl, by omega, a1, a2, a3, a4, a5, a6, a7, a8, a9, a10, fun j hj hji d hd => a11 _ (hok j hj hji d hd), fun d hd => ?_⟩, ?_⟩
              · rw [htk] at hd
                rcases List.mem_append.1 hd with hd | hd
                · exact a11 _ (hokk d hd)
                · rw [List.mem_singleton] at hd; subst hd; rw [hnq1, hnq2]; exact a12
              · simp only [nth2, intOf]; omega
            clear hJ2
            have hd := (Same.drew w10).ext
            refine drawF_i (fun w' => OwnSpots w' Lv L Lb ∧ OwnSpots w' tv (steps false) tb) ⟨hL10.ext hd, ht10.ext hd⟩ ?_
            refine spotXF_i ⟨rfl, rfl, rfl⟩ (fun _ h => h.1) hL10 (by omega) hgi ?_
            refine spotXF_i ⟨rfl, rfl, rfl⟩ (fun _ h => h.2) ht10 (by omega) hgk ?_
            refine add_i (.of (by omega) (by omega)) ?_
            refine spotYF_i ⟨rfl, rfl, rfl⟩ (fun _ h => h.1) hL10 (by omega) hgi ?_
            refine spotYF_i ⟨rfl, rfl, rfl⟩ (fun _ h => h.2) ht10 (by omega) hgk ?_
            refine add_i (.of (by omega) (by omega)) ?_
            rw [hnq1, hnq2]
            refine build_i rfl rfl ?_
            refine varSF_i (p := nq) rfl (fun w' he => ⟨hL10.ext (hd.trans he), ht10.ext (hd.trans he)⟩) fun nb w12 h12 => ?_
            have he12 : Ext w10 w12 := hd.trans h12.ext
            have hn12 := h12.at_
            have hm12 : Mod (· = sb) w w12 := hm10.trans he12.mod
            have hp12 : SPic w12 p b W H px := hp.mod hm12 (by obtain ⟨z, hz⟩ := hp.cell; obtain ⟨cs, hc⟩ := hsv.cells; exact at_ne hz hc (by decide)) (by obtain ⟨z, hz⟩ := hp.rows; obtain ⟨cs, hc⟩ := hsv.cells; exact at_ne hz hc (by decide))
            have hL12 := hL10.ext he12; have ht12 := ht10.ext he12; have hcv12 := hcv10.ext he12; have hs12 := hs10.ext he12
            refine fldi_i (by kernel_rfl) (ld_i (by kernel_rfl) hn12 rfl ?_)
            refine fldi_i (by kernel_rfl) (ld_i (by kernel_rfl) hn12 rfl ?_)
            refine l01Has_c hp12 ?_
            refine not_i ?_
            rw [joinS_eq]
            refine ifG_f (fun hhas => ?_) (fun hhas => ?_)
            · have hinq : inG W H nq := by
                have h : 0 ≤ nq.1 ∧ nq.1 < (W : Int) ∧ 0 ≤ nq.2 ∧ nq.2 < (H : Int) := by simpa using hhas
                exact h
              have hbdq := hmulI hinq
              have hq0 := hinq.1
              refine fldi_i (by kernel_rfl) (ld_i (by kernel_rfl) hn12 rfl ?_)
              refine mul_i (.of (by omega) (by omega)) ?_
              refine fldi_i (by kernel_rfl) (ld_i (by kernel_rfl) hn12 rfl ?_)
              refine add_i (.of (by omega) (by omega)) ?_
              have hblt := idx_bound hinq
              refine sl1_get (x := .bool (colOf W H ms10 nq)) (by kernel_rfl) (by kernel_rfl) hs12 hbdq.2.2.2 ?_ ?_
              · rw [hbdq.2.2.1, List.getElem?_map, pixel_get hinq, List.getD_eq_getElem?_getD, List.getElem?_eq_getElem (by omega)]; rfl
              intro g
              rw [hhas, pickS_eq, nth0, cond_false, ifB_eq]
              split
              · rename_i hseen
                exact fin _ _ _ _ _ _ hm12 hcbo hcL hct hL12 ht12 hcv12 hs12 hl10 hD (fun _ h => h) (fun hc => hD.seen hseen hc)
              · rename_i hseen
                obtain ⟨hc, hnew, hbeg⟩ := hD.found hconn hinq hadj hseen
                have hcolq : (!colOf W H px s) = colOf W H px nq := by
                  have := four_col hin hinq hadj (fun k => hc.other (conn_trans hconn k))
                  rw [(conn_ok hconn).2] at this
                  cases h1 : colOf W H px s <;> cases h2 : colOf W H px nq <;> simp_all
                refine ldS_i rfl hn12 ?_
                refine not_i ?_
                have hmore := cnt_mono hD.more (W := W) (H := H)
                refine l05Node_c hWH n (P := Conn W H (colOf W H px) s) (by omega) hcolq hp12 hs12 hl10 hinq hc.from_ (fun x hx => hD.more _ (hBeg.own x hx)) (fun x hx => hD.free nq hc hnew x hx) fun c d ms13 w13 V1 hm13 hs13 hl13 hV1 hvis => ?_
                refine ext_i rfl (ext_i rfl ?_)
                have hvd := hvis.dep
                have hvs := hvis.siz
                have hcl := cnt_le (W := W) (H := H) (marks W H ms13)
                have hnl := hD.nlen
                have hcl10 := cnt_le (W := W) (H := H) (marks W H ms10)
                have hsb12 := hs12.lt
                have hLl12 := hL12.lt
                have htl12 := ht12.lt
                have hcl12 := hcv12.lt
                have hne1 : Lb ≠ sb := by obtain ⟨cs, h1⟩ := hL12.row; obtain ⟨cs', h2⟩ := hs12.cells; exact at_ne h1 h2 (by decide)
                have hne2 : tb ≠ sb := by obtain ⟨cs, h1⟩ := ht12.row; obtain ⟨cs', h2⟩ := hs12.cells; exact at_ne h1 h2 (by decide)
                have hne3 : cb ≠ sb := by obtain ⟨cs, h1⟩ := hcv12.cells; obtain ⟨cs', h2⟩ := hs12.cells; exact at_ne h1 h2 (by decide)
                refine l05Insert_c (hcv12.mod hm13 hne3) (by rw [(sortB_perm _).length_eq, List.length_map]; omega) fun cv' cb' w14 hor hm14 hcv14 => ?_
                refine add_i (.of (by omega) (by omega)) ?_
                refine l00Max_c ?_
                have hDn := hD.next hc hnew hV1 hvis.more hvis.less hvis.code hvis.siz hvis.dep hseen
                have hsz13 := hm13.size
                have hneq : ∀ t ∈ ts, t ≠ nq := fun t ht e => hnew t ht (by rw [e]; exact conn_refl hinq)
                have e1 : sortB ((ts ++ [nq]).map fun t => (if t = nq then (c, d) else f t).1) = insertB c (sortB (ts.map fun t => (f t).1)) := by
                  rw [List.map_append, List.map_singleton, if_pos rfl, ← sortB_snoc]
                  congr 2
                  exact List.map_congr_left fun t ht => by rw [if_neg (hneq t ht)]
                have e2 : depB ((ts ++ [nq]).map fun t => (if t = nq then (c, d) else f t).2) = max (depB (ts.map fun t => (f t).2)) (d + 1) := by
                  rw [List.map_append, List.map_singleton, if_pos rfl, ← depB_snoc]
                  congr 2
                  exact List.map_congr_left fun t ht => by rw [if_neg (hneq t ht)]
                rw [← e2]
                rw [← e1] at hcv14
                refine fin cv' cb' ms13 (ts ++ [nq]) _ w14 ?_ ?_ ?_ ?_ ((hL12.mod hm13 hne1).mod hm14 (fun e => hcL e.symm)) ((ht12.mod hm13 hne2).mod hm14 (fun e => hct e.symm)) hcv14 (hs13.mod hm14 (fun e => hne3 e.symm)) hl13 hDn (fun x h => hmono h) (fun _ => ⟨nq, List.mem_append_right _ (List.mem_singleton_self _), conn_refl hinq⟩)
                · exact (hm12.trans hm13).comp hm14 (fun _ _ h => h) (fun k hk e => by omega)
                · have := hm12.size; rcases hor with rfl | h' <;> omega
                · rcases hor with rfl | h'
                  · exact hcL
                  · omega
                · rcases hor with rfl | h'
                  · exact hct
                  · omega
            · have hnin : ¬ inG W H nq := by
                intro h
                have : decide (0 ≤ nq.1 ∧ nq.1 < (W : Int) ∧ 0 ≤ nq.2 ∧ nq.2 < (H : Int)) = true := decide_eq_true h
                rw [this] at hhas; cases hhas
              intro g
              rw [hhas, pickS_eq, cond_true, ifB_eq, if_pos rfl]
              exact fin _ _ _ _ _ _ hm12 hcbo hcL hct hL12 ht12 hcv12 hs12 hl10 hD (fun _ h => h) (fun hc => absurd hc.ht hnin)
          · have : k = 4 := by omega
            subst this
            refine add_i (.of (by omega) (by omega)) ?_
            refine ⟨⟨cv, cb, i + 1, ms10, ts, f, rfl, by omega, hm10, hcbo, hcL, hct, hL10, ht10, hcv10, hs10, hl10, hD, fun j hj hji d hd => ?_⟩, ?_⟩
            · rcases Nat.lt_or_ge j i with h' | h'
              · exact hok j hj h' d hd
              · have : j = i := by omega
                subst this
                exact hokk d hd
            · simp only [nth2, intOf]; omega
        · have : i = L.length := by omega
          subst this
          have hall : ∀ t, Child W H (colOf W H px) P s t → ∃ u ∈ ts, Conn W H (colOf W H px) u t := fun t ht => by
            obtain ⟨a, ha, hn⟩ := ht.beside
            have haL := (hLm a).2 ha
            obtain ⟨j, hj, rfl⟩ := List.mem_iff_getElem.1 haL
            have hm := mem_steps false L[j] t hn
            obtain ⟨d, hd, rfl⟩ := List.mem_map.1 hm
            exact hok j hj hj d hd ht
          have hvis := hD.visit hall
          have hsz := hvis.siz
          have hcl9 := cnt_le (W := W) (H := H) (marks W H ms9)
          have hnl := hD.nlen
          have hsum := encB_size (ts.map fun t => (f t).1)
          refine join_c hcv9 (by rw [(sortB_perm _).length_eq, List.length_map]; omega) (by rw [((sortB_perm _).map _).sum_nat]; omega) ?_
          exact hK _ _ _ _ _ hm9 hs9 hl9 hV0 hvis
    refine not_i ?_
    rw [ifB_eq]
    cases hcs : colOf W H px s <;> rw [hcs] at key hcb <;> subst hcb
    · rw [if_pos (by simp)]
      refine l01Invert_c (hp.ext hE2) fun v c w3 he3 hc3 hP3 => ?_
      obtain ⟨z, hz⟩ := hP2.cell
      have := lt_of_at hz
      refine storeP_i rfl (he3.at_ hz) hP3 (by omega) fun w4 hm4 hP4 => ?_
      exact key w4 c (he3.mod.trans hm4) (by rw [if_neg (by simp)]; exact hP4)
    · rw [if_neg (by simp)]
      exact key w2 b (Mod.refl _) (by rw [if_pos rfl]; exact hP2)
end Go.Proofs.Ytnpkcdegckfjeaa
