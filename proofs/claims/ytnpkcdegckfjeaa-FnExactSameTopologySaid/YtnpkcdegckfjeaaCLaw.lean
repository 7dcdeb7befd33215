/- Contracts of the laws' helpers. -/
import Derived.Test.YtnpkcdegckfjeaaCImpl4
namespace Go.Proofs.Ytnpkcdegckfjeaa
open Go Go.SL Go.RowKit
set_option maxRecDepth 100000

/-- The argument: a slice of strings, nil or not, wherever it lies. -/
def ArgS (w : World) (u : Value) (rows : List ByteArray) : Prop := (∃ a n c, u = .slice a n c ∧ n = 0 ∧ rows = []) ∨ ∃ b o c, u = sl b o rows.length c ∧ ∀ j, (hj : j < rows.length) → ∃ cs E fz, w.heap[b]? = some (.cells cs E fz) ∧ cs[o + j]? = some (.string rows[j])
theorem ArgS.ext {w w' : World} {u : Value} {rows : List ByteArray} (h : ArgS w u rows) (he : Ext w w') : ArgS w' u rows := by
  refine h.imp id fun ⟨b, o, c, h1, h2⟩ => ⟨b, o, c, h1, fun j hj => ?_⟩
  obtain ⟨cs, E, fz, q1, q2⟩ := h2 j hj
  exact ⟨cs, E, fz, he.at_ q1, q2⟩
theorem argLen_i {w : World} {u : Value} {rows : List ByteArray} {T ty : TypeId} {K : Value → Prop} (hT : T = ty_Sstring) (h : ArgS w u rows) (hK : K (i64 rows.length)) : rd Pg (Builtin.len_ #[T] ty #[u]) w K := by
  subst hT
  rcases h with ⟨a, n, c, rfl, rfl, rfl⟩ | ⟨b, o, c, rfl, h⟩
  · exact lenS_i (T := ty_Sstring) rfl hK
  · exact lenS_i (T := ty_Sstring) rfl hK
theorem argRow_i {w : World} {u : Value} {rows : List ByteArray} {y : Nat} {T1 T2 : TypeId} {K : Value → Prop} (hT : T1 = ty_Sstring ∧ T2 = ty_string) (h : ArgS w u rows) (hy : y < rows.length) (hK : K (.string rows[y])) :
    pur Pg (Instr.indexAt T1 u (i64 y)) fun t => rd Pg (Instr.loadAt T2 t) w K := by
  obtain ⟨rfl, rfl⟩ := hT
  rcases h with ⟨a, n, c, rfl, rfl, rfl⟩ | ⟨b, o, c, rfl, h⟩
  · simp at hy
  · obtain ⟨cs, E, fz, q1, q2⟩ := h y hy
    refine idx_i (size := 1) rfl (by omega) (by omega) ?_
    exact ld_i (by kernel_rfl) q1 (by rw [Int.toNat_natCast, Nat.mul_one]; exact q2) hK
/-- A cell that holds the argument. -/
structure ArgP (w : World) (p : Nat) (T : TypeId) (rows : List ByteArray) (u : Value) : Prop where
  cell : w.heap[p]? = some (row #[u] T)
  arg : ArgS w u rows
theorem ArgP.ext {w w' : World} {p T : Nat} {rows : List ByteArray} {u : Value} (h : ArgP w p T rows u) (he : Ext w w') : ArgP w' p T rows u := ⟨he.at_ h.cell, h.arg.ext he⟩

theorem szS_c {w : World} {u : Value} {rows : List ByteArray} {n : Int} {K : Value → World → Prop} (h : ArgS w u rows) (hn : -1 ≤ n ∧ n ≤ 1048576) (hrl : rows.length ≤ 9223372036854775807) (hrs : ∀ r ∈ rows, r.size ≤ 9223372036854775807)
    (hK : ∀ m : Int, -1 ≤ m → m ≤ 1048576 → (0 ≤ m → rows.length ≤ 1048576) → K (i64 m) w) : callS Pg n_laws_szStringS #[u, i64 n] w K := by
  refine call_laws_szStringS _ _ _ _ ?_
  unfold S_laws_szStringS
  refine argLen_i rfl h ?_
  refine sub_i ⟨by omega, by omega⟩ ?_
  refine lss_i (ifB_i (fun h1 => ?_) (fun h1 => ?_))
  · exact hK (-1) (by omega) (by omega) (by omega)
  · have hl : rows.length ≤ 1048576 := by omega
    refine loopS_i (fun s w' => ∃ (m : Int) (i : Nat), s = [i64 m, i64 i] ∧ 0 ≤ m ∧ m ≤ 1048576 ∧ i ≤ rows.length ∧ w' = w) (fun s _ => rows.length - (intOf (nth s 1)).toNat) ⟨n - rows.length, 0, rfl, by omega, by omega, by omega, rfl⟩ ?_
    rintro g s w' ⟨m, i, rfl, hm0, hm1, hi, rfl⟩
    rw [nth1, nth0]
    refine argLen_i rfl h ?_
    refine lss_i (ifB_i (fun hlt => ?_) (fun hlt => ?_))
    · have hil : i < rows.length := by omega
      have hrsi := hrs _ (List.getElem_mem hil)
      refine argRow_i ⟨rfl, rfl⟩ h hil ?_
      refine lenStr_i (by kernel_rfl) ?_
      refine sub_i ⟨by omega, by omega⟩ ?_
      refine lss_i (ifB_i (fun h2 => ?_) (fun h2 => ?_))
      · exact hK (-1) (by omega) (by omega) (by omega)
      · refine add_i (.of (by omega) (by omega)) ?_
        refine ⟨⟨m - rows[i].size, i + 1, by simp, by omega, by omega, by omega, rfl⟩, ?_⟩
        simp only [nth1, intOf]; omega
    · exact hK m (by omega) (by omega) fun _ => hl
theorem szP_c {w : World} {u : Value} {rows : List ByteArray} {n : Int} {K : Value → World → Prop} (h : ArgS w u rows) (hn : -1 ≤ n ∧ n ≤ 1048576) (hrl : rows.length ≤ 9223372036854775807) (hrs : ∀ r ∈ rows, r.size ≤ 9223372036854775807)
    (hK : ∀ (m : Int) w', Ext w w' → -1 ≤ m → m ≤ 1048576 → (0 ≤ m → rows.length ≤ 1048576) → K (i64 m) w') : callS Pg n_laws_szPicture #[.agg #[u], i64 n] w K := by
  refine call_laws_szPicture _ _ _ _ ?_
  unfold S_laws_szPicture
  refine box_i fun p w1 h1 => ?_
  refine fldi_i (by kernel_rfl) (ld_i (by kernel_rfl) h1.at_ rfl ?_)
  refine szS_c (h.ext h1.ext) hn hrl hrs fun m hm0 hm1 hm2 => ?_
  refine lss_i (ifB_i (fun h2 => ?_) (fun h2 => ?_))
  · exact hK (-1) w1 h1.ext (by omega) (by omega) (by omega)
  · exact hK m w1 h1.ext hm0 hm1 hm2

theorem toS_c {w : World} {u : Value} {rows : List ByteArray} {K : Value → World → Prop} (h : ArgS w u rows) (hl : rows.length ≤ 1048576)
    (hK : ∀ v b w', Ext w w' → w.heap.size ≤ b → Sl1 w' ty_string v (rows.map Value.string) b → K v w') : callS Pg n_laws_toStringS #[u] w K := by
  refine call_laws_toStringS _ _ _ ?_
  unfold S_laws_toStringS
  refine argLen_i rfl h ?_
  refine sl1_make (E := ty_string) (.string (ByteArray.mk #[])) (by kernel_rfl) (by kernel_rfl) (by omega) fun v b w1 he1 hb hv => ?_
  refine loopS_i (fun s w' => ∃ i : Nat, s = [i64 i] ∧ i ≤ rows.length ∧ Ext w w' ∧ Sl1 w' ty_string v ((rows.take i ++ List.replicate (rows.length - i) (ByteArray.mk #[])).map Value.string) b) (fun s _ => rows.length - (intOf (nth s 0)).toNat) ⟨0, rfl, by omega, he1, by simpa using hv⟩ ?_
  rintro g s w2 ⟨i, rfl, hi, hE, hv2⟩
  rw [nth0]
  refine argLen_i rfl (h.ext hE) ?_
  refine lss_i (ifB_i (fun hlt => ?_) (fun hlt => ?_))
  · have hil : i < rows.length := by omega
    refine argRow_i ⟨rfl, rfl⟩ (h.ext hE) hil ?_
    refine sl1_addr (by kernel_rfl) hv2 (by omega) (by simp; omega) fun a hst => ?_
    refine hst _ _ _ (by kernel_rfl) rfl fun w3 hm hv3 => ?_
    refine add_i (.of (by omega) (by omega)) ?_
    refine ⟨⟨i + 1, by simp, by omega, hE.own hm hb, ?_⟩, ?_⟩
    · have e : ((rows.take i ++ List.replicate (rows.length - i) (ByteArray.mk #[])).map Value.string).set i (.string rows[i]) = (rows.take (i + 1) ++ List.replicate (rows.length - (i + 1)) (ByteArray.mk #[])).map Value.string := by
        rw [← List.map_set]
        congr 1
        have hlen : (rows.take i).length = i := by rw [List.length_take]; omega
        rw [List.set_append_right _ _ (by omega), hlen, Nat.sub_self, show rows.length - i = (rows.length - (i + 1)) + 1 by omega, List.replicate_succ, List.set_cons_zero, List.take_succ_eq_append_getElem hil, List.append_assoc]
        rfl
      rw [← e]
      simpa using hv3
    · simp only [nth0, intOf]; omega
  · have : i = rows.length := by omega
    subst this
    rw [List.take_length, Nat.sub_self, List.replicate_zero, List.append_nil] at hv2
    exact hK v b w2 hE hb hv2
theorem toP_c {w : World} {u : Value} {rows : List ByteArray} {K : Value → World → Prop} (h : ArgS w u rows) (hl : rows.length ≤ 1048576)
    (hK : ∀ v b w', Ext w w' → w.heap.size ≤ b → AVal w' v b rows → K v w') : callS Pg n_laws_toPicture #[.agg #[u]] w K := by
  refine call_laws_toPicture _ _ _ ?_
  unfold S_laws_toPicture
  refine box_i fun p w1 h1 => ?_
  refine alloc_i rfl fun rb w2 h2 => ?_
  refine alloc_i rfl fun ob w3 h3 => ?_
  have hE3 : Ext w w3 := h1.ext.trans (h2.ext.trans h3.ext)
  refine fldi_i (by kernel_rfl) (ld_i (by kernel_rfl) (h3.ext.at_ (h2.ext.at_ h1.at_)) rfl ?_)
  refine toS_c (h.ext hE3) hl fun v b w4 he4 hb hv => ?_
  refine fldi_i (by kernel_rfl) ?_
  have z1 := h1.ext.size; have z2 := h2.ext.size; have z3 := h3.ext.size
  have o2 := h2.old; have o3 := h3.old
  have l2 := lt_of_at h2.at_; have l3 := lt_of_at h3.at_
  have hv1 := hv.one
  have hob := he4.at_ h3.at_
  refine st_i (by kernel_rfl) hv1 hob (by decide) ?_
  have hm5 := setAt_mod w4 ob (row (((Value.agg #[.slice none 0 0]).cells).setIfInBounds 0 v) ty_impl_Picture)
  have hat := setAt_at w4 (lt_of_at hob) (row (((Value.agg #[.slice none 0 0]).cells).setIfInBounds 0 v) ty_impl_Picture)
  refine ldn_i (n := 1) (vs := #[v]) (by kernel_rfl) hat (Nat.le_refl 1) rfl ?_
  have hrb := hm5.at_ (he4.at_ (h3.ext.at_ h2.at_)) (by omega)
  refine stn_i (n := 1) (by kernel_rfl) (by intro x hx; simp at hx; subst hx; exact hv1) rfl hrb (Nat.le_refl 1) ?_
  have hm6 := setAt_mod (setAt w4 ob (row (((Value.agg #[.slice none 0 0]).cells).setIfInBounds 0 v) ty_impl_Picture)) rb (row (wr (Value.agg #[.slice none 0 0]).cells 0 [v]) ty_impl_Picture)
  refine resn_i (n := 1) (by kernel_rfl) (setAt_at _ (lt_of_at hrb) _) (Nat.le_refl 1) rfl ?_
  have hE4 := hE3.trans he4
  refine hK _ b _ ((hE4.own hm5 (by omega)).own hm6 (by omega)) (by omega) ⟨v, rfl, (hv.mod hm5 (by omega)).mod hm6 (by omega)⟩

theorem eqS_c {w : World} {v1 v2 : Value} {b1 b2 : Nat} {rows : List ByteArray} {K : Value → World → Prop} (h1 : Sl1 w ty_string v1 (rows.map Value.string) b1) (h2 : Sl1 w ty_string v2 (rows.map Value.string) b2) (hl : rows.length ≤ 1048576)
    (hK : ∀ w', Ext w w' → K (.bool true) w') : callS Pg n_laws_eqStringS #[v1, v2] w K := by
  refine call_laws_eqStringS _ _ _ _ ?_
  unfold S_laws_eqStringS
  refine alen_i rfl h1 ?_
  refine alen_i rfl h2 ?_
  refine neq_i ?_
  rw [ifB_eq, if_neg (by simp)]
  refine loopS_i (fun s w' => ∃ i : Nat, s = [i64 i] ∧ i ≤ rows.length ∧ Ext w w') (fun s _ => rows.length - (intOf (nth s 0)).toNat) ⟨0, rfl, by omega, Mod.refl _⟩ ?_
  rintro g s w2 ⟨i, rfl, hi, hE⟩
  rw [nth0]
  refine alen_i rfl (h1.ext hE) ?_
  refine lss_i (ifB_i (fun hlt => ?_) (fun hlt => ?_))
  · have hil : i < rows.length := by omega
    refine drawS_i ?_
    have hE2 : Ext w w2.drew := hE.trans (Same.drew w2).ext
    refine arow_i ⟨rfl, rfl⟩ (h1.ext hE2) hil ?_
    refine arow_i ⟨rfl, rfl⟩ (h2.ext hE2) hil ?_
    refine neqStr_i ?_
    rw [ifB_eq, if_neg (by simp)]
    refine add_i (.of (by omega) (by omega)) ?_
    refine ⟨⟨i + 1, by simp, by omega, hE2⟩, ?_⟩
    simp only [nth0, intOf]; omega
  · exact hK w2 hE
theorem eqP_c {w : World} {v1 v2 : Value} {b1 b2 : Nat} {rows : List ByteArray} {K : Value → World → Prop} (h1 : AVal w v1 b1 rows) (h2 : AVal w v2 b2 rows) (hl : rows.length ≤ 1048576)
    (hK : ∀ w', Ext w w' → K (.bool true) w') : callS Pg n_laws_eqPicture #[v1, v2] w K := by
  refine call_laws_eqPicture _ _ _ _ ?_
  unfold S_laws_eqPicture
  obtain ⟨u1, rfl, a1⟩ := h1
  obtain ⟨u2, rfl, a2⟩ := h2
  refine box_i fun p w1 hp => ?_
  refine box_i fun q w2 hq => ?_
  have hE := hp.ext.trans hq.ext
  refine fldi_i (by kernel_rfl) (ld_i (by kernel_rfl) (hq.ext.at_ hp.at_) rfl ?_)
  refine fldi_i (by kernel_rfl) (ld_i (by kernel_rfl) hq.at_ rfl ?_)
  refine eqS_c (a1.ext hE) (a2.ext hE) hl fun w3 he3 => ?_
  refine not_i ?_
  rw [ifB_eq, if_neg (by simp)]
  exact hK w3 (hE.trans he3)
end Go.Proofs.Ytnpkcdegckfjeaa
