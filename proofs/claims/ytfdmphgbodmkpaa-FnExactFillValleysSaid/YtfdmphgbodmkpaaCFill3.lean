/- Contract of the reference's FillValleys. -/
import Derived.Test.YtfdmphgbodmkpaaCFill2
set_option linter.unusedVariables false
set_option linter.unusedSimpArgs false
namespace Go.Proofs.Ytfdmphgbodmkpaa
open Go Go.SL Go.RowKit
set_option maxRecDepth 100000

/-- The filling that is under way, the reference's. -/
structure FS (w w' : World) (N nb ob outb : Nat) (nv outv : Value) (S : List VR) (f : Nat → Int) : Prop where
  ext : Ext w w'
  o : ∃ z, w'.heap[ob]? = some (row #[z] ty_impl_Grey)
  n : Sl1 w' ty_int64 nv ((tab N f).map i64) nb
  out : VRs w' outv S outb
  set : ∀ r ∈ S, SetOk w' N r
theorem FS.step {w w' w2 : World} {N nb ob outb : Nat} {nv outv : Value} {S : List VR} {f : Nat → Int} (h : FS w w' N nb ob outb nv outv S f) (he : Ext w' w2) : FS w w2 N nb ob outb nv outv S f :=
  ⟨h.ext.trans he, by obtain ⟨z, hz⟩ := h.o; exact ⟨z, he.at_ hz⟩, h.n.ext he, h.out.ext he, fun r hr => (h.set r hr).mod he id⟩

theorem specFill_c {w : World} {v : Value} {L : List (List Int)} {b0 : Nat} {rb : Nat → Nat} {depth : Int} {K : Value → World → Prop} (h : RR w v L b0 rb) (hL : L.length ≤ 1000000000) (hl : ∀ l ∈ L, l.length ≤ 1000000000)
    (hK : ∀ r c rc w', Ext w w' → ((r = .slice none 0 0 ∧ fillL depth L = []) ∨ RR w' r (fillL depth L) c rc ∧ Fresh w.heap.size c rc (fillL depth L).length) → K (.tuple #[.agg #[r], .bool (decide (FillOk depth L))]) w') : callS Pg n_spec_FillValleys #[.agg #[v], i64 depth] w K := by
  refine call_spec_FillValleys _ _ _ _ ?_
  unfold S_spec_FillValleys
  refine box_i fun p w1 g1 => ?_
  refine alloc_i rfl fun ob w2 g2 => ?_
  have hE2 := g1.ext.trans g2.ext
  have hp : w2.heap[p]? = some (row #[v] ty_impl_Grey) := g2.ext.at_ g1.at_
  have hob : ∃ z, w2.heap[ob]? = some (row #[z] ty_impl_Grey) := ⟨_, g2.at_⟩
  have z1 := g1.ext.size; have o2 := g2.old
  have hobw : w.heap.size ≤ ob := by omega
  have no : ¬ FillOk depth L → ∀ w', Ext w2 w' → pur Pg (Instr.build ty_impl_Grey #[]) fun t19 => effU Pg (Instr.storeAt ty_impl_Grey (ptr ob 0) t19) w' fun w => rd Pg (resCell ty_impl_Grey (ptr ob 0)) w fun r => K (Value.tuple #[r, Go.Value.bool Bool.false]) w := by
    intro hn w' he
    refine build_i (cells := #[.slice none 0 0]) rfl rfl ?_
    refine grey_put (K := fun r w => K (Value.tuple #[r, Go.Value.bool Bool.false]) w) (by obtain ⟨z, hz⟩ := hob; exact ⟨z, he.at_ hz⟩) rfl fun w3 hm => ?_
    have := hK (.slice none 0 0) 0 (fun _ => 0) w3 ((hE2.trans he).own hm hobw) (.inl ⟨rfl, by unfold fillL; rw [if_neg hn]⟩)
    rw [decide_eq_false hn] at this; exact this
  refine l07Is_c hp (h.ext hE2) hL hl fun w3 he3 => ?_
  refine not_i ?_
  have hE3 := hE2.trans he3
  rcases (Decidable.em (TableOk 99 L)).symm with t1 | t1
  · rw [decide_eq_false t1, Bool.not_false, joinS_eq, ifG_eq_f, if_pos rfl]
    intro g
    rw [pickS_eq, cond_true, ifB_eq, if_pos rfl]
    exact no (fun k => t1 k.1) w3 he3
  rw [decide_eq_true t1, Bool.not_true, joinS_eq, ifG_eq_f, if_neg (by simp)]
  refine l00In_c ?_
  refine not_i ?_
  intro g
  rw [pickS_eq, cond_false, nth0]
  rcases (Decidable.em (0 ≤ depth ∧ depth ≤ 100)).symm with t2 | t2
  · rw [decide_eq_false t2, Bool.not_false, ifB_eq, if_pos rfl]
    exact no (fun k => t2 k.2) w3 he3
  rw [decide_eq_true t2, Bool.not_true, ifB_eq, if_neg (by simp)]
  have hok : FillOk depth L := ⟨t1, t2.1, t2.2⟩
  have hfl : fillL depth L = rect (VW L) L.length (fillN depth (VW L) L.length (numL L)) := by unfold fillL; rw [if_pos hok]
  have hn := (rect_num t1).2.2.2.2.2
  have hp3 := he3.at_ hp
  have hg := gp_of t1 hp3 (h.ext hE3)
  rw [decide_eq_true hok, hfl] at hK
  clear no hfl
  generalize hWe : VW L = W at hg hK
  generalize hHe : L.length = H at hg hK
  generalize numL L = num at hg hn hK
  have hW := hg.w1; have hW2 := hg.w2; have hH := hg.h1; have hH2 := hg.h2
  have ha := hg.area
  obtain ⟨gv, hgcell, hgrr⟩ := hg.ex
  refine fldi_i (by kernel_rfl) (ld_i (by kernel_rfl) hgcell rfl ?_)
  refine l07List_c hgrr hW2 hH2 fun nv nb w4 he4 hnb hnv => ?_
  refine l07Width_c (hg.ext he4) ?_
  refine l09Valleys_c hW hW2 hH hH2 hnv fun outv outb S w5 he5 houtb hout hset hsb hrel => ?_
  have hE5 := hE3.trans (he4.trans he5)
  have htop := vs_top (nr := near W H) (l := ordK (W * H) num 100 0) (fun i => (hn i).2)
  have hvs := vs_ok (nr := near W H) (ordK_sorted (W * H) num 100 0) (fun x _ => (hn x).1)
  have hSl : S.length ≤ 100000 := by
    have := congrArg List.length hrel.vs
    rw [List.length_map] at this
    rw [this]
    refine Nat.le_trans (run_len _) (Nat.le_trans (ordK_len _ num 100 0) ?_)
    omega
  rw [← hrel.vs] at htop hvs
  have hfin := fillS_eq (depth := depth) hrel (fun r hr => (hset r hr).lt)
  have z3 := hE3.size
  have hnbw : w.heap.size ≤ nb := by omega
  have hnblt := hnv.lt
  have hsbn : ∀ r ∈ S, r.sb ≠ nb := fun r hr e => by have := hsb r hr; omega
  refine own_len (k := 4) (T := ty_Sspec_l09Valley) rfl hout ?_
  refine loopS_i (fun s w' => ∃ k : Nat, s = [i64 k] ∧ k ≤ S.length ∧ FS w3 w' (W * H) nb ob outb nv outv S (liftS depth ((S.take k).map fun r => (r.b, r.d, r.set)) num)) (fun s _ => S.length - (intOf (nth s 0)).toNat)
    ⟨0, rfl, by omega, ⟨he4.trans he5, by obtain ⟨z, hz⟩ := hob; exact ⟨z, (he3.trans (he4.trans he5)).at_ hz⟩, hnv.ext he5, hout, hset⟩⟩ ?_
  clear hout hset
  rintro g s w7 ⟨k, rfl, hk, hM⟩
  rw [nth0]
  refine lss_i (ifB_i (fun hlt => ?_) (fun hlt => ?_))
  · have hkl : k < S.length := by omega
    have hgk := List.getElem?_eq_getElem hkl
    have htk : S.take (k + 1) = S.take k ++ [S[k]] := List.take_succ_eq_append_getElem hkl
    have hmk : S[k] ∈ S := List.getElem_mem hkl
    generalize S[k] = r at hgk htk hmk
    have hstep : liftS depth ((S.take (k + 1)).map fun r => (r.b, r.d, r.set)) num = lift1 depth (r.b, r.d, r.set) (liftS depth ((S.take k).map fun r => (r.b, r.d, r.set)) num) := by
      rw [htk, List.map_append, List.map_singleton, liftS_snoc]
    generalize liftS depth ((S.take k).map fun r => (r.b, r.d, r.set)) num = f at hstep hM
    obtain ⟨hb0, hd0, p0, _, hbp⟩ := hvs (r.b, r.p, r.d) (List.mem_map.2 ⟨r, hmk, rfl⟩)
    obtain ⟨hb1, hd1⟩ := htop (r.b, r.p, r.d) (List.mem_map.2 ⟨r, hmk, rfl⟩)
    simp only at hb0 hd0 hb1 hd1
    refine joinS_k fun J hJ => ?_
    have fin : ∀ w', FS w3 w' (W * H) nb ob outb nv outv S (lift1 depth (r.b, r.d, r.set) f) → J [] w' := by
      intro w' hM'
      refine hJ _ _ fun _ => ?_
      refine add_i (.of (by omega) (by omega)) ?_
      exact ⟨⟨k + 1, by simp, by omega, by rw [hstep]; exact hM'⟩, by simp only [nth0, intOf]; omega⟩
    clear hJ
    have hsv1 : one r.sv = true := (hM.set r hmk).sl.one
    refine own_load (enc := valE) (k := 4) (T := ty_Sspec_l09Valley) (x := r) rfl valE_len hM.out (by omega) (by rw [Int.toNat_natCast]; exact hgk) (by kernel_rfl) ?_
    refine varn_i (n := 4) (vs := #[i64 r.b, i64 (r.p : Int), i64 r.d, r.sv]) (by kernel_rfl) rfl rfl rfl (by intro x hx; simp at hx; rcases hx with rfl | rfl | rfl | rfl <;> first | rfl | exact hsv1) fun tb w8 g8 => ?_
    have hM8 := hM.step g8.ext
    have htb := g8.at_
    clear hM
    refine fldi_i (by kernel_rfl) (ld_i (by kernel_rfl) htb rfl ?_)
    refine lss_i ?_
    rw [joinS_eq]
    have skip : (r.d < 0 ∨ depth ≤ r.d - r.b) → J [] w8 := fun hc => fin w8 (by
      unfold lift1
      rw [if_pos hc]; exact hM8)
    by_cases hneg : r.d < 0
    · rw [decide_eq_true hneg, ifG_eq_f, if_pos rfl]
      intro g2
      rw [pickS_eq, cond_true, ifB_eq, if_pos rfl]
      exact skip (.inl hneg)
    rw [decide_eq_false hneg, ifG_eq_f, if_neg (by simp)]
    refine fldi_i (by kernel_rfl) (ld_i (by kernel_rfl) htb rfl ?_)
    refine fldi_i (by kernel_rfl) (ld_i (by kernel_rfl) htb rfl ?_)
    refine sub_i (.of (by omega) (by omega)) ?_
    refine geq_i ?_
    intro g2
    rw [pickS_eq, cond_false, nth0]
    refine ifB_i (fun hge => skip (.inr (by omega))) (fun hge => ?_)
    refine fldi_i (by kernel_rfl) (ld_i (by kernel_rfl) htb rfl ?_)
    have hql := (hM8.set r hmk).len
    refine sl1_len (by kernel_rfl) (hM8.set r hmk).sl ?_
    rw [cast_len]
    have hlift : lift1 depth (r.b, r.d, r.set) f = liftK r.d r.set f := lift1_K (by simp only; omega)
    rw [hlift] at fin
    refine loopS_i (fun s w' => ∃ k : Nat, s = [i64 k] ∧ k ≤ r.set.length ∧ FS w3 w' (W * H) nb ob outb nv outv S (liftK r.d (r.set.take k) f) ∧ w'.heap[tb]? = some (row #[i64 r.b, i64 (r.p : Int), i64 r.d, r.sv] ty_spec_l09Valley)) (fun s _ => r.set.length - (intOf (nth s 0)).toNat) ⟨0, rfl, by omega, hM8, htb⟩ ?_
    clear hM8 skip htb
    rintro g3 s3 w9 ⟨i, rfl, hi, hM, htb⟩
    rw [nth0]
    refine lss_i (ifB_i (fun hlt3 => ?_) (fun hlt3 => ?_))
    · have hil : i < r.set.length := by omega
      have hgi := List.getElem?_eq_getElem hil
      have hti : r.set.take (i + 1) = r.set.take i ++ [r.set[i]] := List.take_succ_eq_append_getElem hil
      have hqN : r.set[i] < W * H := (hM.set r hmk).lt _ (List.getElem_mem hil)
      generalize r.set[i] = q at hgi hti hqN
      have hstep2 : liftK r.d (r.set.take (i + 1)) f = upd (liftK r.d (r.set.take i) f) q (max (liftK r.d (r.set.take i) f q) r.d) := by rw [hti, liftK_snoc]
      generalize liftK r.d (r.set.take i) f = f2 at hstep2 hM
      have hd := (Same.drew w9).ext
      have hM10 := hM.step hd
      have htb10 := hd.at_ htb
      refine drawF_i (fun w' => Ext w9.drew w') (Mod.refl _) ?_
      generalize w9.drew = w11 at hM10 htb10 ⊢
      have hqc : (cast r.set)[((i : Nat) : Int).toNat]? = some (i64 (q : Int)) := by
        unfold cast
        rw [Int.toNat_natCast, List.getElem?_map, List.getElem?_map, hgi]; rfl
      have hsl := (hM10.set r hmk).sl
      refine fldi_i (by kernel_rfl) ?_
      refine rdF_i (v := r.sv) (fun w' hw' => ld_run (by kernel_rfl) (hw'.at_ htb10) rfl) ?_
      refine sl1_getF (E := ty_int64) (by kernel_rfl) (by kernel_rfl) hsl (by omega) hqc ?_
      refine fldi_i (by kernel_rfl) (ld_i (by kernel_rfl) htb10 rfl ?_)
      refine sl1_get (E := ty_int64) (by kernel_rfl) (by kernel_rfl) hsl (by omega) hqc ?_
      refine int_get ⟨rfl, rfl⟩ hM10.n (by omega) (n := f2 q) (by rw [Int.toNat_natCast]; exact tab_get hqN) ?_
      refine fldi_i (by kernel_rfl) (ld_i (by kernel_rfl) htb10 rfl ?_)
      refine l00Max_c ?_
      refine ⟨Mod.refl _, ?_⟩
      refine int_set ⟨rfl, rfl⟩ hM10.n (by omega) (by rw [tab_len, Int.toNat_natCast]; exact hqN) fun w12 hm12 hn12 => ?_
      rw [Int.toNat_natCast, tab_set] at hn12
      refine add_i (.of (by omega) (by omega)) ?_
      obtain ⟨cn, qn⟩ := hM10.n.cells
      obtain ⟨co, qo⟩ := hM10.out.row
      refine ⟨⟨i + 1, by simp, by omega, ⟨hM10.ext.own hm12 hnb, ?_, by rw [hstep2]; exact hn12, hM10.out.mod hm12 (at_ne qo qn (by decide)), fun r' hr' => (hM10.set r' hr').mod hm12 (hsbn r' hr')⟩, hm12.at_ htb10 (at_ne htb10 qn (by decide))⟩, by simp only [nth0, intOf]; omega⟩
      obtain ⟨z, hz⟩ := hM10.o
      exact ⟨z, hm12.at_ hz (at_ne hz qn (by decide))⟩
    · have : i = r.set.length := by omega
      subst this
      rw [List.take_length] at hM
      exact fin w9 hM
  · have : k = S.length := by omega
    subst this
    rw [List.take_length, hfin] at hM
    have hE7 := hE3.trans hM.ext
    have z7 := hE7.size
    refine l07Width_c (hg.ext hM.ext) ?_
    refine l07Rows_c hM.n hW hW2 hH2 fun rv c rc w8 he8 hF hr => ?_
    have hrv1 := hr.one
    obtain ⟨o, n, cp, hve⟩ : ∃ o n cp, rv = sl c o n cp := by
      obtain ⟨us, ⟨o, cp, e, _⟩, _⟩ := hr
      exact ⟨o, _, cp, e⟩
    subst hve
    refine build_i (cells := #[sl c o n cp]) rfl rfl ?_
    obtain ⟨z, hz⟩ := hM.o
    have hz8 := he8.at_ hz
    refine grey_put (K := fun r w => K (Value.tuple #[r, Go.Value.bool Bool.true]) w) ⟨z, hz8⟩ hrv1 fun w9 hm9 => ?_
    have hbF := hF.b
    refine hK _ c rc w9 ((hE7.trans he8).own hm9 hobw) (.inr ⟨hr.mod hm9 (fun e => ?_) (fun y hy e => ?_), by omega, fun y hy => ?_, fun y z hy hz => ?_⟩)
    · obtain ⟨us, q1, _⟩ := hr
      obtain ⟨cc, qc⟩ := q1.cells
      exact at_ne qc hz8 (by decide) e
    · rw [rect_len] at hy
      obtain ⟨us, _, _, q3⟩ := hr
      obtain ⟨u, _, q5⟩ := q3 y _ (rect_get hy)
      obtain ⟨cc, qc⟩ := q5.cells
      exact at_ne qc hz8 (by decide) e
    · rw [rect_len] at hy; have := hF.r y hy; omega
    · rw [rect_len] at hy hz; exact hF.inj y z hy hz
end Go.Proofs.Ytfdmphgbodmkpaa
