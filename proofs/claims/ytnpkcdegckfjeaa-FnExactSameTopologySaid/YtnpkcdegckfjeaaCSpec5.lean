/- Contract of the reference's reach, continued. -/
import Derived.Test.YtnpkcdegckfjeaaCSpec4
namespace Go.Proofs.Ytnpkcdegckfjeaa
open Go Go.SL Go.RowKit
set_option maxRecDepth 100000

theorem l03Reach_c {w : World} {p b W H : Nat} {px : List Bool} {av : Value} {start : List (Int × Int)} {ab : Nat} {e : Bool} {K : Value → World → Prop} (h : SPic w p b W H px) (ha : OwnSpots w av start ab) (hsl : start.length ≤ 100000)
    (hK : ∀ S v c w', S.Nodup → (∀ q, q ∈ S ↔ Reach (fun p => pixel W H px p.1 p.2) e start q) → Ext w w' → w.heap.size ≤ c → VPic w' v c W H (maskOf W H S) → K v w') : callS Pg n_l03Reach #[ptr p 0, av, .bool e] w K := by
  refine call_l03Reach _ _ _ _ _ ?_
  unfold S_l03Reach
  have hb := h.bounds
  have hmb := mul_bound hb.2.1 hb.2.2.2.1
  refine alloc_i rfl fun rb w1 hr => ?_
  refine l01Width_c (h.ext hr.ext) ?_
  refine l01Height_c (h.ext hr.ext) ?_
  refine mul_i (.of (by rw [← Int.natCast_mul]; omega) (by rw [← Int.natCast_mul]; omega)) ?_
  rw [← Int.natCast_mul]
  refine sl1_make (E := ty_bool) (.bool false) (by kernel_rfl) (by kernel_rfl) (by omega) fun sv sc w2 he2 hsc hs2 => ?_
  refine spots_nil_i rfl fun qv0 qb0 w3 he3 hqb hq3 => ?_
  have hro := hr.old
  have hrl := lt_of_at hr.at_
  have z1 := hr.ext.size
  have z2 := he2.size
  have hscl := hs2.lt
  have hal := ha.lt
  have hR0 : RS W H w w3 rb (.slice none 0 0) av start ab qv0 qb0 sv sc [] [] := ⟨hr.ext.trans (he2.trans he3), hro, by omega, by omega, by omega, he3.at_ (he2.at_ hr.at_), ha.ext (hr.ext.trans (he2.trans he3)), hq3, by rw [maskOf_nil, List.map_replicate]; exact hs2.ext he3⟩
  have hreachL : ∀ {S : List (Int × Int)}, (∀ q ∈ S, Reach (fun p => pixel W H px p.1 p.2) e start q) → S.Nodup → S.length ≤ W * H := fun hS hn => by
    have := nodup_le hn (L := (List.range (W * H)).map fun i => (((i % W : Nat) : Int), ((i / W : Nat) : Int))) fun q hq => by
      refine all_grid q ?_
      cases hS q hq with
      | base _ ho => exact pixel_true ho
      | step _ _ ho => exact pixel_true ho
    rwa [List.length_map, List.length_range] at this
  have hmulI : ∀ {x y : Int}, 0 ≤ x ∧ x < (W : Int) ∧ 0 ≤ y ∧ y < (H : Int) → 0 ≤ y * (W : Int) ∧ y * (W : Int) + x < 1000000 := fun {x y} hin => by
    obtain ⟨X, rfl⟩ := Int.eq_ofNat_of_zero_le hin.1
    obtain ⟨Y, rfl⟩ := Int.eq_ofNat_of_zero_le hin.2.2.1
    have := lin_lt (W := W) (H := H) (x := X) (y := Y) (by omega) (by omega)
    rw [← Int.natCast_mul]
    omega
  clear hq3 hs2 he2 he3
  refine loopS_i (fun s w' => ∃ (v : Value) (i : Nat) (qb : Nat) (S : List (Int × Int)), s = [v, i64 i] ∧ i ≤ start.length ∧ RS W H w w' rb (.slice none 0 0) av start ab v qb sv sc S S ∧ Bfs (fun p => pixel W H px p.1 p.2) e start S S [] (start.take i)) (fun s _ => start.length - (intOf (nth s 1)).toNat)
    ⟨qv0, 0, qb0, [], rfl, by omega, hR0, ⟨by simp, by simp, by simp, by simp, by simp⟩⟩ ?_
  clear hR0
  rintro g s w4 ⟨v, i, qb, S, rfl, hi, hR, hB⟩
  rw [nth1, nth0]
  refine spots_len_i rfl hR.al ?_
  refine lss_i (ifB_i (fun hlt => ?_) (fun hlt => ?_))
  · have hil : i < start.length := by omega
    have hgi : start[((i : Nat) : Int).toNat]? = some start[i] := by simp [hil]
    have htk : start.take (i + 1) = start.take i ++ [start[i]] := List.take_succ_eq_append_getElem hil
    refine joinS_k fun J hJ => ?_
    have fin : ∀ v' w' qb' S', RS W H w w' rb (.slice none 0 0) av start ab v' qb' sv sc S' S' → Bfs (fun p => pixel W H px p.1 p.2) e start S' S' [] (start.take i ++ [start[i]]) → J [v'] w' := by
      intro v' w' qb' S' h1 h2
      refine hJ _ _ fun _ => ?_
      refine add_i (.of (by omega) (by omega)) ?_
      rw [nth0]
      refine ⟨⟨v', i + 1, qb', S', rfl, by omega, h1, by rw [htk]; exact h2⟩, ?_⟩
      simp only [nth1, intOf]; omega
    refine drawS_i ?_
    have hR5 := hR.step (Same.drew w4).ext
    refine spotX_i ⟨rfl, rfl, rfl⟩ hR5.al (by omega) hgi ?_
    refine spotY_i ⟨rfl, rfl, rfl⟩ hR5.al (by omega) hgi ?_
    refine l01Black_c (h.ext hR5.ext) ?_
    rw [joinS_eq]
    refine ifG_t (fun hok => ?_) (fun hok => ?_)
    · have hin := pixel_true hok
      have hbd := hmulI hin
      refine spotY_i ⟨rfl, rfl, rfl⟩ hR5.al (by omega) hgi ?_
      refine mul_i (.of (by omega) (by omega)) ?_
      refine spotX_i ⟨rfl, rfl, rfl⟩ hR5.al (by omega) hgi ?_
      refine add_i (.of (by omega) (by omega)) ?_
      refine rs_get hR5 hin ⟨rfl, rfl⟩ ?_
      refine not_i ?_
      intro g
      rw [pickS_eq, nth0, hok, cond_true, ifB_eq]
      split
      · rename_i hnew
        have hnew : start[i] ∉ S := by simpa using hnew
        refine drawS_i ?_
        have hR6 := hR5.step (Same.drew w4.drew).ext
        refine spotY_i ⟨rfl, rfl, rfl⟩ hR6.al (by omega) hgi ?_
        refine mul_i (.of (by omega) (by omega)) ?_
        refine spotX_i ⟨rfl, rfl, rfl⟩ hR6.al (by omega) hgi ?_
        refine add_i (.of (by omega) (by omega)) ?_
        refine rs_put hR6 hin ⟨rfl, rfl⟩ fun w7 hR7 => ?_
        refine spotV_i ⟨rfl, rfl⟩ hR7.al (by omega) hgi ?_
        refine rs_app hR7 (by have hA := hB.add (.base (List.getElem_mem hil) hok) hnew; have := hreachL hA.reach hA.nodup; rw [List.length_append, List.length_singleton] at this; omega) ⟨rfl, rfl, rfl⟩ fun qv' qb' w8 hR8 => ?_
        exact fin _ _ _ _ hR8 (hB.add (.base (List.getElem_mem hil) hok) hnew)
      · rename_i hold
        have hold : start[i] ∈ S := by simpa using hold
        exact fin _ _ _ _ hR5 (hB.skip fun _ => hold)
    · intro g
      rw [pickS_eq, hok, cond_false, ifB_eq, if_neg (by simp)]
      exact fin _ _ _ _ hR5 (hB.skip fun h => by rw [hok] at h; cases h)
  · have : i = start.length := by omega
    subst this
    rw [List.take_length] at hB
    have hstartS := hB.partly
    have hB' : Bfs (fun p => pixel W H px p.1 p.2) e start S (S.drop 0) [] [] := ⟨hB.reach, hB.nodup, hB.waits, hB.closed, by simp⟩
    refine l03Steps_c fun tv tb w5 he5 htb ht5 => ?_
    have hqlt := hR.ql.lt
    have hR5 : RS W H w w5 rb (.slice none 0 0) tv (steps e) tb v qb sv sc S S := by
      have := hR.step he5
      exact ⟨this.ext, this.hr, this.hq, this.hs, by omega, this.cell, ht5, this.ql, this.sl⟩
    have hst4 : (steps e).length ≤ 8 := by cases e <;> decide
    refine loopS_i (fun s w' => ∃ (v : Value) (i : Nat) (qb : Nat) (S : List (Int × Int)), s = [v, i64 i] ∧ i ≤ S.length ∧ RS W H w w' rb (.slice none 0 0) tv (steps e) tb v qb sv sc S S ∧ Bfs (fun p => pixel W H px p.1 p.2) e start S (S.drop i) [] [] ∧ ∀ q ∈ start, pixel W H px q.1 q.2 = true → q ∈ S) (fun s _ => W * H - (intOf (nth s 1)).toNat)
      ⟨v, 0, qb, S, rfl, by omega, hR5, hB', hstartS⟩ ?_
    clear hB hB' hstartS hR hR5 hlt hi ht5 htb hqlt
    rintro g s w6 ⟨v, i, qb, S, rfl, hi, hR, hB, hst⟩
    rw [nth1, nth0]
    refine spots_len_i rfl hR.ql ?_
    refine lss_i (ifB_i (fun hlt => ?_) (fun hlt => ?_))
    · have hil : i < S.length := by omega
      have hSn := hreachL hB.reach hB.nodup
      refine loopS_i (fun s w' => ∃ (v : Value) (k : Nat) (qb : Nat) (S' : List (Int × Int)), s = [v, i64 k] ∧ k ≤ (steps e).length ∧ i < S'.length ∧ S'[i]? = some S[i] ∧ RS W H w w' rb (.slice none 0 0) tv (steps e) tb v qb sv sc S' S' ∧
          Bfs (fun p => pixel W H px p.1 p.2) e start S' (S'.drop i) [S[i]] (((steps e).take k).map fun d => (S[i].1 + d.1, S[i].2 + d.2)) ∧ ∀ q ∈ start, pixel W H px q.1 q.2 = true → q ∈ S') (fun s _ => (steps e).length - (intOf (nth s 1)).toNat)
        ⟨v, 0, qb, S, rfl, by omega, hil, by simp [hil], hR, by rw [List.drop_eq_getElem_cons hil] at hB ⊢; exact hB.take, hst⟩ ?_
      clear hR hB hst
      rintro g' s' w7 ⟨v, k, qb, S', rfl, hk, hiS, hSi, hR, hB, hst⟩
      rw [nth1, nth0]
      have hhB : Reach (fun p => pixel W H px p.1 p.2) e start S[i] := hB.reach _ (List.mem_of_getElem? hSi)
      have hhok : pixel W H px S[i].1 S[i].2 = true := by cases hhB with | base _ ho => exact ho | step _ _ ho => exact ho
      have hhin := pixel_true hhok
      refine spots_len_i rfl hR.al ?_
      refine lss_i (ifB_i (fun hlt2 => ?_) (fun hlt2 => ?_))
      · have hkl : k < (steps e).length := by omega
        have hgk : (steps e)[((k : Nat) : Int).toNat]? = some (steps e)[k] := by simp [hkl]
        have hgi : S'[((i : Nat) : Int).toNat]? = some S[i] := by simpa using hSi
        have hbdd := steps_bd e _ (List.getElem_mem hkl)
        have htk : ((steps e).take (k + 1)).map (fun d => (S[i].1 + d.1, S[i].2 + d.2)) = ((steps e).take k).map (fun d => (S[i].1 + d.1, S[i].2 + d.2)) ++ [(S[i].1 + (steps e)[k].1, S[i].2 + (steps e)[k].2)] := by
          rw [List.take_succ_eq_append_getElem hkl, List.map_append]; rfl
        refine joinS_k fun J hJ => ?_
        have fin : ∀ v' w' qb' S'', i < S''.length → S''[i]? = some S[i] → (∀ q ∈ S', q ∈ S'') → RS W H w w' rb (.slice none 0 0) tv (steps e) tb v' qb' sv sc S'' S'' → Bfs (fun p => pixel W H px p.1 p.2) e start S'' (S''.drop i) [S[i]] (((steps e).take k).map (fun d => (S[i].1 + d.1, S[i].2 + d.2)) ++ [(S[i].1 + (steps e)[k].1, S[i].2 + (steps e)[k].2)]) → J [v'] w' := by
          intro v' w' qb' S'' h1 h2 h3 h4 h5
          refine hJ _ _ fun _ => ?_
          refine add_i (.of (by omega) (by omega)) ?_
          rw [nth0]
          refine ⟨⟨v', k + 1, qb', S'', rfl, by omega, h1, h2, h4, by rw [htk]; exact h5, fun q hq ho => h3 q (hst q hq ho)⟩, ?_⟩
          simp only [nth1, intOf]; omega
        refine drawS_i ?_
        have hR8 := hR.step (Same.drew w7).ext
        refine spotX_i ⟨rfl, rfl, rfl⟩ hR8.ql (by omega) hgi ?_
        refine spotX_i ⟨rfl, rfl, rfl⟩ hR8.al (by omega) hgk ?_
        refine add_i (.of (by omega) (by omega)) ?_
        refine drawS_i ?_
        have hR9 := hR8.step (Same.drew w7.drew).ext
        refine spotY_i ⟨rfl, rfl, rfl⟩ hR9.ql (by omega) hgi ?_
        refine spotY_i ⟨rfl, rfl, rfl⟩ hR9.al (by omega) hgk ?_
        refine add_i (.of (by omega) (by omega)) ?_
        refine l01Black_c (h.ext hR9.ext) ?_
        rw [joinS_eq]
        refine ifG_t (fun hok => ?_) (fun hok => ?_)
        · have hin := pixel_true hok
          have hbd := hmulI hin
          have hreach : Reach (fun p => pixel W H px p.1 p.2) e start (S[i].1 + (steps e)[k].1, S[i].2 + (steps e)[k].2) := .step hhB (steps_mem e _ _ (List.getElem_mem hkl)) hok
          refine mul_i (.of (by omega) (by omega)) ?_
          refine add_i (.of (by omega) (by omega)) ?_
          refine rs_get hR9 hin ⟨rfl, rfl⟩ ?_
          refine not_i ?_
          intro g
          rw [pickS_eq, nth0, hok, cond_true, ifB_eq]
          split
          · rename_i hnew
            have hnew : (S[i].1 + (steps e)[k].1, S[i].2 + (steps e)[k].2) ∉ S' := by simpa using hnew
            refine mul_i (.of (by omega) (by omega)) ?_
            refine add_i (.of (by omega) (by omega)) ?_
            refine rs_put hR9 hin ⟨rfl, rfl⟩ fun w10 hR10 => ?_
            refine build_i rfl rfl ?_
            refine rs_app (q := (S[i].1 + (steps e)[k].1, S[i].2 + (steps e)[k].2)) hR10 (by have hA := hB.add hreach hnew; have := hreachL hA.reach hA.nodup; rw [List.length_append, List.length_singleton] at this; omega) ⟨rfl, rfl, rfl⟩ fun qv' qb' w11 hR11 => ?_
            refine fin _ _ _ _ (by rw [List.length_append]; omega) (by rw [List.getElem?_append_left hiS]; exact hSi) (fun q hq => List.mem_append_left _ hq) hR11 ?_
            have := hB.add hreach hnew
            rwa [← List.drop_append_of_le_length (by omega)] at this
          · rename_i hold
            have hold : (S[i].1 + (steps e)[k].1, S[i].2 + (steps e)[k].2) ∈ S' := by simpa using hold
            exact fin _ _ _ _ hiS hSi (fun q hq => hq) hR9 (hB.skip fun _ => hold)
        · intro g
          rw [pickS_eq, hok, cond_false, ifB_eq, if_neg (by simp)]
          exact fin _ _ _ _ hiS hSi (fun q hq => hq) hR9 (hB.skip fun h => by rw [hok] at h; cases h)
      · have : k = (steps e).length := by omega
        subst this
        rw [List.take_length] at hB
        have hSn' := hreachL hB.reach hB.nodup
        refine add_i (.of (by omega) (by omega)) ?_
        refine ⟨⟨v, i + 1, qb, S', rfl, by omega, hR, ?_, hst⟩, ?_⟩
        · have hSi' : S'[i] = S[i] := by rw [List.getElem?_eq_getElem hiS] at hSi; exact Option.some.inj hSi
          rw [List.drop_eq_getElem_cons hiS, hSi'] at hB
          exact Bfs.leave ⟨hB.reach, hB.nodup, hB.waits, hB.closed, fun q hq => hB.partly q (mem_steps e _ _ hq)⟩
        · simp only [nth1, intOf]; omega
    · have : i = S.length := by omega
      subst this
      rw [List.drop_length] at hB
      refine l01Make_c hR.sl (maskOf_len W H S) hb.1 hb.2.2.1 hb.2.1 hb.2.2.2.1 fun v' c w7 he7 hc hP => ?_
      have hR7 := hR.step he7
      have hs := hR.ext.size
      have hrlt := lt_of_at hR.cell
      refine outP_i rfl hR7.cell hP (by omega) fun w8 hm hP8 => ?_
      exact hK S v' c w8 hB.nodup (hB.done hst) (hR7.ext.own hm hR.hr) (by omega) hP8
end Go.Proofs.Ytnpkcdegckfjeaa
