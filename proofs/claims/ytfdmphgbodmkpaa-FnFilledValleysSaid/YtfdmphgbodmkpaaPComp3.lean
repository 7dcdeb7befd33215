/- Plain law, continued: the grid; the list of valleys that last. -/
import Derived.Test.YtfdmphgbodmkpaaPComp2
import Derived.Test.YtfdmphgbodmkpaaCPairs
set_option linter.unusedVariables false
set_option linter.unusedSimpArgs false
namespace Go.Proofs.Ytfdmphgbodmkpaa
open Go Go.SL

theorem mem4 {p r : Int × Int} : r ∈ nbrs false p ↔ (r.1 = p.1 ∧ r.2 = p.2 - 1) ∨ (r.1 = p.1 - 1 ∧ r.2 = p.2) ∨ (r.1 = p.1 + 1 ∧ r.2 = p.2) ∨ (r.1 = p.1 ∧ r.2 = p.2 + 1) := by
  obtain ⟨a, b⟩ := p
  obtain ⟨c, d⟩ := r
  rw [nbrs_steps]
  simp only [steps, List.map_cons, List.map_append, List.mem_append, List.mem_cons, Prod.mk.injEq, Bool.false_eq_true, if_false, List.map_nil, List.not_mem_nil, or_false]
  constructor
  · rintro (⟨rfl, rfl⟩ | ⟨rfl, rfl⟩ | ⟨rfl, rfl⟩ | ⟨rfl, rfl⟩) <;> omega
  · intro h; omega
theorem near_iff {W H i j : Nat} (hW : 0 < W) : j ∈ near W H i ↔ j < W * H ∧ sp W j ∈ nbrs false (sp W i) := by
  unfold near
  rw [List.mem_map]
  constructor
  · rintro ⟨p, hp, rfl⟩
    obtain ⟨h1, h2⟩ := List.mem_filter.1 hp
    exact ⟨idx2_lt h2, by rw [sp_idx2 h2]; exact h1⟩
  · rintro ⟨h1, h2⟩
    exact ⟨sp W j, List.mem_filter.2 ⟨h2, inB_sp hW h1⟩, idx2_sp⟩
theorem near_symm {W H : Nat} (hW : 0 < W) : ∀ a b, a < W * H → b < W * H → b ∈ near W H a → a ∈ near W H b := by
  intro a b ha hb h
  rw [near_iff hW] at h ⊢
  refine ⟨ha, ?_⟩
  have h := h.2
  rw [mem4] at h ⊢
  omega
theorem grid_con {W H : Nat} (hW : 0 < W) : ∀ q, q < W * H → Con (near W H) (· < W * H) 0 q := by
  intro q
  induction q using Nat.strongRecOn with
  | ind q ih =>
    intro hq
    rcases Nat.eq_zero_or_pos q with rfl | h0
    · exact .base hq
    · obtain ⟨x, y, hx, rfl⟩ : ∃ x y, x < W ∧ q = y * W + x := ⟨q % W, q / W, Nat.mod_lt q hW, by rw [Nat.mul_comm]; exact (Nat.div_add_mod q W).symm⟩
      rcases Nat.eq_zero_or_pos x with rfl | hx0
      · have hy : 0 < y := by
          rcases Nat.eq_zero_or_pos y with rfl | k
          · simp at h0
          · exact k
        have e : y * W + 0 = (y - 1) * W + 0 + W := by
          obtain ⟨z, rfl⟩ : ∃ z, y = z + 1 := ⟨y - 1, by omega⟩
          rw [Nat.add_sub_cancel, Nat.add_mul, Nat.one_mul]; omega
        refine .step (ih ((y - 1) * W + 0) (by omega) (by omega)) ?_ hq
        have s1 : sp W ((y - 1) * W + 0) = (((0 : Nat) : Int), ((y - 1 : Nat) : Int)) := sp_sq hx
        have s2 : sp W (y * W + 0) = (((0 : Nat) : Int), (y : Int)) := sp_sq hx
        rw [near_iff hW, mem4, s1, s2]
        exact ⟨hq, .inr (.inr (.inr ⟨rfl, by simp only; omega⟩))⟩
      · refine .step (ih (y * W + (x - 1)) (by omega) (by omega)) ?_ hq
        have s1 : sp W (y * W + (x - 1)) = (((x - 1 : Nat) : Int), (y : Int)) := sp_sq (by omega)
        have s2 : sp W (y * W + x) = ((x : Int), (y : Int)) := sp_sq hx
        rw [near_iff hW, mem4, s1, s2]
        exact ⟨hq, .inr (.inr (.inl ⟨by simp only; omega, rfl⟩))⟩
theorem grid_con2 {W H : Nat} (hW : 0 < W) {p q : Nat} (hp : p < W * H) (hq : q < W * H) : Con (near W H) (· < W * H) p q :=
  (Con.symm (near_symm hW) (grid_con hW p hp)).trans (grid_con hW q hq)
theorem comps_one {W H : Nat} (hW : 0 < W) (hH : 0 < H) : comps (near W H) (W * H) (· < W * H) = 1 := by
  have hN : 0 < W * H := Nat.mul_pos hW hH
  unfold comps
  have : (List.range (W * H)).filter (fun q => @decide (q < W * H ∧ ∀ p, p < q → p < W * H → ¬ Con (near W H) (· < W * H) p q) (Classical.propDecidable _)) = [0] := by
    obtain ⟨n, hn⟩ : ∃ n, W * H = n + 1 := ⟨W * H - 1, by omega⟩
    have e : List.range (W * H) = 0 :: (List.range n).map Nat.succ := by rw [hn, List.range_succ_eq_map]
    rw [e, List.filter_cons_of_pos (by simp only [decide_eq_true_eq]; exact ⟨hN, fun p hp => by omega⟩)]
    congr 1
    rw [List.filter_eq_nil_iff]
    intro x hx
    obtain ⟨y, hy, rfl⟩ := List.mem_map.1 hx
    simp only [decide_eq_true_eq]
    intro h
    exact h.2 0 (by omega) hN (grid_con hW _ h.1)
  rw [this]; rfl

/-- All valleys of a grey picture. -/
abbrev endV (W H : Nat) (num : Nat → Int) : VSt := runV num (near W H) (ordK (W * H) num 100 0)
structure ListOk (W H : Nat) (num : Nat → Int) (vs : List (Int × Nat × Int)) : Prop where
  pos : 0 < vs.length
  born : ∀ (v : Nat) (e : Int × Nat × Int), vs[v]? = some e → e.1 = num e.2.1 ∧ e.2.1 < W * H
  first : ∀ (v : Nat) (e : Int × Nat × Int), vs[v]? = some e → (v = 0 ↔ e.2.2 = -1)
  up : ∀ (v : Nat) (e : Int × Nat × Int), vs[v]? = some e → e.2.2 = -1 ∨ e.1 ≤ e.2.2
theorem all_inv {W H : Nat} {num : Nat → Int} (hW : 0 < W) (hn : ∀ q, 0 ≤ num q ∧ num q ≤ 99) : Inv2 num (near W H) (ordK (W * H) num 100 0) (endV W H num) ∧ ∀ q, q ∈ ordK (W * H) num 100 0 ↔ q < W * H := by
  have hm : ∀ q, q ∈ ordK (W * H) num 100 0 ↔ q < W * H := fun q => by
    have := hn q
    rw [ordK_mem]
    constructor
    · rintro (k | k)
      · exact k.1
      · omega
    · intro k; exact .inl ⟨k, this.1, by omega⟩
  exact ⟨inv2_run (fun a b ha hb => near_symm hW a b ((hm a).1 ha) ((hm b).1 hb)) (ordK_nodup ..) (fun q _ => (hn q).1), hm⟩
theorem all_ok {W H : Nat} {num : Nat → Int} (hW : 0 < W) (hH : 0 < H) (hn : ∀ q, 0 ≤ num q ∧ num q ≤ 99) : ListOk W H num (endV W H num).vs := by
  obtain ⟨hi, hm⟩ := all_inv (W := W) (H := H) hW hn
  have hN : 0 < W * H := Nat.mul_pos hW hH
  have hne : ordK (W * H) num 100 0 ≠ [] := fun e => by
    have := (hm 0).2 hN
    rw [e] at this; cases this
  obtain ⟨q0, hq0⟩ := hi.zero hne
  have all0 : ∀ q v, (endV W H num).of q = some v → v = 0 := fun q v hv => by
    have h1 := hi.mem hv
    have h2 := hi.mem hq0
    have := (hi.con q q0 h1 h2).2 ((Con.congr (nr := near W H) hm).2 (grid_con2 hW ((hm q).1 h1) ((hm q0).1 h2)))
    rw [hv, hq0] at this
    exact Option.some.inj this
  refine ⟨hi.lt q0 0 hq0 |> fun h => by omega, fun v e he => ⟨(hi.born v e he).1, (hm _).1 (hi.born v e he).2⟩, fun v e he => ?_, fun v e he => ?_⟩
  · rw [hi.alive v e he]
    constructor
    · rintro rfl; exact ⟨q0, hq0⟩
    · rintro ⟨q, hq⟩; exact all0 q v hq
  · exact (vs_ok (ordK_sorted (W * H) num 100 0) (fun x _ => (hn x).1) e (List.mem_of_getElem? he)).2.1

theorem lastL_cons (e : Int × Nat × Int) (vs : List (Int × Nat × Int)) : lastL (e :: vs) = (if e.2.2 ≠ e.1 then [[e.1, (e.2.1 : Int), e.2.2]] else []) ++ lastL vs := by
  unfold lastL
  by_cases h : e.2.2 ≠ e.1
  · rw [List.filter_cons_of_pos (by simpa using h), if_pos h]; rfl
  · rw [List.filter_cons_of_neg (by simpa using h), if_neg h]; rfl
def aliveL (lv : Int) (l : List Int) : Bool := decide (l.getD 0 0 ≤ lv ∧ (l.getD 2 0 = -1 ∨ lv < l.getD 2 0))
theorem lastL_count {vs : List (Int × Nat × Int)} {lv : Int} (h0 : ∀ e ∈ vs, 0 ≤ e.1) : (lastL vs).countP (aliveL lv) = vs.countP (aliveB lv) := by
  induction vs with
  | nil => rfl
  | cons e vs ih =>
    have he := h0 e (List.mem_cons_self ..)
    rw [lastL_cons, List.countP_append, ih fun e' h' => h0 e' (List.mem_cons_of_mem _ h'), List.countP_cons]
    by_cases h : e.2.2 ≠ e.1
    · rw [if_pos h, List.countP_cons, List.countP_nil]
      unfold aliveB aliveL
      simp only [List.getD_cons_zero, List.getD_cons_succ, decide_eq_true_eq]
      omega
    · rw [if_neg h, List.countP_nil]
      unfold aliveB
      simp only [decide_eq_true_eq]
      have h : e.2.2 = e.1 := Decidable.not_not.1 h
      rw [if_neg (by omega)]; omega
theorem mem_lastL {vs : List (Int × Nat × Int)} {l : List Int} (h : l ∈ lastL vs) : ∃ e ∈ vs, e.2.2 ≠ e.1 ∧ l = [e.1, (e.2.1 : Int), e.2.2] := by
  unfold lastL at h
  obtain ⟨e, h1, rfl⟩ := List.mem_map.1 h
  obtain ⟨h2, h3⟩ := List.mem_filter.1 h1
  exact ⟨e, h2, by simpa using h3, rfl⟩
theorem lastL_mem {vs : List (Int × Nat × Int)} {W H : Nat} {num : Nat → Int} (h : ListOk W H num vs) (h0 : ∀ q, 0 ≤ num q) : lastL vs ≠ [] ∧ ∀ (j : Nat) (l : List Int), (lastL vs)[j]? = some l → ∃ (b : Int) (p : Nat) (d : Int), l = [b, (p : Int), d] ∧ b = num p ∧ p < W * H ∧ (j = 0 ↔ d = -1) ∧ (0 < j → b < d) := by
  obtain ⟨e0, rest, rfl⟩ : ∃ e0 rest, vs = e0 :: rest := by
    cases vs with
    | nil => have := h.pos; simp at this
    | cons a b => exact ⟨a, b, rfl⟩
  have hb0 := h.born 0 e0 rfl
  have hf0 := (h.first 0 e0 rfl).1 rfl
  have hp0 := h0 e0.2.1
  rw [lastL_cons, if_pos (by omega)]
  refine ⟨by simp, fun j l hj => ?_⟩
  match j, hj with
  | 0, hj =>
    simp only [List.cons_append, List.nil_append, List.getElem?_cons_zero, Option.some.injEq] at hj
    exact ⟨e0.1, e0.2.1, e0.2.2, hj.symm, hb0.1, hb0.2, ⟨fun _ => hf0, fun _ => rfl⟩, fun h => by omega⟩
  | j + 1, hj =>
    have hj : (lastL rest)[j]? = some l := by simpa using hj
    obtain ⟨e, h1, h2, rfl⟩ := mem_lastL (List.mem_of_getElem? hj)
    obtain ⟨v, hv⟩ := List.getElem?_of_mem h1
    have hv' : (e0 :: rest)[v + 1]? = some e := by simpa using hv
    have hb := h.born _ e hv'
    have hf := h.first _ e hv'
    have hu := h.up _ e hv'
    have hd : e.2.2 ≠ -1 := fun k => by have := hf.2 k; omega
    exact ⟨e.1, e.2.1, e.2.2, rfl, hb.1, hb.2, ⟨fun k => by omega, fun k => absurd k hd⟩, fun _ => by omega⟩
end Go.Proofs.Ytfdmphgbodmkpaa
