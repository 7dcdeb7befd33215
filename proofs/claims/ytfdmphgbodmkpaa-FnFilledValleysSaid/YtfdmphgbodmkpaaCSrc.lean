/- Contracts of the source of drawn numbers; a drawn grey picture. -/
import Derived.Test.YtfdmphgbodmkpaaCFill
import Derived.Test.YtfdmphgbodmkpaaPrim12
set_option linter.unusedVariables false
set_option linter.unusedSimpArgs false
namespace Go.Proofs.Ytfdmphgbodmkpaa
open Go Go.SL Go.RowKit
set_option maxRecDepth 100000

/-- An argument of bytes. -/
def ArgB (w : World) (u : Value) (l : List Int) : Prop := (∃ a c, u = .slice a 0 c ∧ l = []) ∨ ∃ b o c, u = sl b o l.length c ∧ ∀ j, (hj : j < l.length) → ∃ cs E fz, w.heap[b]? = some (.cells cs E fz) ∧ cs[o + j]? = some (.int .u8 l[j]) ∧ 0 ≤ l[j] ∧ l[j] ≤ 255
theorem ArgB.ext {w w' : World} {u : Value} {l : List Int} (h : ArgB w u l) (he : Ext w w') : ArgB w' u l := by
  refine h.imp id fun ⟨b, o, c, h1, h2⟩ => ⟨b, o, c, h1, fun j hj => ?_⟩
  obtain ⟨cs, E, fz, q1, q2⟩ := h2 j hj
  exact ⟨cs, E, fz, he.at_ q1, q2⟩
section
variable {w : World} {u : Value} {l : List Int}
theorem ArgB.one (h : ArgB w u l) : SL.one u = true := by
  rcases h with ⟨a, c, rfl, _⟩ | ⟨b, o, c, rfl, _⟩ <;> rfl
theorem argB_len {T ty : TypeId} {K : Value → Prop} (hT : T = ty_Suint8) (h : ArgB w u l) (hK : K (i64 l.length)) : rd Pg (Builtin.len_ #[T] ty #[u]) w K := by
  subst hT
  rcases h with ⟨a, c, rfl, rfl⟩ | ⟨b, o, c, rfl, h⟩
  · exact lenS_i (T := ty_Suint8) rfl hK
  · exact lenS_i (T := ty_Suint8) rfl hK
theorem argB_get {y : Int} {T1 T2 : TypeId} {K : Value → Prop} (hT : T1 = ty_Suint8 ∧ T2 = ty_uint8) (h : ArgB w u l) (h0 : 0 ≤ y) (hy : y < l.length) (hK : ∀ n : Int, 0 ≤ n → n ≤ 255 → K (.int .u8 n)) :
    pur Pg (Instr.indexAt T1 u (i64 y)) fun t => rd Pg (Instr.loadAt T2 t) w K := by
  obtain ⟨rfl, rfl⟩ := hT
  obtain ⟨j, rfl⟩ : ∃ j : Nat, y = (j : Int) := ⟨y.toNat, by omega⟩
  have hj : j < l.length := by omega
  rcases h with ⟨a, c, rfl, rfl⟩ | ⟨b, o, c, rfl, h⟩
  · simp at hj
  · obtain ⟨cs, E, fz, q1, q2, q3, q4⟩ := h j hj
    refine idx_i (size := 1) rfl (by omega) (by omega) ?_
    exact ld_i (by kernel_rfl) q1 (by rw [Int.toNat_natCast, Nat.mul_one]; exact q2) (hK _ q3 q4)
end
theorem b10Long_c {w : World} {u v : Value} {l m : List Int} {K : Value → World → Prop} (h : ArgB w u l) (k : ArgB w v m) (hK : ∀ b : Bool, (b = false → l.length ≤ 1048576 ∧ m.length ≤ 1048576) → K (.bool b) w) : callS Pg n_laws_b10Long #[u, v] w K := by
  refine call_laws_b10Long _ _ _ _ ?_
  unfold S_laws_b10Long
  refine argB_len rfl h ?_
  refine gtr_i ?_
  rw [joinS_eq]
  by_cases h1 : (l.length : Int) > 1048576
  · rw [decide_eq_true h1, ifG_eq_f, if_pos rfl]
    intro g
    rw [pickS_eq, cond_true]
    exact hK true (by simp)
  · rw [decide_eq_false h1, ifG_eq_f, if_neg (by simp)]
    refine argB_len rfl k ?_
    refine gtr_i ?_
    intro g
    rw [pickS_eq, cond_false, nth0]
    exact hK _ fun h2 => ⟨by omega, by have := of_decide_eq_false h2; omega⟩

/-- The source: at its block, over bytes, at a place. -/
structure Src (w0 w : World) (sp : Nat) (l : List Int) (n : Nat) : Prop where
  ext : Ext w0 w
  old : w0.heap.size ≤ sp
  ex : ∃ cv seed, w.heap[sp]? = some (row #[cv, i64 (n : Int), .int .u64 seed] ty_spec_l00Src) ∧ ArgB w0 cv l
theorem Src.step {w0 w w' : World} {sp : Nat} {l : List Int} {n : Nat} (h : Src w0 w sp l n) (he : Ext w w') : Src w0 w' sp l n := by
  obtain ⟨cv, seed, h1, h2⟩ := h.ex
  exact ⟨h.ext.trans he, h.old, cv, seed, he.at_ h1, h2⟩
theorem Src.mod {S : Nat → Prop} {w0 w w' : World} {sp : Nat} {l : List Int} {n : Nat} (h : Src w0 w sp l n) (hm : Mod S w w') (hs : ¬ S sp) (hS : ∀ b, S b → w0.heap.size ≤ b) : Src w0 w' sp l n := by
  obtain ⟨cv, seed, h1, h2⟩ := h.ex
  exact ⟨h.ext.comp hm (fun _ _ h => h) fun i hi e => by have := hS i e; omega, h.old, cv, seed, hm.at_ h1 hs, h2⟩

theorem from_c {w : World} {u : Value} {l : List Int} {K : Value → World → Prop} (h : ArgB w u l) (hK : ∀ sp w', Src w w' sp l 0 → K (ptr sp 0) w') : callS Pg n_l00From #[u] w K := by
  refine call_l00From _ _ _ ?_
  unfold S_l00From
  have h1 := h.one
  have hb : pur Pg (Instr.build ty_spec_l00Src #[(0, u)]) fun t => eff Pg (Instr.box ty_spec_l00Src t) w fun t w => K t w := by
    refine build_i (cells := #[u, i64 0, .int .u64 0]) rfl ?_ ?_
    · rcases h with ⟨a, c, rfl, _⟩ | ⟨b, o, c, rfl, _⟩ <;> rfl
    · refine box_i fun sp w1 g1 => ?_
      exact hK sp w1 ⟨g1.ext, g1.old, u, 0, g1.at_, h⟩
  exact hb

theorem next_c {w0 w : World} {sp n : Nat} {l : List Int} {K : Value → World → Prop} (h : Src w0 w sp l n) (hn : n ≤ 1000000000) (hl : l.length ≤ 1048576) (hK : ∀ (x : Int) w', 0 ≤ x → x ≤ 255 → Mod (· = sp) w w' → Src w0 w' sp l (n + 1) → K (i64 x) w') : callS Pg n_l00Src_next #[ptr sp 0] w K := by
  refine call_l00Src_next _ _ _ ?_
  unfold S_l00Src_next
  obtain ⟨cv, seed, hc, hA⟩ := h.ex
  have ho := h.old
  refine joinS_k fun J hJ => ?_
  have fin : ∀ (x : Int) w', Mod (fun _ => False) w w' → 0 ≤ x → x ≤ 255 → J [i64 x] w' := by
    intro x w1 he hx0 hx1
    have hc1 := he.at_ hc (fun h => h)
    have hE1 := h.ext.trans he
    refine hJ _ _ fun g => ?_
    refine nilS_i (fldi_i (by kernel_rfl) (ld_i (by kernel_rfl) hc1 rfl ?_))
    refine add_i (.of (by omega) (by omega)) ?_
    refine nilS_i (fldi_i (by kernel_rfl) ?_)
    refine st_i (by kernel_rfl) rfl hc1 (by show 0 + 1 < 3; omega) ?_
    have hm2 := setAt_mod w1 sp (row ((#[cv, i64 (n : Int), .int .u64 seed] : Array Value).setIfInBounds (0 + 1) (i64 ((n : Int) + 1))) ty_spec_l00Src)
    have hc2 := setAt_at w1 (lt_of_at hc1) (row ((#[cv, i64 (n : Int), .int .u64 seed] : Array Value).setIfInBounds (0 + 1) (i64 ((n : Int) + 1))) ty_spec_l00Src)
    generalize setAt w1 sp _ = w2 at hm2 hc2 ⊢
    have hc2 : w2.heap[sp]? = some (row #[cv, i64 ((n : Int) + 1), .int .u64 seed] ty_spec_l00Src) := hc2
    refine nilS_i (fldi_i (by kernel_rfl) (ld_i (by kernel_rfl) hc2 rfl ?_))
    refine mulW_i ?_
    rw [nth0]
    refine conv_i (by kernel_rfl) (kd := .u64) (by kernel_rfl) ?_
    refine addW_i (addW_i ?_)
    generalize IntKind.u64.wrap (IntKind.u64.wrap (IntKind.u64.wrap (seed * 6364136223846793005) + IntKind.u64.wrap x) + 1442695040888963407) = seed'
    refine nilS_i (fldi_i (by kernel_rfl) ?_)
    refine st_i (by kernel_rfl) rfl hc2 (by show 0 + 2 < 3; omega) ?_
    have hm3 := setAt_mod w2 sp (row ((#[cv, i64 ((n : Int) + 1), .int .u64 seed] : Array Value).setIfInBounds (0 + 2) (.int .u64 seed')) ty_spec_l00Src)
    have hc3 := setAt_at w2 (lt_of_at hc2) (row ((#[cv, i64 ((n : Int) + 1), .int .u64 seed] : Array Value).setIfInBounds (0 + 2) (.int .u64 seed')) ty_spec_l00Src)
    generalize setAt w2 sp _ = w3 at hm3 hc3 ⊢
    have hc3 : w3.heap[sp]? = some (row #[cv, i64 ((n : Int) + 1), .int .u64 seed'] ty_spec_l00Src) := hc3
    refine drawS_i ?_
    have hd := (Same.drew w3).ext
    have hc4 := hd.at_ hc3
    have hm : Mod (· = sp) w w3.drew := ((he.mono fun k _ e => e.elim).trans (hm2.trans hm3)).trans (hd.mono fun k _ e => e.elim)
    generalize w3.drew = w4 at hc4 hm ⊢
    have hS : Src w0 w4 sp l (n + 1) := ⟨h.ext.own hm ho, ho, cv, seed', by rw [show ((n + 1 : Nat) : Int) = (n : Int) + 1 by omega]; exact hc4, hA⟩
    refine nilS_i (fldi_i (by kernel_rfl) (ld_i (by kernel_rfl) hc4 rfl ?_))
    refine nilS_i (fldi_i (by kernel_rfl) (ld_i (by kernel_rfl) hc4 rfl ?_))
    refine argB_len rfl (hA.ext hS.ext) ?_
    refine leq_i (ifB_i (fun _ => hK x w4 hx0 hx1 hm hS) (fun _ => ?_))
    refine nilS_i (fldi_i (by kernel_rfl) (ld_i (by kernel_rfl) hc4 rfl ?_))
    refine shrW_i (by omega) ?_
    refine andW_i ⟨by omega, by omega⟩ fun y hy0 hy1 => ?_
    refine conv_i (by kernel_rfl) (kd := .i64) (by kernel_rfl) ?_
    rw [IntWalk.i64_in _ ⟨by omega, by omega⟩]
    exact hK y w4 hy0 hy1 hm hS
  refine drawS_i ?_
  have hd := (Same.drew w).ext
  have hc1 := hd.at_ hc
  have hE1 := h.ext.trans hd
  refine nilS_i (fldi_i (by kernel_rfl) (ld_i (by kernel_rfl) hc1 rfl ?_))
  refine nilS_i (fldi_i (by kernel_rfl) (ld_i (by kernel_rfl) hc1 rfl ?_))
  refine argB_len rfl (hA.ext hE1) ?_
  refine lss_i (ifB_i (fun hlt => ?_) (fun _ => fin 0 _ hd (by omega) (by omega)))
  refine drawS_i ?_
  have hd2 := hd.trans (Same.drew w.drew).ext
  have hc2 := hd2.at_ hc
  refine nilS_i (fldi_i (by kernel_rfl) (ld_i (by kernel_rfl) hc2 rfl ?_))
  refine nilS_i (fldi_i (by kernel_rfl) (ld_i (by kernel_rfl) hc2 rfl ?_))
  refine argB_get ⟨rfl, rfl⟩ (hA.ext (h.ext.trans hd2)) (by omega) hlt fun x hx0 hx1 => ?_
  refine conv_i (by kernel_rfl) (kd := .i64) (by kernel_rfl) ?_
  rw [IntWalk.i64_in _ ⟨by omega, by omega⟩]
  exact fin x _ hd2 hx0 hx1

theorem pick_c {w0 w : World} {sp n : Nat} {m : Int} {l : List Int} {K : Value → World → Prop} (h : Src w0 w sp l n) (hn : n ≤ 1000000000) (hl : l.length ≤ 1048576) (hm : 2 ≤ m ∧ m ≤ 200) (hK : ∀ (x : Int) w', 0 ≤ x → x < m → Mod (· = sp) w w' → Src w0 w' sp l (n + 1) → K (i64 x) w') : callS Pg n_l00Src_pick #[ptr sp 0, i64 m] w K := by
  refine call_l00Src_pick _ _ _ _ ?_
  unfold S_l00Src_pick
  refine leq_i (ifB_i (fun h1 => by omega) (fun _ => ?_))
  refine next_c h hn hl fun x w1 hx0 hx1 hm1 hS => ?_
  refine joinS_k fun J hJ => ?_
  refine gtr_i (ifB_i (fun h1 => by omega) (fun _ => ?_))
  refine hJ _ _ fun g => ?_
  rw [nth0]
  refine rem_i (by omega) ?_
  have e : x.tmod m = x % m := Int.tmod_eq_emod_of_nonneg hx0
  rw [e]
  exact hK _ w1 (Int.emod_nonneg _ (by omega)) (Int.emod_lt_of_pos _ (by omega)) hm1 hS
theorem one_c {w0 w : World} {sp n : Nat} {m : Int} {l : List Int} {K : Value → World → Prop} (h : Src w0 w sp l n) (hn : n ≤ 1000000000) (hl : l.length ≤ 1048576) (hm : 2 ≤ m ∧ m ≤ 200) (hK : ∀ (b : Bool) w', Mod (· = sp) w w' → Src w0 w' sp l (n + 1) → K (.bool b) w') : callS Pg n_l00Src_one #[ptr sp 0, i64 m] w K := by
  refine call_l00Src_one _ _ _ _ ?_
  unfold S_l00Src_one
  refine pick_c h hn hl hm fun x w1 _ _ hm1 hS => ?_
  exact eql_i (hK _ w1 hm1 hS)

theorem drawSized_c {w0 w : World} {sp n W H : Nat} {most : Int} {l : List Int} {K : Value → World → Prop} (h : Src w0 w sp l n) (hn : n ≤ 1000) (hl : l.length ≤ 1048576) (hW : 1 ≤ W ∧ W ≤ 16) (hH : 1 ≤ H ∧ H ≤ 16) (hm : 1 ≤ most ∧ most ≤ 99)
    (hK : ∀ v c rc num w', Ext w0 w' → Fresh w.heap.size c rc H → RR w' v (rect W H num) c rc → (∀ i, 0 ≤ num i ∧ num i ≤ most) → K (.agg #[v]) w') : callS Pg n_l07DrawSized #[ptr sp 0, i64 W, i64 H, i64 most] w K := by
  refine call_l07DrawSized _ _ _ _ _ _ ?_
  unfold S_l07DrawSized
  have ha : W * H ≤ 256 := Nat.mul_le_mul hW.2 hH.2
  refine alloc_i rfl fun ob w1 g1 => ?_
  refine sl1_nil (E := ty_int64) (by kernel_rfl) fun v0 b0 w2 he2 hb0 hv0 => ?_
  have hob : ∃ z, w2.heap[ob]? = some (row #[z] ty_impl_Grey) := ⟨_, he2.at_ g1.at_⟩
  have z0 := h.ext.size; have z1 := g1.ext.size; have o1 := g1.old; have z2 := he2.size
  have hsplt : sp < w.heap.size := by obtain ⟨cv, seed, hc, _⟩ := h.ex; exact lt_of_at hc
  have h2 := h.step (g1.ext.trans he2)
  refine one_c h2 (by omega) hl (by omega) fun calm w3 hm3 h3 => ?_
  have hv3 := hv0.mod hm3 (by omega)
  have hob3 : ∃ z, w3.heap[ob]? = some (row #[z] ty_impl_Grey) := by obtain ⟨z, hz⟩ := hob; exact ⟨z, hm3.at_ hz (by omega)⟩
  have z3 := hm3.size
  refine loopS_i (fun s w' => ∃ (v : Value) (k b d : Nat) (num : Nat → Int), s = [v, i64 k] ∧ k ≤ W * H ∧ d ≤ n + 1 + 2 * k ∧ Src w0 w' sp l d ∧ w.heap.size ≤ b ∧ b ≠ ob ∧ w3.heap.size ≤ w'.heap.size ∧ (∃ z, w'.heap[ob]? = some (row #[z] ty_impl_Grey)) ∧ Sl1 w' ty_int64 v ((tab k num).map i64) b ∧ ∀ i, 0 ≤ num i ∧ num i ≤ most) (fun s _ => W * H - (intOf (nth s 1)).toNat)
    ⟨v0, 0, b0, n + 1, fun _ => 0, rfl, by omega, by omega, h3, by omega, by have := lt_of_at g1.at_; omega, Nat.le_refl _, hob3, hv3, fun i => ⟨Int.le_refl 0, by show (0 : Int) ≤ most; omega⟩⟩ ?_
  clear hv3 hob3 hv0 hob
  rintro g s w4 ⟨v, k, b, d, num, rfl, hk, hd, hS, hb, hbo, hz, hob, hv, hnum⟩
  rw [nth0, nth1]
  refine mul_i (.of (by have : (W : Int) * H = ((W * H : Nat) : Int) := (Int.natCast_mul W H).symm; omega) (by have : (W : Int) * H = ((W * H : Nat) : Int) := (Int.natCast_mul W H).symm; omega)) ?_
  rw [← Int.natCast_mul]
  refine lss_i (ifB_i (fun hlt => ?_) (fun hlt => ?_))
  · have hkN : k < W * H := by omega
    refine add_i (.of (by omega) (by omega)) ?_
    refine pick_c hS (by omega) hl (by omega) fun x w5 hx0 hx1 hm5 hS5 => ?_
    have hspb : b ≠ sp := by omega
    have hv5 := hv.mod hm5 hspb
    have hob5 : ∃ z, w5.heap[ob]? = some (row #[z] ty_impl_Grey) := by obtain ⟨z, hz⟩ := hob; exact ⟨z, hm5.at_ hz (by omega)⟩
    have z5 := hm5.size
    refine joinS_k fun J hJ => ?_
    have fin : ∀ (y : Int) (d' : Nat) w', 0 ≤ y → y ≤ most → d' ≤ n + 1 + 2 * (k + 1) → Src w0 w' sp l d' → (∃ z, w'.heap[ob]? = some (row #[z] ty_impl_Grey)) → w3.heap.size ≤ w'.heap.size → Sl1 w' ty_int64 v ((tab k num).map i64) b → J [i64 y] w' := by
      intro y d' w' hy0 hy1 hd' hS' hob' hz' hv'
      refine hJ _ _ fun _ => ?_
      rw [nth0]
      refine sl1_app (E := ty_int64) (by kernel_rfl) rfl hv' (by rw [List.length_map, tab_len]; omega) fun v2 w6 b2 hor hm6 hv6 => ?_
      refine add_i (.of (by omega) (by omega)) ?_
      have z6 := hm6.size
      refine ⟨⟨v2, k + 1, b2, d', upd num k y, by simp, by omega, by omega, hS'.mod hm6 (fun e => hspb e.symm) (fun b' e => by subst e; omega), by rcases hor with rfl | h' <;> omega, ?_, by omega, ?_, ?_, fun i => ?_⟩, by simp only [nth1, intOf]; omega⟩
      · rcases hor with rfl | h'
        · exact hbo
        · obtain ⟨z, hz⟩ := hob'
          have := lt_of_at hz; omega
      · obtain ⟨z, hz⟩ := hob'; exact ⟨z, hm6.at_ hz (fun e => hbo e.symm)⟩
      · have e : (tab (k + 1) (upd num k y)).map i64 = (tab k num).map i64 ++ [i64 y] := by
          rw [tab_succ, List.map_append]
          congr 1
          · congr 1
            exact tab_congr fun q hq => by unfold upd; rw [if_neg (by omega)]
          · simp [upd]
        rw [e]; exact hv6
      · unfold upd
        split
        · exact ⟨hy0, hy1⟩
        · exact hnum i
    rw [joinS_eq]
    cases calm with
    | false =>
      rw [ifG_eq_t, if_neg (by simp)]
      intro g2
      rw [pickS_eq, cond_false, joinS_eq, ifG_eq_t, if_neg (by simp)]
      intro g3
      rw [pickS_eq, cond_false, ifB_eq, if_neg (by simp)]
      exact fin x (d + 1) w5 hx0 (by omega) (by omega) hS5 hob5 (by omega) hv5
    | true =>
      rw [ifG_eq_t, if_pos rfl]
      refine gtr_i ?_
      intro g2
      rw [pickS_eq, cond_true, nth0]
      by_cases hk0 : (k : Int) > 0
      · rw [decide_eq_true hk0, joinS_eq, ifG_eq_t, if_pos rfl]
        refine one_c hS5 (by omega) hl (by omega) fun bb w6 hm6 hS6 => ?_
        refine not_i ?_
        intro g3
        rw [pickS_eq, cond_true, nth0]
        have hv6 := hv5.mod hm6 hspb
        have hob6 : ∃ z, w6.heap[ob]? = some (row #[z] ty_impl_Grey) := by obtain ⟨z, hz⟩ := hob5; exact ⟨z, hm6.at_ hz (by omega)⟩
        have z6 := hm6.size
        refine ifB_b (fun _ => ?_) (fun _ => fin x (d + 1 + 1) w6 hx0 (by omega) (by omega) hS6 hob6 (by omega) hv6)
        refine sub_i (.of (by omega) (by omega)) ?_
        refine int_get ⟨rfl, rfl⟩ hv6 (by omega) (n := num (k - 1)) (by rw [show ((k : Int) - 1).toNat = k - 1 by omega]; exact tab_get (by omega)) ?_
        exact fin (num (k - 1)) (d + 1 + 1) w6 (hnum _).1 (hnum _).2 (by omega) hS6 hob6 (by omega) hv6
      · rw [decide_eq_false hk0, joinS_eq, ifG_eq_t, if_neg (by simp)]
        intro g3
        rw [pickS_eq, cond_false, ifB_eq, if_neg (by simp)]
        exact fin x (d + 1) w5 hx0 (by omega) (by omega) hS5 hob5 (by omega) hv5
  · have : k = W * H := by omega
    subst this
    refine l07Rows_c hv hW.1 hW.2 hH.2 fun rv c rc w5 he5 hF hr => ?_
    have hrv1 := hr.one
    obtain ⟨o, m, cp, hve⟩ : ∃ o m cp, rv = sl c o m cp := by
      obtain ⟨us, ⟨o, cp, e, _⟩, _⟩ := hr
      exact ⟨o, _, cp, e⟩
    subst hve
    refine build_i (cells := #[sl c o m cp]) rfl rfl ?_
    obtain ⟨z, hz4⟩ := hob
    have hz5 := he5.at_ hz4
    have hlt4 := lt_of_at hz4
    refine stn_i (n := 1) (by kernel_rfl) (by intro x hx; simp at hx; subst hx; exact hrv1) rfl hz5 (Nat.le_refl 1) ?_
    have hm6 := setAt_mod w5 ob (row (wr #[z] 0 [sl c o m cp]) ty_impl_Grey)
    refine resn_i (n := 1) (by kernel_rfl) (setAt_at _ (lt_of_at hz5) _) (Nat.le_refl 1) rfl ?_
    have hbF := hF.b
    refine hK _ c rc num _ ((hS.ext.trans he5).own hm6 (by omega)) ⟨by omega, fun y hy => by have := hF.r y hy; omega, hF.inj⟩ (hr.mod hm6 (by omega) fun y hy => by rw [rect_len] at hy; have := hF.r y hy; omega) hnum

theorem b10Grey_c {w : World} {u : Value} {l : List Int} {K : Value → World → Prop} (h : ArgB w u l) (hl : l.length ≤ 1048576)
    (hK : ∀ v c rc W H num w', Ext w w' → Fresh w.heap.size c rc H → RR w' v (rect W H num) c rc → 1 ≤ W → W ≤ 6 → 1 ≤ H → H ≤ 6 → (∀ i, 0 ≤ num i ∧ num i ≤ 8) → K (.agg #[v]) w') : callS Pg n_spec_B10Grey #[u] w K := by
  refine call_spec_B10Grey _ _ _ ?_
  unfold S_spec_B10Grey
  refine alloc_i rfl fun ob w1 g1 => ?_
  refine from_c (h.ext g1.ext) fun sp w2 hS2 => ?_
  refine pick_c hS2 (by omega) hl ⟨by omega, by omega⟩ fun x w3 hx0 hx1 hm3 hS3 => ?_
  refine add_i (.of (by omega) (by omega)) ?_
  refine pick_c hS3 (by omega) hl ⟨by omega, by omega⟩ fun y w4 hy0 hy1 hm4 hS4 => ?_
  refine add_i (.of (by omega) (by omega)) ?_
  refine pick_c hS4 (by omega) hl ⟨by omega, by omega⟩ fun m w5 hm0 hm1 hm5 hS5 => ?_
  refine add_i (.of (by omega) (by omega)) ?_
  obtain ⟨W, hW⟩ : ∃ W : Nat, 1 + x = (W : Int) := ⟨(1 + x).toNat, by omega⟩
  obtain ⟨H, hH⟩ : ∃ H : Nat, 1 + y = (H : Int) := ⟨(1 + y).toNat, by omega⟩
  rw [hW, hH]
  refine drawSized_c hS5 (by omega) hl ⟨by omega, by omega⟩ ⟨by omega, by omega⟩ ⟨by omega, by omega⟩ fun v c rc num w6 he6 hF hr hnum => ?_
  have hob := he6.at_ g1.at_
  have hv1 := hr.one
  have z1 := g1.ext.size; have o1 := g1.old; have l1 := lt_of_at g1.at_; have z5 := hS5.ext.size
  have hFb := hF.b
  refine stn_i (n := 1) (by kernel_rfl) (by intro x hx; simp at hx; subst hx; exact hv1) rfl hob (Nat.le_refl 1) ?_
  have hm7 := setAt_mod w6 ob (row (wr (Value.agg #[.slice none 0 0]).cells 0 [v]) ty_impl_Grey)
  refine resn_i (n := 1) (by kernel_rfl) (setAt_at _ (lt_of_at hob) _) (Nat.le_refl 1) rfl ?_
  refine hK v c rc W H num _ ((g1.ext.trans he6).own hm7 (by omega)) ⟨by omega, fun y hy => by have := hF.r y hy; omega, hF.inj⟩ (hr.mod hm7 (by omega) fun y hy => by rw [rect_len] at hy; have := hF.r y hy; omega) (by omega) (by omega) (by omega) (by omega) fun i => ⟨(hnum i).1, by have := (hnum i).2; omega⟩
end Go.Proofs.Ytfdmphgbodmkpaa
