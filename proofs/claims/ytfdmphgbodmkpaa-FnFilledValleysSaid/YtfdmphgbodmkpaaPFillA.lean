/- Plain law of filling. -/
import Derived.Test.YtfdmphgbodmkpaaPComp3
import Derived.Test.YtfdmphgbodmkpaaPFill
import Derived.Test.YtfdmphgbodmkpaaCFill2
set_option linter.unusedVariables false
set_option linter.unusedSimpArgs false
/- Plain law: the places that valleys had when they died. No program in sight. -/
namespace Go.Proofs.Ytfdmphgbodmkpaa
open Go Go.SL

theorem ltV_trans {num : Nat → Int} {a b c : Nat} (h : ltV num a b) (k : ltV num b c) : ltV num a c := by unfold ltV at *; omega
theorem ltV_irr {num : Nat → Int} {a : Nat} (h : ltV num a a) : False := by unfold ltV at h; omega
theorem ltV_tri {num : Nat → Int} (a b : Nat) : ltV num a b ∨ a = b ∨ ltV num b a := by unfold ltV; omega
def leV (num : Nat → Int) (a b : Nat) : Prop := b = a ∨ ltV num a b
theorem leV_trans {num : Nat → Int} {a b c : Nat} (h : leV num a b) (k : leV num b c) : leV num a c := by
  rcases h with rfl | h
  · exact k
  · rcases k with rfl | k
    · exact .inr h
    · exact .inr (ltV_trans h k)

/-- What holds of the places of the valleys when the places l, the first ones, have been added. -/
structure Inv3 (num : Nat → Int) (nr : Nat → List Nat) (N : Nat) (st : VSt) : Prop where
  ord : ∀ (v v' : Nat) (e e' : Int × Nat × Int), v < v' → st.vs[v]? = some e → st.vs[v']? = some e' → ltV num e.2.1 e'.2.1
  own : ∀ (v : Nat) (e : Int × Nat × Int), st.vs[v]? = some e → st.mem v e.2.1
  least : ∀ (v : Nat) (e : Int × Nat × Int) (q : Nat), st.vs[v]? = some e → st.mem v q → leV num e.2.1 q
  joined : ∀ (v : Nat) (e : Int × Nat × Int) (q : Nat), st.vs[v]? = some e → e.2.2 ≠ -1 → st.mem v q → Con nr (fun x => x < N ∧ num x ≤ e.2.2) e.2.1 q
  closed : ∀ (v : Nat) (e : Int × Nat × Int) (q r : Nat), st.vs[v]? = some e → e.2.2 ≠ -1 → st.mem v q → Con nr (fun x => x < N ∧ num x < e.2.2) q r → st.mem v r
section
variable {num : Nat → Int} {nr : Nat → List Nat} {N : Nat} {l : List Nat} {st : VSt} {i : Nat}
theorem Inv3.start : Inv3 num nr N startV where
  ord := fun v v' e e' _ h => by simp [startV] at h
  own := fun v e h => by simp [startV] at h
  least := fun v e q h => by simp [startV] at h
  joined := fun v e q h => by simp [startV] at h
  closed := fun v e q r h => by simp [startV] at h
theorem Inv3.step (h : Inv3 num nr N st) (h2 : Inv2 num nr l st) (hV : InvV st) (hlt : ∀ p ∈ l, ltV num p i) (hall : ∀ q, q < N → num q < num i → q ∈ l) (hN : ∀ q ∈ l, q < N) (hi : i ∉ l) (h0 : 0 ≤ num i) : Inv3 num nr N (stepV num nr st i) := by
  have hpl : ∀ {v : Nat} {e : Int × Nat × Int}, st.vs[v]? = some e → e.2.1 ∈ l := fun he => (h2.born _ _ he).2
  unfold stepV
  split
  · rename_i hR
    have key : ∀ {v : Nat} {e : Int × Nat × Int}, (addV (bornV num st i) st.vs.length i).vs[v]? = some e → (st.vs[v]? = some e ∧ v < st.vs.length) ∨ (v = st.vs.length ∧ e = (num i, i, -1)) := by
      intro v e he
      have he : (st.vs ++ [(num i, i, (-1 : Int))])[v]? = some e := he
      by_cases hvl : v < st.vs.length
      · rw [List.getElem?_append_left hvl] at he; exact .inl ⟨he, hvl⟩
      · have : v = st.vs.length := by
          have := (List.getElem?_eq_some_iff.1 he).1
          rw [List.length_append, List.length_singleton] at this; omega
        subst this
        rw [List.getElem?_append_right (Nat.le_refl _), Nat.sub_self, List.getElem?_cons_zero, Option.some.injEq] at he
        exact .inr ⟨rfl, he.symm⟩
    have memN : ∀ {q : Nat}, ¬ st.mem st.vs.length q := fun {q} hm => by have := hV.mlt _ _ hm; omega
    refine ⟨fun v v' e e' hv he he' => ?_, fun v e he => ?_, fun v e q he hm => ?_, fun v e q he hd hm => ?_, fun v e q r he hd hm hc => ?_⟩
    · rcases key he with ⟨k, kl⟩ | ⟨k1, k2⟩
      · rcases key he' with ⟨k', _⟩ | ⟨k1', k2'⟩
        · exact h.ord v v' e e' hv k k'
        · subst k2'; exact hlt _ (hpl k)
      · rcases key he' with ⟨k', kl'⟩ | ⟨k1', k2'⟩
        · omega
        · omega
    · rcases key he with ⟨k, _⟩ | ⟨rfl, rfl⟩
      · exact .inl (h.own v e k)
      · exact .inr ⟨rfl, rfl⟩
    · rcases key he with ⟨k, kl⟩ | ⟨rfl, rfl⟩
      · rcases hm with hm | ⟨e1, _⟩
        · exact h.least v e q k hm
        · omega
      · rcases hm with hm | ⟨_, rfl⟩
        · exact absurd hm memN
        · exact .inl rfl
    · rcases key he with ⟨k, kl⟩ | ⟨rfl, rfl⟩
      · rcases hm with hm | ⟨e1, _⟩
        · exact h.joined v e q k hd hm
        · omega
      · exact absurd rfl hd
    · rcases key he with ⟨k, kl⟩ | ⟨rfl, rfl⟩
      · rcases hm with hm | ⟨e1, _⟩
        · exact .inl (h.closed v e q r k hd hm hc)
        · omega
      · exact absurd rfl hd
  · rename_i hR
    obtain ⟨hs1, hs2⟩ := minL_mem hR
    have hRa : ∀ v, v ∈ roots st (nr i) → ∃ q, st.of q = some v := fun v hv => by
      obtain ⟨q, _, hq⟩ := roots_mem.1 hv
      exact ⟨q, hq⟩
    generalize minL (roots st (nr i)) = s at hs1 hs2
    generalize roots st (nr i) = R at hs1 hs2 hRa
    have key : ∀ {v : Nat} {e : Int × Nat × Int}, (addV (mergeV st s R (num i)) s i).vs[v]? = some e → ∃ e0, st.vs[v]? = some e0 ∧ e.1 = e0.1 ∧ e.2.1 = e0.2.1 ∧ ((v ∈ R ∧ v ≠ s ∧ e.2.2 = num i) ∨ (¬ (v ∈ R ∧ v ≠ s) ∧ e.2.2 = e0.2.2)) := by
      intro v e he
      have he : (st.vs.mapIdx fun v e => if v ∈ R ∧ v ≠ s then (e.1, e.2.1, num i) else e)[v]? = some e := he
      rw [List.getElem?_mapIdx] at he
      obtain ⟨e0, k1, k2⟩ := Option.map_eq_some_iff.1 he
      refine ⟨e0, k1, ?_⟩
      subst k2
      split
      · rename_i k; exact ⟨rfl, rfl, .inl ⟨k.1, k.2, rfl⟩⟩
      · rename_i k; exact ⟨rfl, rfl, .inr ⟨k, rfl⟩⟩
    -- the new members of a valley that is not s are its old ones
    have mem' : ∀ {v q : Nat}, v ≠ s → (addV (mergeV st s R (num i)) s i).mem v q → st.mem v q := by
      intro v q hv hm
      rcases hm with (hm | ⟨e1, _⟩) | ⟨e1, _⟩
      · exact hm
      · exact absurd e1 hv
      · exact absurd e1 hv
    -- alive valleys' members are owned
    have ownd : ∀ {v q : Nat}, v ∈ R → st.mem v q → st.of q = some v := fun {v q} hv hm => by
      obtain ⟨q0, hq0⟩ := hRa v hv
      exact hV.all q0 v q hq0 hm
    obtain ⟨qs, hqs⟩ := hRa s hs1
    have hsl : s < st.vs.length := hV.lt qs s hqs
    have hse := List.getElem?_eq_getElem hsl
    have sAlive : ∀ {e : Int × Nat × Int}, st.vs[s]? = some e → e.2.2 = -1 := fun he => (h2.alive s _ he).2 ⟨qs, hqs⟩
    refine ⟨fun v v' e e' hv he he' => ?_, fun v e he => ?_, fun v e q he hm => ?_, fun v e q he hd hm => ?_, fun v e q r he hd hm hc => ?_⟩
    · obtain ⟨e0, k1, _, k2, _⟩ := key he
      obtain ⟨e0', k1', _, k2', _⟩ := key he'
      rw [k2, k2']
      exact h.ord v v' e0 e0' hv k1 k1'
    · obtain ⟨e0, k1, _, k2, _⟩ := key he
      rw [k2]
      exact .inl (.inl (h.own v e0 k1))
    · obtain ⟨e0, k1, _, k2, _⟩ := key he
      rw [k2]
      rcases hm with (hm | ⟨rfl, u, hu, hm⟩) | ⟨rfl, rfl⟩
      · exact h.least v e0 q k1 hm
      · have hul : u < st.vs.length := hV.mlt u q hm
        have hue := List.getElem?_eq_getElem hul
        have hpu := h.least u _ q hue hm
        have hsu := hs2 u hu
        rcases Nat.lt_or_ge v u with k | k
        · exact leV_trans (.inr (h.ord v u e0 _ k k1 hue)) hpu
        · have : v = u := by omega
          subst this
          rw [k1, Option.some.injEq] at hue
          rw [hue]; exact hpu
      · exact .inr (hlt _ (hpl k1))
    · obtain ⟨e0, k1, _, k2, k3⟩ := key he
      rcases k3 with ⟨a, b, c⟩ | ⟨a, c⟩
      · -- it dies now
        have hm := mem' b hm
        have ho := ownd a hm
        have hop := ownd a (h.own v e0 k1)
        have hq := h2.mem ho
        have hp := h2.mem hop
        rw [k2, c]
        refine ((h2.con _ q hp hq).1 (by rw [hop, ho])).mono fun x hx => ⟨hN x hx, ?_⟩
        have := hlt x hx
        unfold ltV at this; omega
      · have hvs : v ≠ s := fun e1 => by subst e1; exact hd (by rw [c]; exact sAlive k1)
        rw [k2, c]
        exact h.joined v e0 q k1 (by rw [← c]; exact hd) (mem' hvs hm)
    · obtain ⟨e0, k1, _, k2, k3⟩ := key he
      rcases k3 with ⟨a, b, c⟩ | ⟨a, c⟩
      · have hm := mem' b hm
        have ho := ownd a hm
        rw [c] at hc
        have hc2 : Con nr (· ∈ l) q r := hc.mono fun x hx => hall x hx.1 hx.2
        have := (h2.con q r hc2.l hc2.r).2 hc2
        rw [ho] at this
        exact .inl (.inl (hV.mem r v this.symm))
      · have hvs : v ≠ s := fun e1 => by subst e1; exact hd (by rw [c]; exact sAlive k1)
        rw [c] at hc
        exact .inl (.inl (h.closed v e0 q r k1 (by rw [← c]; exact hd) (mem' hvs hm) hc))
theorem inv3_run {l : List Nat} (hs : ∀ a b, a ∈ l → b ∈ l → b ∈ nr a → a ∈ nr b) (hp : l.Pairwise (ltV num)) (h0 : ∀ q ∈ l, 0 ≤ num q) (hN : ∀ q ∈ l, q < N) (hdown : ∀ q i, i ∈ l → q < N → num q < num i → q ∈ l) : Inv3 num nr N (runV num nr l) ∧ InvV (runV num nr l) := by
  have key : ∀ (rest pre : List Nat), pre ++ rest = l → Inv3 num nr N (runV num nr pre) → InvV (runV num nr pre) → Inv3 num nr N (runV num nr (pre ++ rest)) ∧ InvV (runV num nr (pre ++ rest)) := by
    intro rest
    induction rest with
    | nil => intro pre _ h1 h2; rw [List.append_nil]; exact ⟨h1, h2⟩
    | cons i rest ih =>
      intro pre he h1 h2
      have e1 : pre ++ i :: rest = (pre ++ [i]) ++ rest := by simp
      rw [e1] at he ⊢
      have hpp := hp
      rw [← he] at hpp
      have hpre : (pre ++ [i]).Pairwise (ltV num) := (List.pairwise_append.1 hpp).1
      have hlt : ∀ p ∈ pre, ltV num p i := fun p hpm => (List.pairwise_append.1 hpre).2.2 p hpm i (by simp)
      have hi : i ∉ pre := fun k => ltV_irr (hlt i k)
      have hmem : ∀ x, x ∈ pre ++ [i] → x ∈ l := fun x hx => by rw [← he]; exact List.mem_append_left _ hx
      have hnd : pre.Nodup := (List.pairwise_append.1 hpre).1.imp fun {a b} k e => by subst e; exact ltV_irr k
      have hinv := inv2_run (num := num) (nr := nr) (l := pre) (fun a b ha hb => hs a b (hmem a (by simp [ha])) (hmem b (by simp [hb]))) hnd (fun q hq => h0 q (hmem q (by simp [hq])))
      have hil : i ∈ l := hmem i (by simp)
      have hall : ∀ q, q < N → num q < num i → q ∈ pre := fun q hq hlt' => by
        have := hdown q i hil hq hlt'
        rw [← he, List.append_assoc] at this
        rcases List.mem_append.1 this with k | k
        · exact k
        · rcases List.mem_append.1 k with k | k
          · rw [List.mem_singleton] at k; subst k; omega
          · have := (List.pairwise_append.1 hpp).2.2 i (by simp) q k
            unfold ltV at this; omega
      have s3 := h1.step (i := i) hinv h2 hlt hall (fun q hq => hN q (hmem q (by simp [hq]))) hi (h0 i hil)
      have sV := h2.step num nr ((hinv.no i).2 hi)
      rw [← run_snoc] at s3 sV
      exact ih (pre ++ [i]) he s3 sV
  have := key l [] (by simp) .start .start
  simpa using this
end
end Go.Proofs.Ytfdmphgbodmkpaa

/- Plain law: valleys told by their levels; what filling leaves of the sets of places up to a level. No program in sight. -/
namespace Go.Proofs.Ytfdmphgbodmkpaa
open Go Go.SL

/-- The places up to a level. -/
def Upto (N : Nat) (num : Nat → Int) (lv : Int) (x : Nat) : Prop := x < N ∧ num x ≤ lv
/-- The least of the places that are joined with it up to a level. -/
def Lst (W H : Nat) (num : Nat → Int) (lv : Int) (p : Nat) : Prop := ∀ q, Con (near W H) (Upto (W * H) num lv) p q → leV num p q
theorem leV_anti {num : Nat → Int} {a b : Nat} (h : leV num a b) (k : leV num b a) : a = b := by
  rcases h with rfl | h
  · rfl
  · rcases k with rfl | k
    · rfl
    · exact (ltV_irr (ltV_trans h k)).elim
section
variable {W H : Nat} {num : Nat → Int}
theorem Upto.symm_near (hW : 0 < W) {lv : Int} : ∀ i j, Upto (W * H) num lv i → Upto (W * H) num lv j → j ∈ near W H i → i ∈ near W H j := fun i j hi hj => near_symm hW i j hi.1 hj.1

/-- The state at a level, and what becomes of it. -/
structure AtLv (W H : Nat) (num : Nat → Int) (lv : Nat) (l : List Nat) (st : VSt) : Prop where
  mem : ∀ q, q ∈ l ↔ Upto (W * H) num lv q
  i2 : Inv2 num (near W H) l st
  iV : InvV st
  i3 : Inv3 num (near W H) (W * H) st
  evo : Evo lv st.vs (endV W H num).vs
theorem at_lv (hW : 0 < W) (hn : ∀ q, 0 ≤ num q ∧ num q ≤ 99) {lv : Nat} (hlv : lv ≤ 99) : AtLv W H num lv (ordK (W * H) num (lv + 1) 0) (runV num (near W H) (ordK (W * H) num (lv + 1) 0)) := by
  obtain ⟨rest, h1, h2⟩ := ordK_split (N := W * H) (num := num) (L := lv + 1) (k := 99 - lv)
  rw [show lv + 1 + (99 - lv) = 100 by omega] at h1
  have hm : ∀ q, q ∈ ordK (W * H) num (lv + 1) 0 ↔ Upto (W * H) num lv q := fun q => by
    have := hn q
    rw [ordK_mem]
    unfold Upto
    constructor
    · rintro (k | k)
      · exact ⟨k.1, by omega⟩
      · omega
    · rintro ⟨k1, k2⟩; exact .inl ⟨k1, this.1, by omega⟩
  have hN : ∀ q, q ∈ ordK (W * H) num 100 0 → q < W * H := fun q hq => by
    rcases ordK_mem.1 hq with k | k
    · exact k.1
    · omega
  have hs : ∀ a b, a ∈ ordK (W * H) num (lv + 1) 0 → b ∈ ordK (W * H) num (lv + 1) 0 → b ∈ near W H a → a ∈ near W H b := fun a b ha hb => near_symm hW a b ((hm a).1 ha).1 ((hm b).1 hb).1
  have hnd := ordK_nodup (W * H) num 100
  rw [h1] at hnd
  obtain ⟨i3, iV⟩ := inv3_run (num := num) (nr := near W H) (N := W * H) hs (ordK_sorted ..) (fun q _ => (hn q).1) (fun q hq => ((hm q).1 hq).1) (fun q i hi hq hlt => (hm q).2 ⟨hq, by have := ((hm i).1 hi).2; omega⟩)
  refine ⟨hm, inv2_run hs (ordK_nodup ..) (fun q _ => (hn q).1), iV, i3, ?_⟩
  have := evo_run (num := num) (nr := near W H) (lv := lv) (l := ordK (W * H) num (lv + 1) 0) (rest := rest) (by omega) (fun a b ha hb => by
    rw [← h1] at ha hb
    exact near_symm hW a b (hN a ha) (hN b hb)) hnd (fun q _ => (hn q).1) (fun q hq => by have := h2 q hq; omega)
  rw [← h1] at this
  exact this
theorem end_inv (hW : 0 < W) (hn : ∀ q, 0 ≤ num q ∧ num q ≤ 99) : Inv3 num (near W H) (W * H) (endV W H num) ∧ InvV (endV W H num) := by
  have := at_lv (W := W) (H := H) (lv := 99) hW hn (by omega)
  exact ⟨this.i3, this.iV⟩

section
variable {l : List Nat} {st : VSt} {lv : Nat}
theorem AtLv.con (h : AtLv W H num lv l st) {p q : Nat} : Con (near W H) (· ∈ l) p q ↔ Con (near W H) (Upto (W * H) num lv) p q := Con.congr h.mem
/-- An alive valley's place is the least of its set. -/
theorem AtLv.alive (h : AtLv W H num lv l st) {v : Nat} {e : Int × Nat × Int} (he : st.vs[v]? = some e) (hd : e.2.2 = -1) : st.of e.2.1 = some v ∧ Lst W H num lv e.2.1 := by
  obtain ⟨q0, hq0⟩ := (h.i2.alive v e he).1 hd
  have ho := h.iV.all q0 v e.2.1 hq0 (h.i3.own v e he)
  refine ⟨ho, fun q hc => ?_⟩
  have hc := h.con.2 hc
  have := (h.i2.con e.2.1 q hc.l hc.r).2 hc
  rw [ho] at this
  exact h.i3.least v e q he (h.iV.mem q v this.symm)
theorem AtLv.inj (h : AtLv W H num lv l st) {v v' : Nat} {e e' : Int × Nat × Int} (he : st.vs[v]? = some e) (he' : st.vs[v']? = some e') (hp : e.2.1 = e'.2.1) : v = v' := by
  rcases Nat.lt_trichotomy v v' with k | k | k
  · have := h.i3.ord v v' e e' k he he'
    rw [hp] at this; exact (ltV_irr this).elim
  · exact k
  · have := h.i3.ord v' v e' e k he' he
    rw [hp] at this; exact (ltV_irr this).elim
/-- Whose a place is. -/
theorem AtLv.owner (h : AtLv W H num lv l st) {q : Nat} (hq : Upto (W * H) num lv q) : ∃ v e, st.vs[v]? = some e ∧ e.2.2 = -1 ∧ st.of q = some v ∧ Con (near W H) (Upto (W * H) num lv) e.2.1 q := by
  obtain ⟨v, hv⟩ := h.i2.own ((h.mem q).2 hq)
  have he := List.getElem?_eq_getElem (h.i2.lt q v hv)
  have hd := (h.i2.alive v _ he).2 ⟨q, hv⟩
  obtain ⟨ho, _⟩ := h.alive he hd
  refine ⟨v, _, he, hd, hv, h.con.1 ?_⟩
  exact (h.i2.con _ q (h.i2.mem ho) (h.i2.mem hv)).1 (by rw [ho, hv])
theorem AtLv.back (h : AtLv W H num lv l st) (hn : ∀ q, 0 ≤ num q ∧ num q ≤ 99) {v : Nat} {e : Int × Nat × Int} (he : (endV W H num).vs[v]? = some e) (hb : e.1 ≤ lv) : ∃ d, st.vs[v]? = some (e.1, e.2.1, d) ∧ (d = -1 ↔ (e.2.2 = -1 ∨ (lv : Int) < e.2.2)) := by
  have hvl : v < st.vs.length := by
    rcases Nat.lt_or_ge v st.vs.length with k | k
    · exact k
    · have := h.evo.new v e k he; omega
  have h0 := List.getElem?_eq_getElem hvl
  obtain ⟨d', h1, h2, h3⟩ := h.evo.old v _ h0
  rw [he, Option.some.injEq] at h1
  subst h1
  refine ⟨st.vs[v].2.2, h0, h3, fun k => ?_⟩
  rcases h.i2.dies v _ h0 with e1 | ⟨j, hj, e1⟩
  · exact e1
  · have hj := ((h.mem j).1 hj).2
    have h0j := (hn j).1
    by_cases hd : st.vs[v].2.2 = -1
    · exact hd
    · have := h2 hd
      simp only at k
      omega
end

/-- A valley is alive at a level if its place is the least of its set up to this level. -/
theorem lev_iff (hW : 0 < W) (hn : ∀ q, 0 ≤ num q ∧ num q ≤ 99) {lv : Nat} (hlv : lv ≤ 99) {v : Nat} {e : Int × Nat × Int} (he : (endV W H num).vs[v]? = some e) (hb : e.1 ≤ lv) : (e.2.2 = -1 ∨ (lv : Int) < e.2.2) ↔ Lst W H num lv e.2.1 := by
  have h := at_lv (W := W) (H := H) hW hn hlv
  obtain ⟨d, h1, h2⟩ := h.back hn he hb
  rw [← h2]
  constructor
  · intro k; exact (h.alive h1 k).2
  · intro k
    have hp := (h.i2.born v _ h1).2
    have hpu := (h.mem _).1 hp
    simp only at hp hpu
    obtain ⟨v', e', g1, g2, g3, g4⟩ := h.owner hpu
    have a1 : leV num e'.2.1 e.2.1 := h.i3.least v' e' _ g1 (h.iV.mem _ _ g3)
    have a2 : leV num e.2.1 e'.2.1 := k _ (Con.symm (Upto.symm_near hW) g4)
    have e3 : e'.2.1 = e.2.1 := leV_anti a1 a2
    have := h.inj g1 h1 e3
    subst this
    rw [g1, Option.some.injEq] at h1
    rw [h1] at g2
    exact g2
/-- Whose a place is, told of the end. -/
theorem owner_end (hW : 0 < W) (hn : ∀ q, 0 ≤ num q ∧ num q ≤ 99) {lv : Nat} (hlv : lv ≤ 99) {q : Nat} (hq : Upto (W * H) num lv q) : ∃ (v : Nat) (e : Int × Nat × Int), (endV W H num).vs[v]? = some e ∧ e.1 ≤ lv ∧ Con (near W H) (Upto (W * H) num lv) e.2.1 q ∧ Lst W H num lv e.2.1 := by
  have h := at_lv (W := W) (H := H) hW hn hlv
  obtain ⟨v, e, g1, g2, g3, g4⟩ := h.owner hq
  obtain ⟨d', k1, _, _⟩ := h.evo.old v e g1
  refine ⟨v, _, k1, ?_, g4, (h.alive g1 g2).2⟩
  have hb := h.i2.born v e g1
  show e.1 ≤ lv
  rw [hb.1]; exact ((h.mem _).1 hb.2).2
theorem end_inj (hW : 0 < W) (hn : ∀ q, 0 ≤ num q ∧ num q ≤ 99) {v v' : Nat} {e e' : Int × Nat × Int} (he : (endV W H num).vs[v]? = some e) (he' : (endV W H num).vs[v']? = some e') (hp : e.2.1 = e'.2.1) : v = v' ∧ e = e' := by
  have h := (end_inv (H := H) hW hn).1
  have : v = v' := by
    rcases Nat.lt_trichotomy v v' with k | k | k
    · have := h.ord v v' e e' k he he'
      rw [hp] at this; exact (ltV_irr this).elim
    · exact k
    · have := h.ord v' v e' e k he' he
      rw [hp] at this; exact (ltV_irr this).elim
  subst this
  rw [he, Option.some.injEq] at he'
  exact ⟨rfl, he'⟩
theorem Lst.down {lv lv' : Int} {p : Nat} (h : Lst W H num lv p) (hl : lv' ≤ lv) : Lst W H num lv' p := fun q hc => h q (hc.mono fun x hx => ⟨hx.1, by have := hx.2; omega⟩)
/-- A place that is the least at its own number has a valley. -/
theorem born_end (hW : 0 < W) (hn : ∀ q, 0 ≤ num q ∧ num q ≤ 99) {p : Nat} (hp : p < W * H) (hl : Lst W H num (num p) p) : ∃ (v : Nat) (e : Int × Nat × Int), (endV W H num).vs[v]? = some e ∧ e.2.1 = p ∧ e.1 = num p := by
  obtain ⟨k, hk⟩ : ∃ k : Nat, num p = (k : Int) := ⟨(num p).toNat, by have := (hn p).1; omega⟩
  have hk9 : k ≤ 99 := by have := (hn p).2; omega
  obtain ⟨v, e, g1, g2, g3, g4⟩ := owner_end (H := H) hW hn hk9 (q := p) ⟨hp, by omega⟩
  rw [hk] at hl
  have e1 := leV_anti (g4 _ g3) (hl _ (Con.symm (Upto.symm_near hW) g3))
  refine ⟨v, e, g1, e1, ?_⟩
  have := ((all_ok (W := W) (H := H) (num := num) hW (by
    rcases Nat.eq_zero_or_pos H with h | h
    · subst h; simp at hp
    · exact h) hn).born v e g1).1
  rw [this, e1]

/-! ### Filling -/
def Deep (depth : Int) (e : Int × Nat × Int) : Prop := e.2.2 = -1 ∨ depth ≤ e.2.2 - e.1
theorem lift1_le {depth : Int} {e : Int × Int × List Nat} {f : Nat → Int} {q : Nat} {lv : Int} : lift1 depth e f q ≤ lv ↔ f q ≤ lv ∧ (¬ (e.2.1 < 0 ∨ depth ≤ e.2.1 - e.1) → q ∈ e.2.2 → e.2.1 ≤ lv) := by
  unfold lift1
  by_cases h : e.2.1 < 0 ∨ depth ≤ e.2.1 - e.1
  · rw [if_pos h]
    exact ⟨fun k => ⟨k, fun h' => absurd h h'⟩, fun k => k.1⟩
  · rw [if_neg h]
    by_cases hq : q ∈ e.2.2
    · rw [if_pos hq]
      constructor
      · intro k; exact ⟨by omega, fun _ _ => by omega⟩
      · rintro ⟨k1, k2⟩; have := k2 h hq; omega
    · rw [if_neg hq]
      exact ⟨fun k => ⟨k, fun _ h' => absurd h' hq⟩, fun k => k.1⟩
theorem liftS_le {depth : Int} {q : Nat} {lv : Int} : ∀ {E : List (Int × Int × List Nat)} {f : Nat → Int}, liftS depth E f q ≤ lv ↔ f q ≤ lv ∧ ∀ e ∈ E, ¬ (e.2.1 < 0 ∨ depth ≤ e.2.1 - e.1) → q ∈ e.2.2 → e.2.1 ≤ lv
  | [], f => by simp [liftS]
  | e :: E, f => by
    have ih := liftS_le (depth := depth) (q := q) (lv := lv) (E := E) (f := lift1 depth e f)
    unfold liftS at ih ⊢
    rw [List.foldl_cons, ih, lift1_le]
    simp only [List.mem_cons, forall_eq_or_imp, and_assoc]
theorem fillN_le {depth : Int} {q : Nat} {lv : Int} (hq : q < W * H) : fillN depth W H num q ≤ lv ↔ num q ≤ lv ∧ ∀ (v : Nat) (e : Int × Nat × Int), (endV W H num).vs[v]? = some e → 0 ≤ e.2.2 → e.2.2 - e.1 < depth → (endV W H num).mem v q → e.2.2 ≤ lv := by
  unfold fillN
  rw [liftS_le]
  refine and_congr_right fun _ => ?_
  constructor
  · intro h v e he h0 hd hm
    refine h (e.1, e.2.2, (List.range (W * H)).filter fun q => @decide ((endV W H num).mem v q) (Classical.propDecidable _)) (List.mem_of_getElem? (i := v) ?_) (by simp only; omega) ?_
    · unfold endE
      rw [List.getElem?_mapIdx, he]; rfl
    · rw [List.mem_filter, List.mem_range]
      exact ⟨hq, by simpa only [decide_eq_true_eq] using hm⟩
  · intro h x hx hd hm
    obtain ⟨v, hv⟩ := List.getElem?_of_mem hx
    unfold endE at hv
    rw [List.getElem?_mapIdx] at hv
    obtain ⟨e, he, rfl⟩ := Option.map_eq_some_iff.1 hv
    rw [List.mem_filter] at hm
    simp only [decide_eq_true_eq] at hm hd
    exact h v e he (by omega) (by omega) hm.2
theorem fillN_ge {depth : Int} {q : Nat} (hq : q < W * H) : num q ≤ fillN depth W H num q := ((fillN_le (depth := depth) (lv := fillN depth W H num q) hq).1 (Int.le_refl _)).1

/-- The places up to a level that filling leaves: those of the sets whose valley is deep. -/
theorem fill_key (hW : 0 < W) (hH : 0 < H) (hn : ∀ q, 0 ≤ num q ∧ num q ≤ 99) {depth : Int} {lv : Nat} (hlv : lv ≤ 99) {q : Nat} (hq : q < W * H) :
    fillN depth W H num q ≤ lv ↔ num q ≤ lv ∧ ∃ (v : Nat) (e : Int × Nat × Int), (endV W H num).vs[v]? = some e ∧ e.1 ≤ lv ∧ Con (near W H) (Upto (W * H) num lv) e.2.1 q ∧ Lst W H num lv e.2.1 ∧ Deep depth e := by
  obtain ⟨h3, hV⟩ := end_inv (H := H) hW hn
  have hok := all_ok (W := W) (H := H) (num := num) hW hH hn
  have htop := vs_top (num := num) (nr := near W H) (l := ordK (W * H) num 100 0) (fun i => (hn i).2)
  rw [fillN_le hq]
  refine and_congr_right fun hql => ?_
  constructor
  · intro h
    obtain ⟨v, e, g1, g2, g3, g4⟩ := owner_end (H := H) hW hn hlv (q := q) ⟨hq, hql⟩
    refine ⟨v, e, g1, g2, g3, g4, ?_⟩
    rcases (lev_iff (H := H) hW hn hlv g1 g2).2 g4 with k | k
    · exact .inl k
    · unfold Deep
      by_cases hd : depth ≤ e.2.2 - e.1
      · exact .inr hd
      · exfalso
        have hm := h3.closed v e e.2.1 q g1 (by omega) (h3.own v e g1) (g3.mono fun x hx => ⟨hx.1, by have := hx.2; omega⟩)
        have := h v e g1 (by omega) (by omega) hm
        omega
  · rintro ⟨v, e, g1, g2, g3, g4, g5⟩ u eu k1 k2 k3 k4
    rcases (Decidable.em ((lv : Int) < eu.2.2)) with hlt | hge
    · exfalso
      have hback : Con (near W H) (fun x => x < W * H ∧ num x < eu.2.2) q e.2.1 := (Con.symm (Upto.symm_near hW) g3).mono fun x hx => ⟨hx.1, by have := hx.2; omega⟩
      have hm := h3.closed u eu q e.2.1 k1 (by omega) k4 hback
      rcases h3.least u eu _ k1 hm with e1 | e1
      · obtain ⟨_, e2⟩ := end_inj (H := H) hW hn g1 k1 e1
        subst e2
        rcases g5 with g5 | g5 <;> omega
      · have hj := h3.joined u eu _ k1 (by omega) hm
        obtain ⟨k, hk⟩ : ∃ k : Nat, eu.2.2 = (k : Int) := ⟨eu.2.2.toNat, by omega⟩
        have hk9 : k ≤ 99 := by have := (htop eu (List.mem_of_getElem? k1)).2; omega
        have hbu := (hok.born u eu k1).1
        have hbv := (hok.born v e g1).1
        have hbb : eu.1 ≤ e.1 := by
          rw [hbu, hbv]
          unfold ltV at e1; omega
        have hno : ¬ (e.2.2 = -1 ∨ (k : Int) < e.2.2) := by
          rw [lev_iff (H := H) hW hn hk9 g1 (by omega)]
          intro hL
          rw [hk] at hj
          have := hL _ (Con.symm (Upto.symm_near hW) hj)
          rcases this with e2 | e2
          · rw [e2] at e1; exact ltV_irr e1
          · exact ltV_irr (ltV_trans e1 e2)
        rcases g5 with g5 | g5 <;> omega
    · omega
end
end Go.Proofs.Ytfdmphgbodmkpaa

/- Plain law: the valleys of a filled picture; filling again. No program in sight. -/
namespace Go.Proofs.Ytfdmphgbodmkpaa
open Go Go.SL

theorem sorted_eq {α : Type} {R : α → α → Prop} (irr : ∀ a, ¬ R a a) (asym : ∀ a b, R a b → ¬ R b a) : ∀ {l m : List α}, l.Pairwise R → m.Pairwise R → (∀ x, x ∈ l ↔ x ∈ m) → l = m
  | [], [], _, _, _ => rfl
  | [], b :: m, _, _, h => by have := (h b).2 (List.mem_cons_self ..); cases this
  | a :: l, [], _, _, h => by have := (h a).1 (List.mem_cons_self ..); cases this
  | a :: l, b :: m, hl, hm, h => by
    rw [List.pairwise_cons] at hl hm
    have hab : a = b := by
      rcases List.mem_cons.1 ((h a).1 (List.mem_cons_self ..)) with e | e
      · exact e
      · rcases List.mem_cons.1 ((h b).2 (List.mem_cons_self ..)) with e' | e'
        · exact e'.symm
        · exact absurd (hl.1 b e') (asym _ _ (hm.1 a e))
    subst hab
    rw [sorted_eq irr asym hl.2 hm.2 fun x => ?_]
    constructor
    · intro hx
      rcases List.mem_cons.1 ((h x).1 (List.mem_cons_of_mem _ hx)) with e | e
      · subst e; exact absurd (hl.1 x hx) (irr x)
      · exact e
    · intro hx
      rcases List.mem_cons.1 ((h x).2 (List.mem_cons_of_mem _ hx)) with e | e
      · subst e; exact absurd (hm.1 x hx) (irr x)
      · exact e

section
variable {W H : Nat} {num g : Nat → Int} {depth : Int}
theorem fillN_top (hn : ∀ q, 0 ≤ num q ∧ num q ≤ 99) {q : Nat} (hq : q < W * H) : fillN depth W H num q ≤ 99 := by
  rw [fillN_le hq]
  exact ⟨(hn q).2, fun v e he _ _ _ => (vs_top (num := num) (nr := near W H) (l := ordK (W * H) num 100 0) (fun i => (hn i).2) e (List.mem_of_getElem? he)).2⟩

/-- A picture and its filled one. -/
structure Filled (W H : Nat) (depth : Int) (num g : Nat → Int) : Prop where
  w : 0 < W
  h : 0 < H
  n : ∀ q, 0 ≤ num q ∧ num q ≤ 99
  gn : ∀ q, 0 ≤ g q ∧ g q ≤ 99
  eq : ∀ q, q < W * H → g q = fillN depth W H num q
theorem Filled.ge (F : Filled W H depth num g) {q : Nat} (hq : q < W * H) : num q ≤ g q := by rw [F.eq q hq]; exact fillN_ge hq
theorem Filled.key (F : Filled W H depth num g) {lv : Nat} (hlv : lv ≤ 99) {q : Nat} (hq : q < W * H) : g q ≤ lv ↔ num q ≤ lv ∧ ∃ (v : Nat) (e : Int × Nat × Int), (endV W H num).vs[v]? = some e ∧ e.1 ≤ lv ∧ Con (near W H) (Upto (W * H) num lv) e.2.1 q ∧ Lst W H num lv e.2.1 ∧ Deep depth e := by
  rw [F.eq q hq]; exact fill_key F.w F.h F.n hlv hq
theorem Filled.born (F : Filled W H depth num g) {v : Nat} {e : Int × Nat × Int} (he : (endV W H num).vs[v]? = some e) : e.1 = num e.2.1 ∧ e.2.1 < W * H := (all_ok F.w F.h F.n).born v e he
/-- A deep valley's place keeps its number. -/
theorem Filled.keeps (F : Filled W H depth num g) {v : Nat} {e : Int × Nat × Int} (he : (endV W H num).vs[v]? = some e) (hl : Lst W H num e.1 e.2.1) (hd : Deep depth e) : g e.2.1 = num e.2.1 := by
  obtain ⟨hb, hp⟩ := F.born he
  obtain ⟨k, hk⟩ : ∃ k : Nat, num e.2.1 = (k : Int) := ⟨(num e.2.1).toNat, by have := (F.n e.2.1).1; omega⟩
  have hk9 : k ≤ 99 := by have := (F.n e.2.1).2; omega
  have h1 : g e.2.1 ≤ k := (F.key hk9 hp).2 ⟨by omega, v, e, he, by omega, .base ⟨hp, by omega⟩, by rw [← hk, ← hb]; exact hl, hd⟩
  have := F.ge hp
  omega
theorem Filled.con (F : Filled W H depth num g) {lv : Nat} (hlv : lv ≤ 99) {p q : Nat} : Con (near W H) (Upto (W * H) g lv) p q ↔ g p ≤ lv ∧ Con (near W H) (Upto (W * H) num lv) p q := by
  constructor
  · intro h
    exact ⟨h.l.2, h.mono fun x hx => ⟨hx.1, by have := F.ge hx.1; have := hx.2; omega⟩⟩
  · rintro ⟨h0, h⟩
    induction h with
    | base h => exact .base ⟨h.1, h0⟩
    | step h hn ha ih =>
      refine .step ih hn ⟨ha.1, ?_⟩
      obtain ⟨v, e, k1, k2, k3, k4, k5⟩ := ((F.key hlv ih.r.1).1 ih.r.2).2
      exact (F.key hlv ha.1).2 ⟨ha.2, v, e, k1, k2, .step k3 hn ha, k4, k5⟩
theorem Filled.lst (F : Filled W H depth num g) {lv : Nat} (hlv : lv ≤ 99) {p : Nat} (hp : p < W * H) (hg : g p ≤ lv) : Lst W H g lv p ↔ Lst W H num lv p := by
  obtain ⟨hnp, v, e, k1, k2, k3, k4, k5⟩ := (F.key hlv hp).1 hg
  obtain ⟨hb, hpe⟩ := F.born k1
  have hke := F.keeps k1 (k4.down (by omega)) k5
  have hback := Con.symm (Upto.symm_near F.w) k3
  have gep := F.ge hp
  constructor
  · intro h
    have a1 : leV g p e.2.1 := h _ ((F.con hlv).2 ⟨hg, hback⟩)
    have a2 : leV num e.2.1 p := k4 _ k3
    have e1 : p = e.2.1 := by
      rcases a2 with a2 | a2
      · exact a2
      · rcases a1 with a1 | a1
        · exact a1.symm
        · unfold ltV at a1 a2
          omega
    rw [e1]; exact k4
  · intro h q hc
    have hc2 := (F.con hlv).1 hc
    have hq := hc.r
    have geq := F.ge hq.1
    have e1 : p = e.2.1 := leV_anti (h _ hback) (k4 _ k3)
    subst e1
    rcases h q hc2.2 with a | a
    · exact .inl a
    · right
      unfold ltV at a ⊢
      omega

theorem listed_iff (hW : 0 < W) (hH : 0 < H) (hn : ∀ q, 0 ≤ num q ∧ num q ≤ 99) {v : Nat} {e : Int × Nat × Int} (he : (endV W H num).vs[v]? = some e) : e.2.2 ≠ e.1 ↔ Lst W H num e.1 e.2.1 := by
  have hok := all_ok (W := W) (H := H) (num := num) hW hH hn
  obtain ⟨hb, _⟩ := hok.born v e he
  have h0 := hn e.2.1
  obtain ⟨k, hk⟩ : ∃ k : Nat, e.1 = (k : Int) := ⟨e.1.toNat, by omega⟩
  have := lev_iff (H := H) hW hn (lv := k) (by omega) he (by omega)
  have hu := hok.up v e he
  rw [hk, ← this]
  omega
theorem ends_eq (hW : 0 < W) (hH : 0 < H) (hn : ∀ q, 0 ≤ num q ∧ num q ≤ 99) (hg : ∀ q, 0 ≤ g q ∧ g q ≤ 99) {v v' : Nat} {e e' : Int × Nat × Int} (he : (endV W H num).vs[v]? = some e) (he' : (endV W H g).vs[v']? = some e') (hb : e.1 = e'.1) (hp : e.2.1 = e'.2.1)
    (h : ∀ lv : Nat, lv ≤ 99 → e.1 ≤ lv → (Lst W H num lv e.2.1 ↔ Lst W H g lv e.2.1)) : e = e' := by
  have hok := all_ok (W := W) (H := H) (num := num) hW hH hn
  have hok' := all_ok (W := W) (H := H) (num := g) hW hH hg
  have t1 := vs_top (num := num) (nr := near W H) (l := ordK (W * H) num 100 0) (fun i => (hn i).2) e (List.mem_of_getElem? he)
  have t2 := vs_top (num := g) (nr := near W H) (l := ordK (W * H) g 100 0) (fun i => (hg i).2) e' (List.mem_of_getElem? he')
  have u1 := hok.up v e he
  have u2 := hok'.up v' e' he'
  have b1 := (hok.born v e he).1
  have b0 := hn e.2.1
  have all : ∀ lv : Nat, lv ≤ 99 → e.1 ≤ lv → ((e.2.2 = -1 ∨ (lv : Int) < e.2.2) ↔ (e'.2.2 = -1 ∨ (lv : Int) < e'.2.2)) := fun lv h1 h2 => by
    rw [lev_iff (H := H) hW hn h1 he h2, lev_iff (H := H) hW hg h1 he' (by omega), ← hp]
    exact h lv h1 h2
  have hd : e.2.2 = e'.2.2 := by
    have a1 := all 99 (by omega) (by omega)
    by_cases c1 : e.2.2 = -1
    · have := a1.1 (.inl c1); omega
    · by_cases c2 : e'.2.2 = -1
      · have := a1.2 (.inl c2); omega
      · obtain ⟨k, hk⟩ : ∃ k : Nat, e.2.2 = (k : Int) := ⟨e.2.2.toNat, by omega⟩
        obtain ⟨k', hk'⟩ : ∃ k' : Nat, e'.2.2 = (k' : Int) := ⟨e'.2.2.toNat, by omega⟩
        have a2 := all k (by omega) (by omega)
        have a3 := all k' (by omega) (by omega)
        omega
  obtain ⟨x, y, z⟩ := e
  obtain ⟨x', y', z'⟩ := e'
  simp only at hb hp hd
  rw [hb, hp, hd]

theorem Filled.toG (F : Filled W H depth num g) {v : Nat} {e : Int × Nat × Int} (he : (endV W H num).vs[v]? = some e) (hl : Lst W H num e.1 e.2.1) (hd : Deep depth e) : ∃ v' : Nat, (endV W H g).vs[v']? = some e := by
  obtain ⟨hb, hp⟩ := F.born he
  have hk := F.keeps he hl hd
  obtain ⟨k, hkn⟩ : ∃ k : Nat, num e.2.1 = (k : Int) := ⟨(num e.2.1).toNat, by have := (F.n e.2.1).1; omega⟩
  have hk9 : k ≤ 99 := by have := (F.n e.2.1).2; omega
  have hlg : Lst W H g (g e.2.1) e.2.1 := by
    rw [hk, hkn, F.lst hk9 hp (by omega), ← hkn, ← hb]; exact hl
  obtain ⟨v', e', g1, g2, g3⟩ := born_end (H := H) F.w F.gn hp hlg
  refine ⟨v', ?_⟩
  have := ends_eq F.w F.h F.n F.gn he g1 (by rw [g3, hk, hb]) g2.symm fun lv h1 h2 => (F.lst h1 hp (by omega)).symm
  rw [this]; exact g1
theorem Filled.ofG (F : Filled W H depth num g) {v' : Nat} {e : Int × Nat × Int} (he : (endV W H g).vs[v']? = some e) (hl : Lst W H g e.1 e.2.1) : ∃ v : Nat, (endV W H num).vs[v]? = some e ∧ Lst W H num e.1 e.2.1 ∧ Deep depth e := by
  obtain ⟨hb, hp⟩ := (all_ok F.w F.h F.gn).born v' e he
  obtain ⟨k, hkn⟩ : ∃ k : Nat, g e.2.1 = (k : Int) := ⟨(g e.2.1).toNat, by have := (F.gn e.2.1).1; omega⟩
  have hk9 : k ≤ 99 := by have := (F.gn e.2.1).2; omega
  rw [hb, hkn] at hl
  have hl2 := (F.lst hk9 hp (by omega)).1 hl
  obtain ⟨_, v, e0, k1, k2, k3, k4, k5⟩ := (F.key hk9 hp).1 (by omega)
  have e1 : e.2.1 = e0.2.1 := leV_anti (hl2 _ (Con.symm (Upto.symm_near F.w) k3)) (k4 _ k3)
  obtain ⟨hb0, _⟩ := F.born k1
  have hkk := F.keeps k1 (k4.down (by omega)) k5
  have e2 : e0 = e := ends_eq F.w F.h F.n F.gn k1 he (by rw [hb0, ← hkk, hb, e1]) e1.symm fun lv h1 h2 => by
    rw [← e1]
    exact (F.lst h1 hp (by rw [hb0, ← hkk, ← e1] at h2; exact h2)).symm
  subst e2
  exact ⟨v, k1, by rw [hb, hkn]; exact hl2, k5⟩

def deepL (depth : Int) (l : List Int) : Bool := decide (l.getD 2 0 = -1 ∨ depth ≤ l.getD 2 0 - l.getD 0 0)
/-- The valleys of the filled picture. -/
theorem Filled.list (F : Filled W H depth num g) : lastL (endV W H g).vs = (lastL (endV W H num).vs).filter (deepL depth) := by
  unfold lastL
  rw [List.filter_map]
  congr 1
  have srt : ∀ (f : Nat → Int), (∀ q, 0 ≤ f q ∧ f q ≤ 99) → (endV W H f).vs.Pairwise (fun e e' => ltV f e.2.1 e'.2.1) := fun f hf => by
    refine List.pairwise_iff_getElem.2 fun i j hi hj hij => ?_
    exact (end_inv (H := H) F.w hf).1.ord i j _ _ hij (List.getElem?_eq_getElem hi) (List.getElem?_eq_getElem hj)
  have hY := (srt g F.gn).sublist (List.filter_sublist (p := fun e => decide (e.2.2 ≠ e.1)))
  have memX : ∀ e, e ∈ ((endV W H num).vs.filter fun e => decide (e.2.2 ≠ e.1)).filter (deepL depth ∘ fun e => [e.1, (e.2.1 : Int), e.2.2]) ↔ ∃ v : Nat, (endV W H num).vs[v]? = some e ∧ Lst W H num e.1 e.2.1 ∧ Deep depth e := fun e => by
    rw [List.mem_filter, List.mem_filter]
    have hdp : (deepL depth ∘ fun e : Int × Nat × Int => [e.1, (e.2.1 : Int), e.2.2]) e = true ↔ Deep depth e := by
      unfold deepL Deep
      simp only [Function.comp, List.getD_cons_zero, List.getD_cons_succ, decide_eq_true_eq]
    rw [hdp]
    constructor
    · rintro ⟨⟨h1, h2⟩, h3⟩
      obtain ⟨v, hv⟩ := List.getElem?_of_mem h1
      exact ⟨v, hv, (listed_iff F.w F.h F.n hv).1 (by simpa using h2), h3⟩
    · rintro ⟨v, hv, h2, h3⟩
      exact ⟨⟨List.mem_of_getElem? hv, by simpa using (listed_iff F.w F.h F.n hv).2 h2⟩, h3⟩
  have hX : (((endV W H num).vs.filter fun e => decide (e.2.2 ≠ e.1)).filter (deepL depth ∘ fun e => [e.1, (e.2.1 : Int), e.2.2])).Pairwise (fun e e' => ltV g e.2.1 e'.2.1) := by
    have h1 := ((srt num F.n).sublist (List.filter_sublist (p := fun e => decide (e.2.2 ≠ e.1)))).sublist (List.filter_sublist (p := deepL depth ∘ fun e : Int × Nat × Int => [e.1, (e.2.1 : Int), e.2.2]))
    refine List.Pairwise.imp_of_mem (fun {a b} ha hb hab => ?_) h1
    obtain ⟨v, a1, a2, a3⟩ := (memX a).1 ha
    obtain ⟨v', b1, b2, b3⟩ := (memX b).1 hb
    have := F.keeps a1 a2 a3
    have := F.keeps b1 b2 b3
    unfold ltV at hab ⊢
    omega
  refine sorted_eq (R := fun (e e' : Int × Nat × Int) => ltV g e.2.1 e'.2.1) (fun a h => ltV_irr h) (fun a b h k => ltV_irr (ltV_trans h k)) hY hX fun e => ?_
  rw [memX, List.mem_filter]
  constructor
  · rintro ⟨h1, h2⟩
    obtain ⟨v, hv⟩ := List.getElem?_of_mem h1
    exact F.ofG hv ((listed_iff F.w F.h F.gn hv).1 (by simpa using h2))
  · rintro ⟨v, hv, h2, h3⟩
    obtain ⟨v', hv'⟩ := F.toG hv h2 h3
    refine ⟨List.mem_of_getElem? hv', ?_⟩
    have := (listed_iff F.w F.h F.n hv).2 h2
    simpa using this
/-- Filling again changes nothing. -/
theorem Filled.again (F : Filled W H depth num g) {q : Nat} (hq : q < W * H) : fillN depth W H g q = g q := by
  have hge := fillN_ge (depth := depth) (num := g) hq
  obtain ⟨k, hk⟩ : ∃ k : Nat, g q = (k : Int) := ⟨(g q).toNat, by have := (F.gn q).1; omega⟩
  have hk9 : k ≤ 99 := by have := (F.gn q).2; omega
  have hle : fillN depth W H g q ≤ k := by
    rw [fill_key F.w F.h F.gn hk9 hq]
    refine ⟨by omega, ?_⟩
    obtain ⟨v', e', g1, g2, g3, g4⟩ := owner_end (H := H) F.w F.gn hk9 (q := q) ⟨hq, by omega⟩
    refine ⟨v', e', g1, g2, g3, g4, ?_⟩
    obtain ⟨_, _, _, hd⟩ := F.ofG g1 (g4.down g2)
    exact hd
  omega
end
end Go.Proofs.Ytfdmphgbodmkpaa
