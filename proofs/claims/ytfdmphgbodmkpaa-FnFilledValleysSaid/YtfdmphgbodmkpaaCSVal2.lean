/- Contract of the reference's valleys, continued: all pixels in their order. -/
import Derived.Test.YtfdmphgbodmkpaaCSVal
set_option linter.unusedVariables false
set_option linter.unusedSimpArgs false
namespace Go.Proofs.Ytfdmphgbodmkpaa
open Go Go.SL Go.RowKit
set_option maxRecDepth 100000

/-- The places of numbers below L, level by level, and those of L below i. -/
def ordK (N : Nat) (num : Nat → Int) (L i : Nat) : List Nat := ((List.range L).flatMap fun (l : Nat) => (List.range N).filter fun q => decide (num q = (l : Int))) ++ (List.range i).filter fun q => decide (num q = (L : Int))
theorem ordK_yes {N : Nat} {num : Nat → Int} {L i : Nat} (h : num i = L) : ordK N num L (i + 1) = ordK N num L i ++ [i] := by
  unfold ordK
  rw [List.range_succ, List.filter_append, List.filter_cons_of_pos (by simpa using h), List.filter_nil, List.append_assoc]
theorem ordK_no {N : Nat} {num : Nat → Int} {L i : Nat} (h : num i ≠ L) : ordK N num L (i + 1) = ordK N num L i := by
  unfold ordK
  rw [List.range_succ, List.filter_append, List.filter_cons_of_neg (by simpa using h), List.filter_nil, List.append_nil]
theorem ordK_level {N : Nat} {num : Nat → Int} {L : Nat} : ordK N num (L + 1) 0 = ordK N num L N := by
  unfold ordK
  rw [List.range_succ, List.flatMap_append, List.flatMap_cons, List.flatMap_nil, List.append_nil, List.range_zero, List.filter_nil, List.append_nil]
theorem ordK_mem {N : Nat} {num : Nat → Int} {L i q : Nat} : q ∈ ordK N num L i ↔ (q < N ∧ 0 ≤ num q ∧ num q < L) ∨ (q < i ∧ num q = L) := by
  unfold ordK
  rw [List.mem_append, List.mem_flatMap, List.mem_filter, List.mem_range]
  simp only [List.mem_range, List.mem_filter, decide_eq_true_iff]
  constructor
  · rintro (⟨l, h1, h2, h3⟩ | h)
    · exact .inl ⟨h2, by omega, by omega⟩
    · exact .inr h
  · rintro (⟨h1, h2, h3⟩ | h)
    · exact .inl ⟨(num q).toNat, by omega, h1, by omega⟩
    · exact .inr h
theorem run_snoc {num : Nat → Int} {near : Nat → List Nat} (l : List Nat) (i : Nat) : runV num near (l ++ [i]) = stepV num near (runV num near l) i := by
  unfold runV; rw [List.foldl_append]; rfl
theorem run_none {num : Nat → Int} {near : Nat → List Nat} {l : List Nat} {i : Nat} : (runV num near l).of i = none ↔ i ∉ l := by
  unfold runV
  rw [run_of]
  exact ⟨fun h => h.2, fun h => ⟨rfl, h⟩⟩
theorem roots_snoc {st : VSt} {l : List Nat} {q : Nat} : roots st (l ++ [q]) = roots st l ++ (st.of q).toList := by
  unfold roots
  rw [List.filterMap_append]
  congr 1
theorem SM.mem_lt {w0 w : World} {N : Nat} {num : Nat → Int} {nv ov outv : Value} {nb ob outb : Nat} {S : List VR} {st : VSt} (h : SM w0 w N num nv nb ov ob outv outb S st) {q v : Nat} (hv : st.of q = some v) : q < N := by
  have hl := of_lt h hv
  have hm := h.inv.mem q v hv
  rw [← h.rel.mem v S[v] (List.getElem?_eq_getElem hl)] at hm
  exact (h.set _ (List.getElem_mem hl)).lt q hm
theorem step_len {num : Nat → Int} {near : Nat → List Nat} {st : VSt} {i : Nat} : (stepV num near st i).vs.length ≤ st.vs.length + 1 := by
  unfold stepV
  split
  · simp [addV, bornV]
  · simp [addV, mergeV]
theorem run_len {num : Nat → Int} {near : Nat → List Nat} (l : List Nat) : (runV num near l).vs.length ≤ l.length := by
  unfold runV
  have key : ∀ (l : List Nat) (st : VSt), (l.foldl (stepV num near) st).vs.length ≤ st.vs.length + l.length := by
    intro l
    induction l with
    | nil => intro st; simp
    | cons i l ih =>
      intro st
      have h1 := ih (stepV num near st i)
      have h2 := step_len (num := num) (near := near) (st := st) (i := i)
      rw [List.foldl_cons, List.length_cons]; omega
  have := key l startV
  simpa [startV] using this
theorem ordK_len (N : Nat) (num : Nat → Int) (L i : Nat) : (ordK N num L i).length ≤ L * N + i := by
  have h1 : ∀ L, ((List.range L).flatMap fun (l : Nat) => (List.range N).filter fun q => decide (num q = (l : Int))).length ≤ L * N := by
    intro L
    induction L with
    | zero => simp
    | succ L ih =>
      rw [List.range_succ, List.flatMap_append, List.length_append, Nat.add_mul, Nat.one_mul, List.flatMap_cons, List.flatMap_nil, List.append_nil]
      have := List.length_filter_le (fun q => decide (num q = (L : Int))) (List.range N)
      rw [List.length_range] at this
      omega
  unfold ordK
  rw [List.length_append]
  have h2 := List.length_filter_le (fun q => decide (num q = (L : Int))) (List.range i)
  rw [List.length_range] at h2
  have := h1 L
  omega
/-- The oldest valley beside a place, as the search has it. -/
def Stays (R : List Nat) (s : Int) : Prop := (R = [] ∧ s = -1) ∨ ∃ m : Nat, s = (m : Int) ∧ m ∈ R ∧ ∀ x ∈ R, m ≤ x
theorem Stays.add {R : List Nat} {s : Int} {x : Nat} (h : Stays R s) : Stays (R ++ [x]) (if s < 0 ∨ (x : Int) < s then (x : Int) else s) := by
  rcases h with ⟨rfl, rfl⟩ | ⟨m, rfl, h1, h2⟩
  · rw [if_pos (.inl (by omega))]
    exact .inr ⟨x, rfl, by simp, by simp⟩
  · by_cases hx : (x : Int) < (m : Int)
    · rw [if_pos (.inr hx)]
      refine .inr ⟨x, rfl, by simp, fun y hy => ?_⟩
      rcases List.mem_append.1 hy with hy | hy
      · have := h2 y hy; omega
      · rw [List.mem_singleton] at hy; omega
    · rw [if_neg (by omega)]
      refine .inr ⟨m, rfl, List.mem_append_left _ h1, fun y hy => ?_⟩
      rcases List.mem_append.1 hy with hy | hy
      · exact h2 y hy
      · rw [List.mem_singleton] at hy; omega

theorem val_app {w : World} {S : List VR} {outv : Value} {outb : Nat} {x : VR} {K : Value → World → Prop} (h : VRs w outv S outb) (h1 : SL.one x.sv = true) (hn : S.length < 1000000) (hK : ∀ v' w' b', (b' = outb ∨ w.heap.size ≤ b') → Mod (· = outb) w w' → VRs w' v' (S ++ [x]) b' → K v' w') :
    eff Pg (Instr.buildSlice ty_Sspec_l09Valley 1 #[(0, .agg #[i64 x.b, i64 (x.p : Int), i64 x.d, x.sv])]) w fun t w => eff Pg (Builtin.append_ #[ty_Sspec_l09Valley, ty_Sspec_l09Valley] ty_Sspec_l09Valley #[outv, t]) w K := by
  have hT : sliceT Pg ty_Sspec_l09Valley = some (ty_spec_l09Valley, 4, 48, .agg #[i64 0, i64 0, i64 0, .slice none 0 0]) := by kernel_rfl
  refine own_app (enc := valE) (x := x) hT valE_len rfl (by decide) (by decide) (by decide) (by decide) h (by kernel_rfl) ?_ hn hK
  intro y hy
  simp [valE] at hy
  rcases hy with rfl | rfl | rfl | rfl <;> first | rfl | exact h1
theorem birthS {w0 w : World} {N : Nat} {num : Nat → Int} {nr : Nat → List Nat} {nv ov outv : Value} {nb ob outb j : Nat} {L : Int} {S : List VR} {st : VSt} {K : Value → World → Prop} (hS : SM w0 w N num nv nb ov ob outv outb S st) (hj : j < N) (hnj : st.of j = none) (hR : roots st (nr j) = []) (hvsl : st.vs.length ≤ 100000) (hN : N ≤ 256) (hnum : num j = L)
    (hK : ∀ outv' outb' S' w', SM w0 w' N num nv nb ov ob outv' outb' S' (addV (bornV num st j) st.vs.length j) → K outv' w') :
    rd Pg (Builtin.len_ #[ty_Sspec_l09Valley] ty_int #[outv]) w fun t81_55 =>
  pur Pg (Instr.indexAt ty_Sint64 ov (i64 (j : Int))) fun t82_56 =>
  effU Pg (Instr.storeAt ty_int64 t82_56 t81_55) w fun w =>
  eff Pg (Instr.buildSlice ty_Sint64 1 #[(0, i64 (j : Int))]) w fun t87_57 w =>
  pur Pg (Instr.build ty_spec_l09Valley #[(0, i64 L), (1, i64 (j : Int)), (2, (Go.Value.int Go.IntKind.i64 (-1))), (3, t87_57)]) fun t88_58 =>
  eff Pg (Instr.buildSlice ty_Sspec_l09Valley 1 #[(0, t88_58)]) w fun t89_59 w =>
  eff Pg (Builtin.append_ #[ty_Sspec_l09Valley, ty_Sspec_l09Valley] ty_Sspec_l09Valley #[outv, t89_59]) w fun t90_60 w =>
  K t90_60 w := by
  have hstep : stepV num nr st j = addV (bornV num st j) st.vs.length j := by unfold stepV; rw [if_pos hR]
  have hSl := hS.len
  have hne := hS.outne
  refine own_len (k := 4) (T := ty_Sspec_l09Valley) rfl hS.out ?_
  refine int_set ⟨rfl, rfl⟩ hS.of (by omega) (by rw [Int.toNat_natCast, tab_len]; exact hj) fun w7 hm7 hof7 => ?_
  rw [Int.toNat_natCast, tab_set] at hof7
  refine sl1_one (E := ty_int64) (by kernel_rfl) rfl fun sv sb w8 he8 hsb hsv => ?_
  have hsv' := hsv
  obtain ⟨so, sc, rfl, hsl8⟩ := hsv
  refine build_i rfl rfl ?_
  have z7 := hm7.size
  have z8 := he8.size
  have hout8 := (hS.out.mod hm7 hne.1).ext he8
  have hobl := hS.of.lt
  have houtl := hS.out.lt
  refine val_app (x := ⟨L, j, -1, sl sb so [i64 (j : Int)].length sc, [j], sb⟩) hout8 rfl (by omega) fun outv' w9 outb' hor hm9 hout9 => ?_
  refine hK outv' outb' _ w9 ⟨?_, ?_, ?_, hout9, ?_, ⟨?_, ?_⟩, ?_, hS.oo, ?_, ?_, hS.nlt, ?_, ?_⟩
  · exact ((hS.ext.own hm7 hS.oo).trans he8).own hm9 hS.oout
  · have k1 := hS.nlt; have k2 := hS.oo; have k3 := hS.oout
    exact ((hS.nums.mod hm7 (by omega)).ext he8).mod hm9 (by omega)
  · have : tab N (ofI (addV (bornV num st j) st.vs.length j)) = tab N (upd (ofI st) j (S.length : Int)) := tab_congr fun q _ => by
      unfold upd
      by_cases e : q = j
      · rw [if_pos e, hSl]; exact ofI_some (by simp [addV, e])
      · rw [if_neg e]; unfold ofI; simp [addV, bornV, e]
    rw [this]
    exact (hof7.ext he8).mod hm9 (fun e => hne.1 e.symm)
  · intro r hr
    rcases List.mem_append.1 hr with hr | hr
    · exact (((hS.set r hr).mod hm7 (hS.ne1 r hr)).mod he8 id).mod hm9 (fun e => hne.2 r hr e.symm)
    · rw [List.mem_singleton] at hr; subst hr
      refine ⟨hsv'.mod hm9 (by show sb ≠ outb; omega), by simp, fun q hq => ?_⟩
      simp at hq; omega
  · rw [List.map_append, hS.rel.vs]
    show _ = (addV (bornV num st j) st.vs.length j).vs
    simp [addV, bornV, hnum]
  · intro x r hx q
    show _ ↔ (addV (bornV num st j) st.vs.length j).mem x q
    simp only [addV, bornV]
    by_cases hxl : x < S.length
    · rw [List.getElem?_append_left hxl] at hx
      rw [hS.rel.mem x r hx]
      simp [show x ≠ st.vs.length by omega]
    · have hxe : x = S.length := by
        have := (List.getElem?_eq_some_iff.1 hx).1
        simp at this; omega
      subst hxe
      rw [List.getElem?_append_right (Nat.le_refl _), Nat.sub_self, List.getElem?_cons_zero, Option.some.injEq] at hx
      subst hx
      have hno : ¬ st.mem S.length q := fun hm => by have := hS.inv.mlt _ _ hm; omega
      rw [hSl] at hno
      simp [hno, hSl]
  · rw [← hstep]; exact hS.inv.step num nr hnj
  · have k3 := hS.oout; have k4 := hS.ext.size
    rcases hor with rfl | h' <;> omega
  · intro r hr
    rcases List.mem_append.1 hr with hr | hr
    · exact hS.oset r hr
    · rw [List.mem_singleton] at hr; subst hr
      show w0.heap.size ≤ sb
      have := hS.ext.size; omega
  · intro r hr
    rcases List.mem_append.1 hr with hr | hr
    · exact hS.ne1 r hr
    · rw [List.mem_singleton] at hr; subst hr
      show sb ≠ ob
      omega
  · rw [List.map_append, List.nodup_append]
    refine ⟨hS.nd, by simp, fun a ha b hb e => ?_⟩
    simp only [List.map_cons, List.map_nil, List.mem_singleton] at hb
    obtain ⟨r, hr, rfl⟩ := List.mem_map.1 ha
    have := (hS.set r hr).sl.lt
    subst hb
    omega

/-- A place joins a valley. -/
theorem addS {w0 w : World} {N : Nat} {num : Nat → Int} {nv ov outv : Value} {nb ob outb j s : Nat} {S : List VR} {st st0 : VSt} {K : World → Prop} (hS : SM w0 w N num nv nb ov ob outv outb S st) (hj : j < N) (_ : st0.of j = none) (hsl : s < S.length) (has : ∃ q, st.of q = some s) (hN : N ≤ 256) (hnj : st.of j = none)
    (hK : ∀ S' w', SM w0 w' N num nv nb ov ob outv outb S' (addV st s j) → K w') :
    pur Pg (Instr.indexAt ty_Sint64 ov (i64 (j : Int))) fun t155_106 =>
  effU Pg (Instr.storeAt ty_int64 t155_106 (i64 (s : Int))) w fun w =>
  pur Pg (Instr.indexAt ty_Sspec_l09Valley outv (i64 (s : Int))) fun t160_107 =>
  pur Pg (Instr.fieldAt ty_spec_l09Valley t160_107 3) fun t161_108 =>
  rd Pg (Instr.loadAt ty_Sint64 t161_108) w fun t162_109 =>
  eff Pg (Instr.buildSlice ty_Sint64 1 #[(0, i64 (j : Int))]) w fun t164_110 w =>
  eff Pg (Builtin.append_ #[ty_Sint64, ty_Sint64] ty_Sint64 #[t162_109, t164_110]) w fun t165_111 w =>
  pur Pg (Instr.indexAt ty_Sspec_l09Valley outv (i64 (s : Int))) fun t166_112 =>
  pur Pg (Instr.fieldAt ty_spec_l09Valley t166_112 3) fun t167_113 =>
  effU Pg (Instr.storeAt ty_Sint64 t167_113 t165_111) w fun w =>
  K w := by
  obtain ⟨q2, hq2⟩ := has
  have hne := hS.outne
  have hgs := List.getElem?_eq_getElem hsl
  have hms := List.getElem_mem hsl
  generalize S[s] = rs at hgs hms
  have hsset := hS.set _ hms
  have hsn := hsset.len
  have hjm : ¬ st.mem s j := fun hm => by have := hS.inv.all q2 s j hq2 hm; rw [hnj] at this; cases this
  have hjr : j ∉ rs.set := fun h => hjm ((hS.rel.mem s rs hgs j).1 h)
  refine int_set ⟨rfl, rfl⟩ hS.of (by omega) (by rw [Int.toNat_natCast, tab_len]; exact hj) fun w1 hm1 hof1 => ?_
  rw [Int.toNat_natCast, tab_set] at hof1
  have hout1 : VRs w1 outv S outb := hS.out.mod hm1 hne.1
  have hset1 : ∀ r ∈ S, SetOk w1 N r := fun r hr => (hS.set r hr).mod hm1 (hS.ne1 r hr)
  refine val_get (f := 3) hout1 (by omega) (by rw [Int.toNat_natCast]; exact hgs) (by decide) (by kernel_rfl) rfl ?_
  refine sl1_app (E := ty_int64) (by kernel_rfl) rfl (hset1 _ hms).sl (by rw [cast_len]; omega) fun nv' w2 nb' hor hm2 hnv => ?_
  have hnv1 := hnv.one
  have hout2 : VRs w2 outv S outb := hout1.mod hm2 (hne.2 _ hms)
  refine val_set (x := rs) { rs with sv := nv', set := rs.set ++ [j], sb := nb' } hout2 (by omega) (by rw [Int.toNat_natCast]; exact hgs) (by decide) (by kernel_rfl) hnv1 rfl fun w3 hm3 ho3 => ?_
  rw [Int.toNat_natCast] at ho3
  have z1 := hm1.size; have z2 := hm2.size; have z0 := hS.ext.size
  have hobl := hS.of.lt; have houtl := hS.out.lt
  have hnb'o : nb' ≠ outb := by rcases hor with rfl | h'; exact fun e => hne.2 _ hms e.symm; omega
  have hnb'ob : nb' ≠ ob := by rcases hor with rfl | h'; exact hS.ne1 _ hms; omega
  have hget : ∀ (k : Nat) (r : VR), (S.set s { rs with sv := nv', set := rs.set ++ [j], sb := nb' })[k]? = some r → (k = s ∧ r = { rs with sv := nv', set := rs.set ++ [j], sb := nb' }) ∨ (k ≠ s ∧ S[k]? = some r) := by
    intro k r hk
    by_cases e1 : k = s
    · subst e1
      rw [List.getElem?_set_self hsl, Option.some.injEq] at hk
      exact .inl ⟨rfl, hk.symm⟩
    · rw [List.getElem?_set_ne (fun e => e1 e.symm)] at hk
      exact .inr ⟨e1, hk⟩
  have hsbinj : ∀ (k : Nat) (r : VR), S[k]? = some r → r.sb = rs.sb → k = s := fun k r hk e => by
    have hkl := (List.getElem?_eq_some_iff.1 hk).1
    refine nd_inj hS.nd (by rw [List.length_map]; exact hkl) (by rw [List.length_map]; exact hsl) ?_
    rw [List.getElem_map, List.getElem_map]
    rw [List.getElem?_eq_getElem hkl, Option.some.injEq] at hk
    rw [List.getElem?_eq_getElem hsl, Option.some.injEq] at hgs
    rw [hk, hgs]; exact e
  refine hK _ w3 ⟨((hS.ext.own hm1 hS.oo).own hm2 (hS.oset _ hms)).own hm3 hS.oout, ?_, ?_, ho3, ?_, ⟨?_, ?_⟩, ?_, hS.oo, hS.oout, ?_, hS.nlt, ?_, ?_⟩
  · have k1 := hS.nlt; have k2 := hS.oo; have k3 := hS.oout; have k4 := hS.oset _ hms
    exact ((hS.nums.mod hm1 (by omega)).mod hm2 (by omega)).mod hm3 (by omega)
  · have : tab N (ofI (addV st s j)) = tab N (upd (ofI st) j (s : Int)) := tab_congr fun q _ => by
      unfold upd
      by_cases e : q = j
      · rw [if_pos e]; exact ofI_some (by simp [addV, e])
      · rw [if_neg e]
        have e3 : (addV st s j).of q = st.of q := by simp [addV, e]
        unfold ofI; rw [e3]
    rw [this]
    exact (hof1.mod hm2 (fun e => hS.ne1 _ hms e.symm)).mod hm3 (fun e => hne.1 e.symm)
  · intro r hr
    obtain ⟨k, hk⟩ := List.getElem?_of_mem hr
    rcases hget k r hk with ⟨_, rfl⟩ | ⟨e1, hk'⟩
    · refine ⟨?_, ?_, fun q hq => ?_⟩
      · have : cast (rs.set ++ [j]) = cast rs.set ++ [i64 (j : Int)] := by unfold cast; rw [List.map_append, List.map_append]; rfl
        simp only [this]
        exact hnv.mod hm3 hnb'o
      · simp only
        rw [List.nodup_append]
        exact ⟨hsset.nd, by simp, fun a ha b hb e => by rw [List.mem_singleton] at hb; subst hb; subst e; exact hjr ha⟩
      · rcases List.mem_append.1 hq with hq | hq
        · exact hsset.lt q hq
        · rw [List.mem_singleton] at hq; subst hq; exact hj
    · have hr' := List.mem_of_getElem? hk'
      exact ((hset1 r hr').mod hm2 (fun e => e1 (hsbinj k r hk' e))).mod hm3 (fun e => hne.2 r hr' e.symm)
  · show _ = st.vs
    rw [← hS.rel.vs]
    apply List.ext_getElem?
    intro k
    rw [List.getElem?_map, List.getElem?_map]
    by_cases e1 : k = s
    · subst e1
      rw [List.getElem?_set_self hsl, hgs]; rfl
    · rw [List.getElem?_set_ne (fun e => e1 e.symm)]
  · intro k r hk q
    show _ ↔ st.mem k q ∨ k = s ∧ q = j
    rcases hget k r hk with ⟨rfl, rfl⟩ | ⟨e1, hk'⟩
    · simp only [List.mem_append, List.mem_singleton, hS.rel.mem k rs hgs, true_and]
    · simp only [hS.rel.mem k r hk', e1, false_and, or_false]
  · exact hS.inv.add (hS.inv.lt q2 s hq2) hnj fun q hm => hS.inv.all q2 s q hq2 hm
  · intro r hr
    obtain ⟨k, hk⟩ := List.getElem?_of_mem hr
    rcases hget k r hk with ⟨_, rfl⟩ | ⟨e1, hk'⟩
    · show w0.heap.size ≤ nb'
      rcases hor with rfl | h'
      · exact hS.oset _ hms
      · omega
    · exact hS.oset _ (List.mem_of_getElem? hk')
  · intro r hr
    obtain ⟨k, hk⟩ := List.getElem?_of_mem hr
    rcases hget k r hk with ⟨_, rfl⟩ | ⟨e1, hk'⟩
    · exact hnb'ob
    · exact hS.ne1 _ (List.mem_of_getElem? hk')
  · rw [List.map_set]
    refine nodup_set hS.nd fun k hks e => ?_
    have hkl : k < S.length := by
      have := (List.getElem?_eq_some_iff.1 e).1
      rwa [List.length_map] at this
    rw [List.getElem?_map, List.getElem?_eq_getElem hkl, Option.map_some, Option.some.injEq] at e
    rcases hor with h' | h'
    · exact hks (hsbinj k _ (List.getElem?_eq_getElem hkl) (by rw [e]; exact h'))
    · have := (hset1 _ (List.getElem_mem hkl)).sl.lt
      rw [e] at this
      have e2 : ({ rs with sv := nv', set := rs.set ++ [j], sb := nb' } : VR).sb = nb' := rfl
      rw [e2] at this
      omega
theorem l09Valleys_c {w : World} {W H nb : Nat} {num : Nat → Int} {nv : Value} {K : Value → World → Prop} (h1 : 1 ≤ W) (h2 : W ≤ 16) (h3 : 1 ≤ H) (h4 : H ≤ 16) (hn : Sl1 w ty_int64 nv ((tab (W * H) num).map i64) nb)
    (hK : ∀ outv outb S w', Ext w w' → w.heap.size ≤ outb → VRs w' outv S outb → (∀ r ∈ S, SetOk w' (W * H) r) → (∀ r ∈ S, w.heap.size ≤ r.sb) → Rel (runV num (near W H) (ordK (W * H) num 100 0)) S → K outv w') : callS Pg n_l09Valleys #[i64 W, nv] w K := by
  refine call_l09Valleys _ _ _ _ ?_
  unfold S_l09Valleys
  have ha : W * H ≤ 256 := Nat.mul_le_mul h2 h4
  generalize hN : W * H = N at ha hn hK
  refine own_nil (enc := valE) (k := 4) (T := ty_Sspec_l09Valley) rfl fun outv0 outb0 w1 he1 hob1 hout1 => ?_
  refine int_len rfl (hn.ext he1) ?_
  rw [tab_len]
  refine sl1_make (E := ty_int64) (i64 0) (by kernel_rfl) (by kernel_rfl) (by omega) fun ov ob w2 he2 hob2 hov => ?_
  refine sl1_len (by kernel_rfl) hov ?_
  rw [List.length_replicate]
  have z1 := he1.size; have z2 := he2.size
  have hnl := hn.lt; have houtl := hout1.lt
  refine loopS_i (fun s w' => ∃ i : Nat, s = [i64 i] ∧ i ≤ N ∧ Ext w w' ∧ VRs w' outv0 [] outb0 ∧ Sl1 w' ty_int64 ov ((tab N fun q => if q < i then (-1 : Int) else 0).map i64) ob) (fun s _ => N - (intOf (nth s 0)).toNat)
    ⟨0, rfl, by omega, he1.trans he2, hout1.ext he2, ?_⟩ ?_
  · have : (List.replicate N (i64 0)) = (tab N fun q => if q < 0 then (-1 : Int) else 0).map i64 := by
      unfold tab
      rw [List.map_map]
      apply List.ext_getElem?
      intro k
      rw [List.getElem?_replicate, List.getElem?_map]
      by_cases hk : k < N
      · rw [if_pos hk, List.getElem?_range hk]; rfl
      · rw [if_neg hk, List.getElem?_eq_none (by simp; omega)]; rfl
    rw [← this]; exact hov
  clear hov
  rintro g s w3 ⟨i, rfl, hi, hE, hout, hov⟩
  rw [nth0]
  refine lss_i (ifB_i (fun hlt => ?_) (fun hlt => ?_))
  · refine int_set ⟨rfl, rfl⟩ hov (by omega) (by rw [Int.toNat_natCast, tab_len]; omega) fun w4 hm hov' => ?_
    rw [Int.toNat_natCast, tab_set] at hov'
    refine add_i (.of (by omega) (by omega)) ?_
    refine ⟨⟨i + 1, by simp, by omega, hE.own hm (by omega), hout.mod hm (by omega), ?_⟩, by simp only [nth0, intOf]; omega⟩
    have : tab N (upd (fun q => if q < i then (-1 : Int) else 0) i (-1)) = tab N fun q => if q < i + 1 then (-1 : Int) else 0 := tab_congr fun q _ => by
      unfold upd
      by_cases e : q = i
      · rw [if_pos e, if_pos (by omega)]
      · rw [if_neg e]
        show (if q < i then (-1 : Int) else 0) = _
        by_cases e2 : q < i
        · rw [if_pos e2, if_pos (by omega)]
        · rw [if_neg e2, if_neg (by omega)]
    rw [← this]; exact hov'
  · have : i = N := by omega
    subst this
    have hstart : SM w w3 i num nv nb ov ob outv0 outb0 [] (runV num (near W H) (ordK i num 0 0)) := by
      have e0 : runV num (near W H) (ordK i num 0 0) = startV := rfl
      rw [e0]
      refine ⟨hE, hn.ext hE, ?_, hout, fun r hr => (by cases hr), ⟨rfl, fun j r hr => (by simp at hr)⟩, InvV.start, by omega, by omega, fun r hr => (by cases hr), hnl, fun r hr => (by cases hr), List.nodup_nil⟩
      have : (tab i fun q => if q < i then (-1 : Int) else 0) = tab i (ofI startV) := tab_congr fun q hq => by rw [if_pos hq]; rfl
      rw [← this]; exact hov
    clear hov hout hlt hi hE he2 he1 hob1 hout1 hob2 z1 z2
    refine loopS_i (fun s w' => ∃ (outv : Value) (outb L : Nat) (S : List VR), s = [outv, i64 L] ∧ L ≤ 100 ∧ SM w w' i num nv nb ov ob outv outb S (runV num (near W H) (ordK i num L 0))) (fun s _ => 100 - (intOf (nth s 1)).toNat) ⟨outv0, outb0, 0, [], rfl, by omega, hstart⟩ ?_
    clear hstart
    rintro g2 s2 w4 ⟨outv, outb, L, S, rfl, hL, hS⟩
    rw [nth0, nth1]
    refine leq_i (ifB_i (fun hle => ?_) (fun hle => ?_))
    · refine loopS_i (fun s w' => ∃ (outv : Value) (outb j : Nat) (S : List VR), s = [outv, i64 j] ∧ j ≤ i ∧ SM w w' i num nv nb ov ob outv outb S (runV num (near W H) (ordK i num L j))) (fun s _ => i - (intOf (nth s 1)).toNat) ⟨outv, outb, 0, S, rfl, by omega, hS⟩ ?_
      clear hS
      clear outv outb S w4
      rintro g3 s3 w4 ⟨outv, outb, j, S, rfl, hj, hS⟩
      rw [nth0, nth1]
      refine lss_i (ifB_i (fun hlt => ?_) (fun hlt => ?_))
      · have hjN : j < i := by omega
        refine joinS_k fun J hJ => ?_
        have fin : ∀ (outv' : Value) (outb' : Nat) (S' : List VR) w', SM w w' i num nv nb ov ob outv' outb' S' (runV num (near W H) (ordK i num L (j + 1))) → J [outv'] w' := by
          intro outv' outb' S' w' hS'
          refine hJ _ _ fun _ => ?_
          refine add_i (.of (by omega) (by omega)) ?_
          rw [nth0]
          exact ⟨⟨outv', outb', j + 1, S', by simp, by omega, hS'⟩, by simp only [nth1, intOf]; omega⟩
        clear hJ
        refine int_get ⟨rfl, rfl⟩ hS.nums (by omega) (tab_get (i := j) hjN) ?_
        refine neq_i (ifB_i (fun hne => ?_) (fun heq => ?_))
        · rw [ordK_no hne] at fin
          exact fin outv outb S w4 hS
        · have hnum : num j = L := Decidable.not_not.1 heq
          rw [ordK_yes hnum, run_snoc] at fin
          have hnj : (runV num (near W H) (ordK i num L j)).of j = none := run_none.2 fun hm => by
            rcases ordK_mem.1 hm with h | h <;> omega
          have hvsl : (runV num (near W H) (ordK i num L j)).vs.length ≤ 100000 := by
            refine Nat.le_trans (run_len _) (Nat.le_trans (ordK_len i num L j) ?_)
            have := Nat.mul_le_mul hL ha
            omega
          generalize runV num (near W H) (ordK i num L j) = st at hS fin hnj hvsl
          rw [← hN]
          refine l09Near_c h1 h2 h3 h4 (by rw [hN]; exact hjN) fun nrv nrb w5 he5 hnrb hnr => ?_
          have hS5 := hS.step he5
          have hnrl := near_le W H j
          have hnr_lt : ∀ q ∈ near W H j, q < i := fun q hq => by have := near_lt hq; rw [hN] at this; exact this
          have hobl := hS.of.lt
          have houtl := hS.out.lt
          have hsbl : ∀ r ∈ S, r.sb < w4.heap.size := fun r hr => (hS.set r hr).sl.lt
          have hfr : nrb ≠ ob ∧ nrb ≠ outb ∧ ∀ r ∈ S, r.sb ≠ nrb := ⟨by omega, by omega, fun r hr => by have := hsbl r hr; omega⟩
          clear hnrb hsbl hobl houtl hS
          refine int_len rfl hnr ?_
          rw [List.length_map]
          -- the oldest beside it
          refine loopS_i (fun s w' => ∃ (m : Int) (k : Nat), s = [i64 m, i64 k] ∧ k ≤ (near W H j).length ∧ w' = w5 ∧ Stays (roots st ((near W H j).take k)) m) (fun s _ => (near W H j).length - (intOf (nth s 1)).toNat) ⟨-1, 0, rfl, by omega, rfl, .inl ⟨rfl, rfl⟩⟩ ?_
          rintro g4 s4 w6 ⟨m, k, rfl, hk, rfl, hst⟩
          rw [nth0, nth1]
          refine lss_i (ifB_i (fun hlt2 => ?_) (fun hlt2 => ?_))
          · have hkl : k < (near W H j).length := by omega
            have hgk := getCast (List.getElem?_eq_getElem hkl)
            have htk : (near W H j).take (k + 1) = (near W H j).take k ++ [(near W H j)[k]] := List.take_succ_eq_append_getElem hkl
            have hqi := hnr_lt _ (List.getElem_mem hkl)
            generalize (near W H j)[k] = q at hgk htk hqi
            refine joinS_k fun J2 hJ2 => ?_
            have fin2 : ∀ m' : Int, Stays (roots st ((near W H j).take (k + 1))) m' → J2 [i64 m'] w6 := by
              intro m' hm'
              refine hJ2 _ _ fun _ => ?_
              refine add_i (.of (by omega) (by omega)) ?_
              rw [nth0]
              exact ⟨⟨m', k + 1, by simp, by omega, rfl, hm'⟩, by simp only [nth1, intOf]; omega⟩
            clear hJ2
            rw [htk, roots_snoc] at fin2
            refine int_get ⟨rfl, rfl⟩ hnr (by omega) (by rw [Int.toNat_natCast]; exact hgk) ?_
            refine int_get ⟨rfl, rfl⟩ hS5.of (by omega) (tab_get (i := q) hqi) ?_
            refine geq_i ?_
            rcases hq : st.of q with _ | v
            · rw [ofI_none hq, decide_eq_false (by omega)]
              rw [hq] at fin2
              have := fin2 m (by simpa using hst)
              rw [joinS_eq, ifG_eq_t, if_neg (by simp)]
              intro g5
              rw [joinS_eq, nth0, ifG_undef]
              intro g6
              rw [joinS_eq, ifG_eq_t, if_neg (by simp)]
              intro g7
              rw [pickS_eq, cond_false, ifB_eq, if_neg (by simp)]
              exact this
            · rw [ofI_some hq, decide_eq_true (by omega)]
              rw [hq] at fin2
              have hadd := hst.add (x := v)
              rw [joinS_eq, ifG_eq_t, if_pos rfl]
              refine lss_i ?_
              intro g5
              rw [joinS_eq, nth0]
              by_cases hm0 : m < 0
              · rw [decide_eq_true hm0, ifG_eq_f, if_pos rfl]
                intro g6
                rw [joinS_eq, ifG_eq_t, if_pos rfl, pickS_eq, cond_true]
                intro g7
                rw [pickS_eq, cond_true, nth0, ifB_eq, if_pos rfl]
                rw [if_pos (.inl hm0)] at hadd
                exact fin2 _ hadd
              · rw [decide_eq_false hm0, ifG_eq_f, if_neg (by simp)]
                refine lss_i ?_
                intro g6
                rw [joinS_eq, ifG_eq_t, if_pos rfl, pickS_eq, cond_false, nth0]
                intro g7
                rw [pickS_eq, cond_true, nth0]
                refine ifB_i (fun hlt3 => ?_) (fun hlt3 => ?_)
                · rw [if_pos (.inr hlt3)] at hadd; exact fin2 _ hadd
                · rw [if_neg (by omega)] at hadd; exact fin2 _ hadd
          · have hkk : k = (near W H j).length := by omega
            subst hkk
            rw [List.take_length] at hst
            have hSl := hS5.len
            refine lss_i (ifB_i (fun hlt3 => ?_) (fun hlt3 => ?_))
            · -- a valley is born
              have hR : roots st (near W H j) = [] := by
                rcases hst with h | ⟨m', rfl, _⟩
                · exact h.1
                · omega
              have hstep : stepV num (near W H) st j = addV (bornV num st j) st.vs.length j := by unfold stepV; rw [if_pos hR]
              rw [hstep] at fin
              exact birthS hS5 hjN hnj hR hvsl (by omega) hnum fun outv' outb' S' w' h => fin outv' outb' S' w' h
            · -- valleys end
              obtain ⟨s, rfl, hsR, hsmin⟩ : ∃ s : Nat, m = (s : Int) ∧ s ∈ roots st (near W H j) ∧ ∀ x ∈ roots st (near W H j), s ≤ x := by
                rcases hst with h | h
                · omega
                · exact h
              have hRne : roots st (near W H j) ≠ [] := fun e => by rw [e] at hsR; cases hsR
              have hstep : stepV num (near W H) st j = addV (mergeV st s (roots st (near W H j)) L) s j := by
                unfold stepV; rw [if_neg hRne, minL_eq hsR hsmin, hnum]
              have halive : ∀ v ∈ roots st (near W H j), ∃ q, st.of q = some v := fun v hv => by obtain ⟨q, _, h⟩ := roots_mem.1 hv; exact ⟨q, h⟩
              rw [hstep] at fin
              have hsl : s < S.length := by obtain ⟨q, h⟩ := halive s hsR; exact of_lt hS5 h
              refine int_len rfl hnr ?_
              rw [List.length_map]
              refine loopS_i (fun s' w' => ∃ (k : Nat) (S' : List VR), s' = [i64 k] ∧ k ≤ (near W H j).length ∧ SM w w' i num nv nb ov ob outv outb S' (mergeV st s (roots st ((near W H j).take k)) L) ∧ (∀ r ∈ S', r.sb ≠ nrb) ∧ Sl1 w' ty_int64 nrv (((near W H j).map fun (q : Nat) => (q : Int)).map i64) nrb ∧ S'.length = S.length) (fun s' _ => (near W H j).length - (intOf (nth s' 0)).toNat)
                ⟨0, S, rfl, by omega, by rw [List.take_zero, show roots st [] = [] from rfl, merge_nil]; exact hS5, hfr.2.2, hnr, rfl⟩ ?_
              clear hnr
              rintro g5 s5 w7 ⟨k, S', rfl, hk, hS7, hnb7, hnr7, hlen7⟩
              rw [nth0]
              refine lss_i (ifB_i (fun hlt4 => ?_) (fun hlt4 => ?_))
              · have hkl : k < (near W H j).length := by omega
                have hgk := getCast (List.getElem?_eq_getElem hkl)
                have htk : (near W H j).take (k + 1) = (near W H j).take k ++ [(near W H j)[k]] := List.take_succ_eq_append_getElem hkl
                have hqi := hnr_lt _ (List.getElem_mem hkl)
                have hqR : ∀ v, st.of (near W H j)[k] = some v → v ∈ roots st (near W H j) := fun v hv => roots_mem.2 ⟨_, List.getElem_mem hkl, hv⟩
                have hRk : ∀ v ∈ roots st ((near W H j).take k), v ∈ roots st (near W H j) := fun v hv => by
                  obtain ⟨q, hq, h⟩ := roots_mem.1 hv
                  exact roots_mem.2 ⟨q, List.mem_of_mem_take hq, h⟩
                generalize (near W H j)[k] = q at hgk htk hqi hqR
                refine joinS_k fun J2 hJ2 => ?_
                have fin2 : ∀ (S2 : List VR) w', SM w w' i num nv nb ov ob outv outb S2 (mergeV st s (roots st ((near W H j).take (k + 1))) L) → (∀ r ∈ S2, r.sb ≠ nrb) → Sl1 w' ty_int64 nrv (((near W H j).map fun (q : Nat) => (q : Int)).map i64) nrb → S2.length = S.length → J2 [] w' := by
                  intro S2 w' a1 a2 a3 a4
                  refine hJ2 _ _ fun _ => ?_
                  refine add_i (.of (by omega) (by omega)) ?_
                  exact ⟨⟨k + 1, S2, by simp, by omega, a1, a2, a3, a4⟩, by simp only [nth0, intOf]; omega⟩
                clear hJ2
                rw [htk, roots_snoc] at fin2
                refine int_get ⟨rfl, rfl⟩ hnr7 (by omega) (by rw [Int.toNat_natCast]; exact hgk) ?_
                refine int_get ⟨rfl, rfl⟩ hS7.of (by omega) (tab_get (i := q) hqi) ?_
                refine lss_i ?_
                rw [joinS_eq]
                rcases hq : st.of q with _ | u
                · have hofk : (mergeV st s (roots st ((near W H j).take k)) L).of q = none := by simp [mergeV, hq]
                  rw [ofI_none hofk, decide_eq_true (by omega), ifG_eq_f, if_pos rfl]
                  intro g6
                  rw [pickS_eq, cond_true, ifB_eq, if_pos rfl]
                  rw [hq] at fin2
                  exact fin2 S' w7 (by simpa using hS7) hnb7 hnr7 hlen7
                · rw [hq] at fin2
                  have huR := hqR u hq
                  by_cases huk : u ∈ roots st ((near W H j).take k) ∨ u = s
                  · have hofk : (mergeV st s (roots st ((near W H j).take k)) L).of q = some s := by
                      simp only [mergeV, hq, Option.map_some, Option.some.injEq]
                      rcases huk with h | h
                      · rw [if_pos h]
                      · rw [h, ite_self]
                    rw [ofI_some hofk, decide_eq_false (by omega), ifG_eq_f, if_neg (by simp)]
                    refine eql_i ?_
                    intro g6
                    rw [pickS_eq, cond_false, nth0, decide_eq_true rfl, ifB_eq, if_pos rfl]
                    have e : mergeV st s (roots st ((near W H j).take k) ++ (some u).toList) L = mergeV st s (roots st ((near W H j).take k)) L := by
                      rcases huk with h | h
                      · refine merge_congr fun v => ?_
                        simp only [Option.toList_some, List.mem_append, List.mem_singleton]
                        exact ⟨fun h' => h'.elim id (fun e => by rw [e]; exact h), .inl⟩
                      · subst h
                        rw [← merge_self (R := roots st ((near W H j).take k)) (fun _ => trivial)]
                        refine merge_congr fun v => ?_
                        simp only [Option.toList_some, List.mem_append, List.mem_singleton, List.mem_cons]
                        simp only [List.not_mem_nil, or_false]
                        exact Or.comm
                    rw [e] at fin2
                    exact fin2 S' w7 hS7 hnb7 hnr7 hlen7
                  · have hu1 : u ∉ roots st ((near W H j).take k) := fun h => huk (.inl h)
                    have hu2 : u ≠ s := fun h => huk (.inr h)
                    have hofk : (mergeV st s (roots st ((near W H j).take k)) L).of q = some u := by
                      simp only [mergeV, hq, Option.map_some, if_neg hu1]
                    rw [ofI_some hofk, decide_eq_false (by omega), ifG_eq_f, if_neg (by simp)]
                    refine eql_i ?_
                    intro g6
                    rw [pickS_eq, cond_false, nth0, decide_eq_false (by omega), ifB_eq, if_neg (by simp)]
                    have hul := of_lt hS7 hofk
                    have hsl' : s < S'.length := by omega
                    obtain ⟨m1, m2, m3⟩ := merge_snoc (st := st) (l := (L : Int)) hu1 hu2
                    obtain ⟨qs, hqs⟩ := halive s hsR
                    have hals : (mergeV st s (roots st ((near W H j).take k)) L).of qs = some s := by simp [mergeV, hqs]
                    have hinv' : InvV (mergeV st s (roots st ((near W H j).take k) ++ [u]) L) := by
                      rw [← merge_self (R := roots st ((near W H j).take k) ++ [u]) (fun _ => trivial)]
                      refine hS5.inv.merge (List.mem_cons_self ..) fun v hv => ?_
                      rcases List.mem_cons.1 hv with rfl | hv
                      · exact ⟨qs, hqs⟩
                      · rcases List.mem_append.1 hv with hv | hv
                        · exact halive v (hRk v hv)
                        · rw [List.mem_singleton] at hv; subst hv; exact ⟨q, hq⟩
                    refine merge1S hS7 ha hu2 (List.getElem?_eq_getElem hul) (List.getElem?_eq_getElem hsl') ⟨q, hofk⟩ ⟨qs, hals⟩ m1 m2 m3 hinv' fun S2 w8 hS8 hm8 hb8 => ?_
                    have hnrl8 := hnr7.lt
                    refine fin2 S2 w8 hS8 (fun r hr => ?_) (hnr7.mod hm8 ?_) ?_
                    · rcases hb8 r hr with ⟨r', hr', e⟩ | h
                      · rw [e]; exact hnb7 r' hr'
                      · omega
                    · rintro (h | h | ⟨r, hr, h⟩)
                      · exact hfr.2.1 h
                      · exact hfr.1 h
                      · exact hnb7 r hr h.symm
                    · rw [hS8.len, m2, List.length_modify, ← hS7.len]; exact hlen7
              · have hkk : k = (near W H j).length := by omega
                subst hkk
                rw [List.take_length] at hS7
                have hsl' : s < S'.length := by omega
                exact addS hS7 hjN hnj hsl' (by obtain ⟨qs, hqs⟩ := halive s hsR; exact ⟨qs, by simp [mergeV, hqs]⟩) ha (by simp [mergeV, hnj]) fun S2 w8 h8 => fin outv outb S2 w8 h8
      · have : j = i := by omega
        subst this
        refine add_i (.of (by omega) (by omega)) ?_
        rw [← ordK_level] at hS
        exact ⟨⟨outv, outb, L + 1, S, by simp, by omega, hS⟩, by simp only [nth1, intOf]; omega⟩
    · have : L = 100 := by omega
      subst this
      exact hK outv outb S w4 hS.ext hS.oout hS.out hS.set hS.oset hS.rel
end Go.Proofs.Ytfdmphgbodmkpaa
