/- Contracts of the reference's valleys. -/
import Derived.Test.YtfdmphgbodmkpaaCGrey3
import Derived.Test.YtfdmphgbodmkpaaPVal
set_option linter.unusedVariables false
set_option linter.unusedSimpArgs false
namespace Go.Proofs.Ytfdmphgbodmkpaa
open Go Go.SL Go.RowKit
set_option maxRecDepth 100000

/-- A valley of the reference: its numbers, its list. -/
structure VR where
  b : Int
  p : Nat
  d : Int
  sv : Value
  set : List Nat
  sb : Nat
def valE (r : VR) : List Value := [i64 r.b, i64 (r.p : Int), i64 r.d, r.sv]
theorem valE_len (r : VR) : (valE r).length = 4 := rfl
def cast (l : List Nat) : List Value := (l.map fun (q : Nat) => (q : Int)).map i64
theorem cast_len (l : List Nat) : (cast l).length = l.length := by simp [cast]
def VRs (w : World) (v : Value) (S : List VR) (b : Nat) : Prop := Own valE 4 w ty_spec_l09Valley v S b
/-- The list of a valley lies over a block of its own. -/
structure SetOk (w : World) (N : Nat) (r : VR) : Prop where
  sl : Sl1 w ty_int64 r.sv (cast r.set) r.sb
  nd : r.set.Nodup
  lt : ∀ q ∈ r.set, q < N
theorem SetOk.len {w : World} {N : Nat} {r : VR} (h : SetOk w N r) : r.set.length ≤ N := by
  have := nodup_le (S := r.set) (L := List.range N) h.nd (fun q hq => List.mem_range.2 (h.lt q hq))
  rwa [List.length_range] at this
theorem SetOk.mod {S : Nat → Prop} {w w' : World} {N : Nat} {r : VR} (h : SetOk w N r) (hm : Mod S w w') (hb : ¬ S r.sb) : SetOk w' N r := ⟨h.sl.mod hm hb, h.nd, h.lt⟩
/-- The valleys read as what has been added. -/
structure Rel (st : VSt) (S : List VR) : Prop where
  vs : S.map (fun r => (r.b, r.p, r.d)) = st.vs
  mem : ∀ j r, S[j]? = some r → ∀ q, q ∈ r.set ↔ st.mem j q
def ofI (st : VSt) (q : Nat) : Int := match st.of q with | none => -1 | some v => (v : Int)
/-- All that the loops over pixels have in hand. -/
structure SM (w0 w : World) (N : Nat) (num : Nat → Int) (nv : Value) (nb : Nat) (ov : Value) (ob : Nat) (outv : Value) (outb : Nat) (S : List VR) (st : VSt) : Prop where
  ext : Ext w0 w
  nums : Sl1 w ty_int64 nv ((tab N num).map i64) nb
  of : Sl1 w ty_int64 ov ((tab N (ofI st)).map i64) ob
  out : VRs w outv S outb
  set : ∀ r ∈ S, SetOk w N r
  rel : Rel st S
  inv : InvV st
  oo : w0.heap.size ≤ ob
  oout : w0.heap.size ≤ outb
  oset : ∀ r ∈ S, w0.heap.size ≤ r.sb
  nlt : nb < w0.heap.size
  ne1 : ∀ r ∈ S, r.sb ≠ ob
  nd : (S.map (·.sb)).Nodup
section
variable {w0 w : World} {N : Nat} {num : Nat → Int} {nv ov outv : Value} {nb ob outb : Nat} {S : List VR} {st : VSt}
theorem SM.step (h : SM w0 w N num nv nb ov ob outv outb S st) {w' : World} (he : Ext w w') : SM w0 w' N num nv nb ov ob outv outb S st :=
  ⟨h.ext.trans he, h.nums.ext he, h.of.ext he, h.out.ext he, fun r hr => (h.set r hr).mod he id, h.rel, h.inv, h.oo, h.oout, h.oset, h.nlt, h.ne1, h.nd⟩
theorem SM.len (h : SM w0 w N num nv nb ov ob outv outb S st) : S.length = st.vs.length := by rw [← h.rel.vs, List.length_map]
theorem SM.outne (h : SM w0 w N num nv nb ov ob outv outb S st) : outb ≠ ob ∧ ∀ r ∈ S, outb ≠ r.sb := by
  obtain ⟨cs, q⟩ := h.out.row
  refine ⟨fun e => ?_, fun r hr e => ?_⟩
  · obtain ⟨c2, q2⟩ := h.of.cells
    rw [e] at q
    exact at_ne q q2 (by decide) rfl
  · obtain ⟨c2, q2⟩ := (h.set r hr).sl.cells
    rw [e] at q
    exact at_ne q q2 (by decide) rfl
theorem of_lt (h : SM w0 w N num nv nb ov ob outv outb S st) {q v : Nat} (hv : st.of q = some v) : v < S.length := by rw [h.len]; exact h.inv.lt q v hv

theorem nodup_set {l : List Nat} {s x : Nat} (h : l.Nodup) (hx : ∀ k, k ≠ s → l[k]? ≠ some x) : (l.set s x).Nodup := by
  unfold List.Nodup
  rw [List.pairwise_iff_getElem]
  intro i j hi hj hij
  rw [List.length_set] at hi hj
  rw [List.getElem_set, List.getElem_set]
  split
  · rw [if_neg (by omega)]
    intro e
    exact hx j (by omega) (by rw [List.getElem?_eq_getElem hj, ← e])
  · split
    · intro e
      exact hx i (by omega) (by rw [List.getElem?_eq_getElem hi, e])
    · exact List.pairwise_iff_getElem.1 h i j hi hj hij
theorem getCast {l : List Nat} {j q : Nat} (h : l[j]? = some q) : (l.map fun (q : Nat) => (q : Int))[j]? = some (q : Int) := by rw [List.getElem?_map, h]; rfl
theorem ofI_some {st : VSt} {q v : Nat} (h : st.of q = some v) : ofI st q = (v : Int) := by unfold ofI; rw [h]
theorem ofI_none {st : VSt} {q : Nat} (h : st.of q = none) : ofI st q = -1 := by unfold ofI; rw [h]
theorem val_fld {f : Nat} (h : f < 4) : fieldOff Pg ty_spec_l09Valley f = some f := by
  obtain rfl | rfl | rfl | rfl : f = 0 ∨ f = 1 ∨ f = 2 ∨ f = 3 := by omega
  all_goals kernel_rfl

theorem val_get {j : Int} {x : VR} {f T3 : Nat} {y : Value} {K : Value → Prop} (h : VRs w outv S outb) (h0 : 0 ≤ j) (hx : S[j.toNat]? = some x) (hf : f < 4) (hP : plainT Pg T3 = true) (hy : (valE x)[f]? = some y) (hK : K y) :
    pur Pg (Instr.indexAt ty_Sspec_l09Valley outv (i64 j)) fun t => pur Pg (Instr.fieldAt ty_spec_l09Valley t f) fun t => rd Pg (Instr.loadAt T3 t) w K :=
  own_get (k := 4) (T := ty_Sspec_l09Valley) rfl valE_len h h0 hx hf (val_fld hf) hP hy hK
theorem val_set {j : Int} {x : VR} {f T3 : Nat} {y : Value} {K : World → Prop} (x' : VR) (h : VRs w outv S outb) (h0 : 0 ≤ j) (hx : S[j.toNat]? = some x) (hf : f < 4) (hP : plainT Pg T3 = true) (h1 : SL.one y = true) (he : valE x' = (valE x).set f y) (hK : ∀ w', Mod (· = outb) w w' → VRs w' outv (S.set j.toNat x') outb → K w') :
    pur Pg (Instr.indexAt ty_Sspec_l09Valley outv (i64 j)) fun t => pur Pg (Instr.fieldAt ty_spec_l09Valley t f) fun t => effU Pg (Instr.storeAt T3 t y) w K :=
  own_set (k := 4) (T := ty_Sspec_l09Valley) rfl valE_len h h0 hx hf (val_fld hf) hP h1 he hK
/-- One valley ends in another. -/
theorem merge1S {s v : Nat} {l : Int} {st' : VSt} {rs rv : VR} {K : World → Prop} (hS : SM w0 w N num nv nb ov ob outv outb S st) (hN : N ≤ 256) (hvs : v ≠ s) (hrv : S[v]? = some rv) (hrs : S[s]? = some rs)
    (hav : ∃ q, st.of q = some v) (has : ∃ q, st.of q = some s) (h1 : ∀ q, st'.of q = if st.of q = some v then some s else st.of q) (h2 : st'.vs = st.vs.modify v (fun e => (e.1, e.2.1, l))) (h3 : ∀ x q, st'.mem x q ↔ st.mem x q ∨ x = s ∧ st.mem v q) (hinv : InvV st')
    (hK : ∀ S' w', SM w0 w' N num nv nb ov ob outv outb S' st' → Mod (fun b => b = outb ∨ b = ob ∨ ∃ r ∈ S, b = r.sb) w w' → (∀ r' ∈ S', (∃ r ∈ S, r'.sb = r.sb) ∨ w.heap.size ≤ r'.sb) → K w') :
    pur Pg (Instr.indexAt ty_Sspec_l09Valley outv (i64 (v : Int))) fun t113_79 =>
  pur Pg (Instr.fieldAt ty_spec_l09Valley t113_79 2) fun t114_80 =>
  effU Pg (Instr.storeAt ty_int64 t114_80 (i64 l)) w fun w =>
  pur Pg (Instr.indexAt ty_Sspec_l09Valley outv (i64 (v : Int))) fun t117_81 =>
  pur Pg (Instr.fieldAt ty_spec_l09Valley t117_81 3) fun t118_82 =>
  rd Pg (Instr.loadAt ty_Sint64 t118_82) w fun t119_83 =>
  rd Pg (Builtin.len_ #[ty_Sint64] ty_int #[t119_83]) w fun t120_84 =>
  loopS (fun N85 _ s87 w =>
  pur Pg (binOp Go.BinOp.lss ty_int (nth s87 0) t120_84) fun t122_88 =>
  ifB t122_88 (pur Pg (Instr.indexAt ty_Sspec_l09Valley outv (i64 (v : Int))) fun t127_89 =>
  pur Pg (Instr.fieldAt ty_spec_l09Valley t127_89 3) fun t128_90 =>
  rd Pg (Instr.loadAt ty_Sint64 t128_90) w fun t129_91 =>
  pur Pg (Instr.indexAt ty_Sint64 t129_91 (nth s87 0)) fun t131_92 =>
  rd Pg (Instr.loadAt ty_int64 t131_92) w fun t132_93 =>
  pur Pg (Instr.indexAt ty_Sint64 ov t132_93) fun t134_94 =>
  effU Pg (Instr.storeAt ty_int64 t134_94 (i64 (s : Int))) w fun w =>
  pur Pg (binOp Go.BinOp.add ty_int (nth s87 0) (Go.Value.int Go.IntKind.i64 1)) fun t135_95 =>
  N85 [t135_95] w)
  (drawS w fun w =>
  pur Pg (Instr.indexAt ty_Sspec_l09Valley outv (i64 (s : Int))) fun t140_96 =>
  pur Pg (Instr.fieldAt ty_spec_l09Valley t140_96 3) fun t141_97 =>
  rd Pg (Instr.loadAt ty_Sint64 t141_97) w fun t142_98 =>
  pur Pg (Instr.indexAt ty_Sspec_l09Valley outv (i64 (v : Int))) fun t145_99 =>
  pur Pg (Instr.fieldAt ty_spec_l09Valley t145_99 3) fun t146_100 =>
  rd Pg (Instr.loadAt ty_Sint64 t146_100) w fun t147_101 =>
  eff Pg (Builtin.append_ #[ty_Sint64, ty_Sint64] ty_Sint64 #[t142_98, t147_101]) w fun t148_102 w =>
  pur Pg (Instr.indexAt ty_Sspec_l09Valley outv (i64 (s : Int))) fun t149_103 =>
  pur Pg (Instr.fieldAt ty_spec_l09Valley t149_103 3) fun t150_104 =>
  effU Pg (Instr.storeAt ty_Sint64 t150_104 t148_102) w fun w =>
  K w)) [(Go.Value.int Go.IntKind.i64 0)] w := by
  obtain ⟨q1, hq1⟩ := hav
  obtain ⟨q2, hq2⟩ := has
  have hvl : v < S.length := (List.getElem?_eq_some_iff.1 hrv).1
  have hsl : s < S.length := (List.getElem?_eq_some_iff.1 hrs).1
  have hmv : rv ∈ S := List.mem_of_getElem? hrv
  have hms : rs ∈ S := List.mem_of_getElem? hrs
  obtain ⟨hn1, hn2⟩ := hS.outne
  have hov := hS.out
  have hvset := hS.set _ hmv
  have hsset := hS.set _ hms
  have hinS : ∀ q, q ∈ rv.set ↔ st.of q = some v := fun q => by
    rw [hS.rel.mem v rv hrv]
    exact ⟨fun h => hS.inv.all q1 v q hq1 h, fun h => hS.inv.mem q v h⟩
  have hinT : ∀ q, q ∈ rs.set ↔ st.of q = some s := fun q => by
    rw [hS.rel.mem s rs hrs]
    exact ⟨fun h => hS.inv.all q2 s q hq2 h, fun h => hS.inv.mem q s h⟩
  have hsbne : rs.sb ≠ rv.sb := fun e => by
    have : (S.map (·.sb))[s]'(by rw [List.length_map]; exact hsl) = (S.map (·.sb))[v]'(by rw [List.length_map]; exact hvl) := by
      rw [List.getElem_map, List.getElem_map]
      rw [List.getElem?_eq_getElem hvl, Option.some.injEq] at hrv
      rw [List.getElem?_eq_getElem hsl, Option.some.injEq] at hrs
      rw [hrv, hrs]; exact e
    exact hvs (nd_inj hS.nd (by rw [List.length_map]; exact hsl) (by rw [List.length_map]; exact hvl) this).symm
  refine val_set (x := rv) { rv with d := l } hov (by omega) (by rw [Int.toNat_natCast]; exact hrv) (by decide) (by kernel_rfl) rfl rfl fun w1 hm1 ho1 => ?_
  rw [Int.toNat_natCast] at ho1
  have hrv1 : (S.set v { rv with d := l })[((v : Nat) : Int).toNat]? = some { rv with d := l } := by rw [Int.toNat_natCast, List.getElem?_set_self hvl]
  have hrs1 : (S.set v { rv with d := l })[((s : Nat) : Int).toNat]? = some rs := by rw [Int.toNat_natCast, List.getElem?_set_ne hvs]; exact hrs
  refine val_get (f := 3) ho1 (by omega) hrv1 (by decide) (by kernel_rfl) rfl ?_
  have hv1 := hvset.sl.mod hm1 (fun e => hn2 _ hmv e.symm)
  have hvn := hvset.len
  have hsn := hsset.len
  refine int_len rfl hv1 ?_
  rw [List.length_map]
  refine loopS_i (fun s' w' => ∃ j : Nat, s' = [i64 j] ∧ j ≤ rv.set.length ∧ Mod (fun b => b = outb ∨ b = ob ∨ ∃ r ∈ S, b = r.sb) w w' ∧ Sl1 w' ty_int64 ov ((tab N fun q => if q ∈ rv.set.take j then (s : Int) else ofI st q).map i64) ob ∧ VRs w' outv (S.set v { rv with d := l }) outb ∧ (∀ r ∈ S, SetOk w' N r) ∧ w'.heap[nb]? = w.heap[nb]? ∧ Ext w0 w') (fun s' _ => rv.set.length - (intOf (nth s' 0)).toNat)
    ⟨0, rfl, by omega, hm1.mono (fun k _ e => .inl e), ?_, ho1, fun r hr => (hS.set r hr).mod hm1 (fun e => hn2 r hr e.symm), hm1.block nb (by have := hS.nlt; have := hS.ext.size; omega) (by have := hS.nlt; have := hS.oout; omega), hS.ext.own hm1 hS.oout⟩ ?_
  · simpa using hS.of.mod hm1 (fun e => hn1 e.symm)
  clear ho1 hm1 hv1
  clear w1
  rintro g s' w1 ⟨j, rfl, hj, hm1, hof1, hout1, hset1, hnb1, hE1⟩
  rw [nth0]
  refine lss_i (ifB_i (fun hlt => ?_) (fun hlt => ?_))
  · have hjl : j < rv.set.length := by omega
    have hqN := hvset.lt _ (List.getElem_mem hjl)
    refine val_get (f := 3) hout1 (by omega) hrv1 (by decide) (by kernel_rfl) rfl ?_
    refine int_get ⟨rfl, rfl⟩ (hset1 _ hmv).sl (by omega) (getCast (q := rv.set[j]) (by rw [Int.toNat_natCast, List.getElem?_eq_getElem hjl])) ?_
    refine int_set ⟨rfl, rfl⟩ hof1 (by omega) (by rw [Int.toNat_natCast, tab_len]; exact hqN) fun w2 hm2 hof2 => ?_
    rw [Int.toNat_natCast, tab_set] at hof2
    refine add_i (.of (by omega) (by omega)) ?_
    refine ⟨⟨j + 1, by simp, by omega, hm1.trans (hm2.mono fun k _ e => .inr (.inl e)), ?_, hout1.mod hm2 hn1, fun r hr => (hset1 r hr).mod hm2 (hS.ne1 r hr), ?_, hE1.own hm2 hS.oo⟩, by simp only [nth0, intOf]; omega⟩
    · have : tab N (upd (fun q => if q ∈ rv.set.take j then (s : Int) else ofI st q) rv.set[j] (s : Int)) = tab N (fun q => if q ∈ rv.set.take (j + 1) then (s : Int) else ofI st q) := tab_congr fun q _ => by
        unfold upd
        rw [List.take_succ_eq_append_getElem hjl]
        simp only [List.mem_append, List.mem_singleton]
        by_cases e : q = rv.set[j]
        · rw [if_pos e, if_pos (.inr e)]
        · rw [if_neg e]; simp [e]
      rw [← this]; exact hof2
    · rw [← hnb1]
      refine hm2.block nb ?_ (by have := hS.nlt; have := hS.oo; omega)
      have := hS.nlt; have := hE1.size; omega
  · have : j = rv.set.length := by omega
    subst this
    rw [List.take_length] at hof1
    refine drawS_i ?_
    have hd := (Same.drew w1).ext
    have hm2 : Mod (fun b => b = outb ∨ b = ob ∨ ∃ r ∈ S, b = r.sb) w w1.drew := hm1.trans hd.mod
    have hof2 := hof1.ext hd
    have hout2 := hout1.ext hd
    have hset2 : ∀ r ∈ S, SetOk w1.drew N r := fun r hr => (hset1 r hr).mod hd id
    have hnb2 : w1.drew.heap[nb]? = w.heap[nb]? := hnb1
    have hE2 := hE1.trans hd
    generalize w1.drew = w2 at hm2 hof2 hout2 hset2 hnb2 hE2
    refine val_get (f := 3) hout2 (by omega) hrs1 (by decide) (by kernel_rfl) rfl ?_
    refine val_get (f := 3) hout2 (by omega) hrv1 (by decide) (by kernel_rfl) rfl ?_
    refine sl1_app2 (E := ty_int64) (by kernel_rfl) (hset2 _ hms).sl (hset2 _ hmv).sl (ints_one _) (by rw [cast_len, cast_len]; omega) fun nv' w3 nb' hor hm3 hnv => ?_
    have hnv1 := hnv.one
    have hout3 : VRs w3 outv (S.set v { rv with d := l }) outb := hout2.mod hm3 (hn2 _ hms)
    refine val_set { rs with sv := nv', set := rs.set ++ rv.set, sb := nb' } hout3 (by omega) hrs1 (by decide) (by kernel_rfl) hnv1 rfl fun w4 hm4 ho4 => ?_
    rw [Int.toNat_natCast] at ho4
    have z2 := hm2.size
    have hsz3 := hm3.size
    have hob2 := hof2.lt
    have houtl := hout2.lt
    have hnb'o : nb' ≠ outb := by rcases hor with rfl | h'; exact fun e => hn2 _ hms e.symm; omega
    have hnb'ob : nb' ≠ ob := by rcases hor with rfl | h'; exact hS.ne1 _ hms; omega
    have hget : ∀ (k : Nat) (r : VR), ((S.set v { rv with d := l }).set s { rs with sv := nv', set := rs.set ++ rv.set, sb := nb' })[k]? = some r → (k = s ∧ r = { rs with sv := nv', set := rs.set ++ rv.set, sb := nb' }) ∨ (k ≠ s ∧ k = v ∧ r = { rv with d := l }) ∨ (k ≠ s ∧ k ≠ v ∧ S[k]? = some r) := by
      intro k r hk
      by_cases e1 : k = s
      · subst e1
        rw [List.getElem?_set_self (by rw [List.length_set]; exact hsl), Option.some.injEq] at hk
        exact .inl ⟨rfl, hk.symm⟩
      · rw [List.getElem?_set_ne (fun e => e1 e.symm)] at hk
        by_cases e2 : k = v
        · subst e2
          rw [List.getElem?_set_self hvl, Option.some.injEq] at hk
          exact .inr (.inl ⟨e1, rfl, hk.symm⟩)
        · rw [List.getElem?_set_ne (fun e => e2 e.symm)] at hk
          exact .inr (.inr ⟨e1, e2, hk⟩)
    have hnbf : ∀ r ∈ S, r ≠ rs → nb' ≠ r.sb := fun r hr hne e => by
      rcases hor with e' | h'
      · obtain ⟨k, hk⟩ := List.getElem?_of_mem hr
        have hkl := (List.getElem?_eq_some_iff.1 hk).1
        have : (S.map (·.sb))[k]'(by rw [List.length_map]; exact hkl) = (S.map (·.sb))[s]'(by rw [List.length_map]; exact hsl) := by
          rw [List.getElem_map, List.getElem_map]
          rw [List.getElem?_eq_getElem hkl, Option.some.injEq] at hk
          rw [List.getElem?_eq_getElem hsl, Option.some.injEq] at hrs
          rw [hk, hrs, ← e, e']
        have hks := nd_inj hS.nd (by rw [List.length_map]; exact hkl) (by rw [List.length_map]; exact hsl) this
        subst hks
        rw [hrs, Option.some.injEq] at hk
        exact hne hk.symm
      · have := (hset2 r hr).sl.lt; omega
    have hsetf : ∀ r ∈ S, r ≠ rs → SetOk w4 N r := fun r hr hne => by
      refine ((hset2 r hr).mod hm3 ?_).mod hm4 (fun e => hn2 r hr e.symm)
      intro e
      obtain ⟨k, hk⟩ := List.getElem?_of_mem hr
      have hkl := (List.getElem?_eq_some_iff.1 hk).1
      have : (S.map (·.sb))[k]'(by rw [List.length_map]; exact hkl) = (S.map (·.sb))[s]'(by rw [List.length_map]; exact hsl) := by
        rw [List.getElem_map, List.getElem_map]
        rw [List.getElem?_eq_getElem hkl, Option.some.injEq] at hk
        rw [List.getElem?_eq_getElem hsl, Option.some.injEq] at hrs
        rw [hk, hrs, e]
      have hks := nd_inj hS.nd (by rw [List.length_map]; exact hkl) (by rw [List.length_map]; exact hsl) this
      subst hks
      rw [hrs, Option.some.injEq] at hk
      exact hne hk.symm
    have hvne : rv ≠ rs := fun e => hsbne (by rw [e])
    have hnd' : (rs.set ++ rv.set).Nodup := by
      rw [List.nodup_append]
      refine ⟨hsset.nd, hvset.nd, fun a ha b hb e => ?_⟩
      subst e
      have := (hinS a).1 hb
      rw [(hinT a).1 ha, Option.some.injEq] at this
      exact hvs this.symm
    have hkne : ∀ (k : Nat) (r : VR), k ≠ s → S[k]? = some r → r ≠ rs := fun k r hks hk e => by
      subst e
      have hkl := (List.getElem?_eq_some_iff.1 hk).1
      have : (S.map (·.sb))[k]'(by rw [List.length_map]; exact hkl) = (S.map (·.sb))[s]'(by rw [List.length_map]; exact hsl) := by
        rw [List.getElem_map, List.getElem_map]
        rw [List.getElem?_eq_getElem hkl, Option.some.injEq] at hk
        rw [List.getElem?_eq_getElem hsl, Option.some.injEq] at hrs
        rw [hk, hrs]
      exact hks (nd_inj hS.nd (by rw [List.length_map]; exact hkl) (by rw [List.length_map]; exact hsl) this)
    refine hK _ w4 ⟨(hE2.own hm3 (hS.oset _ hms)).own hm4 hS.oout, ?_, ?_, ho4, ?_, ⟨?_, ?_⟩, hinv, hS.oo, hS.oout, ?_, hS.nlt, ?_, ?_⟩ ?_ ?_
    · have hb : nb < w.heap.size := by have := hS.nlt; have := hS.ext.size; omega
      have h4 : w4.heap[nb]? = w.heap[nb]? := by
        rw [hm4.block nb (by omega) (by have := hS.nlt; have := hS.oout; omega), hm3.block nb (by omega) (by have := hS.nlt; have := hS.oset _ hms; omega), hnb2]
      obtain ⟨o, c, k1, k2⟩ := hS.nums
      exact ⟨o, c, k1, k2.keep h4⟩
    · have : tab N (ofI st') = tab N (fun q => if q ∈ rv.set then (s : Int) else ofI st q) := tab_congr fun q _ => by
        by_cases e : q ∈ rv.set
        · rw [if_pos e]
          refine ofI_some ?_
          rw [h1, if_pos ((hinS q).1 e)]
        · rw [if_neg e]
          have e' : ¬ st.of q = some v := fun k => e ((hinS q).2 k)
          unfold ofI
          rw [h1, if_neg e']
      rw [this]
      exact (hof2.mod hm3 (fun e => hS.ne1 _ hms e.symm)).mod hm4 (fun e => hn1 e.symm)
    · intro r hr
      obtain ⟨k, hk⟩ := List.getElem?_of_mem hr
      rcases hget k r hk with ⟨_, rfl⟩ | ⟨_, _, rfl⟩ | ⟨e1, e2, hk'⟩
      · refine ⟨?_, hnd', fun q hq => ?_⟩
        · have : cast (rs.set ++ rv.set) = cast rs.set ++ cast rv.set := by unfold cast; rw [List.map_append, List.map_append]
          simp only [this]
          exact hnv.mod hm4 hnb'o
        · rcases List.mem_append.1 hq with hq | hq
          · exact hsset.lt q hq
          · exact hvset.lt q hq
      · have := hsetf rv hmv hvne
        exact ⟨this.sl, this.nd, this.lt⟩
      · exact hsetf r (List.mem_of_getElem? hk') (hkne k r e1 hk')
    · rw [h2, ← hS.rel.vs]
      apply List.ext_getElem?
      intro k
      rw [List.getElem?_modify, List.getElem?_map, List.getElem?_map]
      by_cases e1 : k = s
      · subst e1
        rw [List.getElem?_set_self (by rw [List.length_set]; exact hsl), hrs]
        simp [hvs]
      · rw [List.getElem?_set_ne (fun e => e1 e.symm)]
        by_cases e2 : k = v
        · subst e2
          rw [List.getElem?_set_self hvl, hrv]
          simp
        · have e2' : v ≠ k := fun e => e2 e.symm
          rw [List.getElem?_set_ne e2']
          cases S[k]? <;> simp [e2']
    · intro k r hk q
      rw [h3]
      rcases hget k r hk with ⟨rfl, rfl⟩ | ⟨e1, rfl, rfl⟩ | ⟨e1, e2, hk'⟩
      · simp only [List.mem_append, hS.rel.mem k rs hrs, hS.rel.mem v rv hrv, true_and]
      · simp only [hS.rel.mem k rv hrv, e1, false_and, or_false]
      · simp only [hS.rel.mem k r hk', e1, false_and, or_false]
    · intro r hr
      obtain ⟨k, hk⟩ := List.getElem?_of_mem hr
      rcases hget k r hk with ⟨_, rfl⟩ | ⟨_, _, rfl⟩ | ⟨e1, e2, hk'⟩
      · show w0.heap.size ≤ nb'
        have := hE2.size
        rcases hor with rfl | h'
        · exact hS.oset _ hms
        · omega
      · exact hS.oset rv hmv
      · exact hS.oset _ (List.mem_of_getElem? hk')
    · intro r hr
      obtain ⟨k, hk⟩ := List.getElem?_of_mem hr
      rcases hget k r hk with ⟨_, rfl⟩ | ⟨_, _, rfl⟩ | ⟨e1, e2, hk'⟩
      · exact hnb'ob
      · exact hS.ne1 rv hmv
      · exact hS.ne1 _ (List.mem_of_getElem? hk')
    · rw [List.map_set, List.map_set]
      have e1 : (S.map (·.sb)).set v rv.sb = S.map (·.sb) := by
        apply List.ext_getElem?
        intro k
        rw [List.getElem?_set]
        split
        · rename_i e; subst e
          rw [if_pos (by rw [List.length_map]; exact hvl), List.getElem?_map, hrv]; rfl
        · rfl
      simp only
      rw [e1]
      refine nodup_set hS.nd fun k hks e => ?_
      have hkl : k < S.length := by
        have := (List.getElem?_eq_some_iff.1 e).1
        rwa [List.length_map] at this
      rw [List.getElem?_map, List.getElem?_eq_getElem hkl, Option.map_some, Option.some.injEq] at e
      exact hnbf _ (List.getElem_mem hkl) (hkne k _ hks (List.getElem?_eq_getElem hkl)) e.symm
    · have hm34 : Mod (fun b => b = rs.sb ∨ b = outb) w2 w4 := (hm3.mono fun k _ e => .inl e).trans (hm4.mono fun k _ e => .inr e)
      refine hm2.comp hm34 (fun _ _ h => h) fun k hk e => ?_
      rcases e with e | e
      · exact .inr (.inr ⟨rs, hms, e⟩)
      · exact .inl e
    · intro r hr
      obtain ⟨k, hk⟩ := List.getElem?_of_mem hr
      rcases hget k r hk with ⟨_, rfl⟩ | ⟨_, _, rfl⟩ | ⟨e1, e2, hk'⟩
      · show (∃ r ∈ S, nb' = r.sb) ∨ w.heap.size ≤ nb'
        rcases hor with rfl | h'
        · exact .inl ⟨rs, hms, rfl⟩
        · exact .inr (by omega)
      · exact .inl ⟨rv, hmv, rfl⟩
      · exact .inl ⟨r, List.mem_of_getElem? hk', rfl⟩
end
end Go.Proofs.Ytfdmphgbodmkpaa
