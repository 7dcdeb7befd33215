/- Contracts of the laws' helpers on rows of numbers. -/
import Derived.Test.YtfdmphgbodmkpaaCPairs
set_option linter.unusedVariables false
set_option linter.unusedSimpArgs false
namespace Go.Proofs.Ytfdmphgbodmkpaa
open Go Go.SL Go.RowKit
set_option maxRecDepth 100000

/-! ### The argument -/
def ArgI (w : World) (u : Value) (l : List Int) : Prop := (∃ a c, u = .slice a 0 c ∧ l = []) ∨ ∃ b o c, u = sl b o l.length c ∧ ∀ j, (hj : j < l.length) → ∃ cs E fz, w.heap[b]? = some (.cells cs E fz) ∧ cs[o + j]? = some (i64 l[j])
def ArgR (w : World) (u : Value) (L : List (List Int)) : Prop := (∃ a c, u = .slice a 0 c ∧ L = []) ∨ ∃ b o c, u = sl b o L.length c ∧ ∀ j, (hj : j < L.length) → ∃ cs E fz ru, w.heap[b]? = some (.cells cs E fz) ∧ cs[o + j]? = some ru ∧ ArgI w ru L[j]
theorem ArgI.ext {w w' : World} {u : Value} {l : List Int} (h : ArgI w u l) (he : Ext w w') : ArgI w' u l := by
  refine h.imp id fun ⟨b, o, c, h1, h2⟩ => ⟨b, o, c, h1, fun j hj => ?_⟩
  obtain ⟨cs, E, fz, q1, q2⟩ := h2 j hj
  exact ⟨cs, E, fz, he.at_ q1, q2⟩
theorem ArgR.ext {w w' : World} {u : Value} {L : List (List Int)} (h : ArgR w u L) (he : Ext w w') : ArgR w' u L := by
  refine h.imp id fun ⟨b, o, c, h1, h2⟩ => ⟨b, o, c, h1, fun j hj => ?_⟩
  obtain ⟨cs, E, fz, ru, q1, q2, q3⟩ := h2 j hj
  exact ⟨cs, E, fz, ru, he.at_ q1, q2, q3.ext he⟩
section
variable {w : World} {u : Value}
theorem argI_len {l : List Int} {T ty : TypeId} {K : Value → Prop} (hT : T = ty_Sint64) (h : ArgI w u l) (hK : K (i64 l.length)) : rd Pg (Builtin.len_ #[T] ty #[u]) w K := by
  subst hT
  rcases h with ⟨a, c, rfl, rfl⟩ | ⟨b, o, c, rfl, h⟩
  · exact lenS_i (T := ty_Sint64) rfl hK
  · exact lenS_i (T := ty_Sint64) rfl hK
theorem argR_len {L : List (List Int)} {T ty : TypeId} {K : Value → Prop} (hT : T = ty_SSint64) (h : ArgR w u L) (hK : K (i64 L.length)) : rd Pg (Builtin.len_ #[T] ty #[u]) w K := by
  subst hT
  rcases h with ⟨a, c, rfl, rfl⟩ | ⟨b, o, c, rfl, h⟩
  · exact lenS_i (T := ty_SSint64) rfl hK
  · exact lenS_i (T := ty_SSint64) rfl hK
theorem argI_get {l : List Int} {y : Nat} {T1 T2 : TypeId} {K : Value → Prop} (hT : T1 = ty_Sint64 ∧ T2 = ty_int64) (h : ArgI w u l) (hy : y < l.length) (hK : K (i64 l[y])) :
    pur Pg (Instr.indexAt T1 u (i64 y)) fun t => rd Pg (Instr.loadAt T2 t) w K := by
  obtain ⟨rfl, rfl⟩ := hT
  rcases h with ⟨a, c, rfl, rfl⟩ | ⟨b, o, c, rfl, h⟩
  · simp at hy
  · obtain ⟨cs, E, fz, q1, q2⟩ := h y hy
    refine idx_i (size := 1) rfl (by omega) (by omega) ?_
    exact ld_i (by kernel_rfl) q1 (by rw [Int.toNat_natCast, Nat.mul_one]; exact q2) hK
theorem argR_get {L : List (List Int)} {y : Nat} {T1 T2 : TypeId} {K : Value → Prop} (hT : T1 = ty_SSint64 ∧ T2 = ty_Sint64) (h : ArgR w u L) (hy : y < L.length) (hK : ∀ ru, ArgI w ru L[y] → K ru) :
    pur Pg (Instr.indexAt T1 u (i64 y)) fun t => rd Pg (Instr.loadAt T2 t) w K := by
  obtain ⟨rfl, rfl⟩ := hT
  rcases h with ⟨a, c, rfl, rfl⟩ | ⟨b, o, c, rfl, h⟩
  · simp at hy
  · obtain ⟨cs, E, fz, ru, q1, q2, q3⟩ := h y hy
    refine idx_i (size := 1) rfl (by omega) (by omega) ?_
    exact ld_i (by kernel_rfl) q1 (by rw [Int.toNat_natCast, Nat.mul_one]; exact q2) (hK ru q3)
end

/-- A greatest length that no slice passes. -/
abbrev big : Nat := 9223372036854775807
theorem szI_c {w : World} {u : Value} {l : List Int} {n : Int} {K : Value → World → Prop} (h : ArgI w u l) (hn : 0 ≤ n ∧ n ≤ 1048576) (hl : l.length ≤ big)
    (hK : ∀ m : Int, -1 ≤ m → m ≤ 1048576 → (0 ≤ m → l.length ≤ 1048576) → K (i64 m) w) : callS Pg n_laws_szInt64S #[u, i64 n] w K := by
  refine call_laws_szInt64S _ _ _ _ ?_
  unfold S_laws_szInt64S
  unfold big at hl
  refine argI_len rfl h ?_
  refine sub_i ⟨by omega, by omega⟩ ?_
  refine lss_i (ifB_i (fun h1 => ?_) (fun h1 => ?_))
  · exact hK (-1) (by omega) (by omega) (by omega)
  · exact hK _ (by omega) (by omega) (fun _ => by omega)
theorem szR_c {w : World} {u : Value} {L : List (List Int)} {n : Int} {K : Value → World → Prop} (h : ArgR w u L) (hn : 0 ≤ n ∧ n ≤ 1048576) (hL : L.length ≤ big) (hl : ∀ l ∈ L, l.length ≤ big)
    (hK : ∀ m : Int, -1 ≤ m → m ≤ 1048576 → (0 ≤ m → L.length ≤ 1048576 ∧ ∀ l ∈ L, l.length ≤ 1048576) → K (i64 m) w) : callS Pg n_laws_szInt64SS #[u, i64 n] w K := by
  refine call_laws_szInt64SS _ _ _ _ ?_
  unfold S_laws_szInt64SS
  have hLb := hL
  unfold big at hL
  refine argR_len rfl h ?_
  refine sub_i ⟨by omega, by omega⟩ ?_
  refine lss_i (ifB_i (fun h1 => ?_) (fun h1 => ?_))
  · exact hK (-1) (by omega) (by omega) (by omega)
  · have hl2 : L.length ≤ 1048576 := by omega
    refine loopS_i (fun s w' => ∃ (m : Int) (i : Nat), s = [i64 m, i64 i] ∧ 0 ≤ m ∧ m ≤ 1048576 ∧ i ≤ L.length ∧ w' = w ∧ ∀ l ∈ L.take i, l.length ≤ 1048576) (fun s _ => L.length - (intOf (nth s 1)).toNat) ⟨n - L.length, 0, rfl, by omega, by omega, by omega, rfl, by simp⟩ ?_
    rintro g s w' ⟨m, i, rfl, hm0, hm1, hi, rfl, hd⟩
    rw [nth1, nth0]
    refine argR_len rfl h ?_
    refine lss_i (ifB_i (fun hlt => ?_) (fun hlt => ?_))
    · have hil : i < L.length := by omega
      refine argR_get ⟨rfl, rfl⟩ h hil fun ru hru => ?_
      refine szI_c hru ⟨hm0, hm1⟩ (hl _ (List.getElem_mem hil)) fun m' a1 a2 a3 => ?_
      refine lss_i (ifB_i (fun h2 => ?_) (fun h2 => ?_))
      · exact hK (-1) (by omega) (by omega) (by omega)
      · refine add_i (.of (by omega) (by omega)) ?_
        refine ⟨⟨m', i + 1, by simp, by omega, by omega, by omega, rfl, ?_⟩, by simp only [nth1, intOf]; omega⟩
        rw [List.take_succ_eq_append_getElem hil]
        intro l hl'
        rcases List.mem_append.1 hl' with hl' | hl'
        · exact hd l hl'
        · rw [List.mem_singleton] at hl'; subst hl'; exact a3 (by omega)
    · have : i = L.length := by omega
      subst this
      rw [List.take_length] at hd
      exact hK m (by omega) (by omega) fun _ => ⟨hl2, hd⟩
theorem szG_c {w : World} {u : Value} {L : List (List Int)} {n : Int} {K : Value → World → Prop} (h : ArgR w u L) (hn : 0 ≤ n ∧ n ≤ 1048576) (hL : L.length ≤ big) (hl : ∀ l ∈ L, l.length ≤ big)
    (hK : ∀ (m : Int) w', Ext w w' → -1 ≤ m → m ≤ 1048576 → (0 ≤ m → L.length ≤ 1048576 ∧ ∀ l ∈ L, l.length ≤ 1048576) → K (i64 m) w') : callS Pg n_laws_szGrey #[.agg #[u], i64 n] w K := by
  refine call_laws_szGrey _ _ _ _ ?_
  unfold S_laws_szGrey
  refine box_i fun p w1 h1 => ?_
  refine fldi_i (by kernel_rfl) (ld_i (by kernel_rfl) h1.at_ rfl ?_)
  refine szR_c (h.ext h1.ext) hn hL hl fun m hm0 hm1 hm2 => ?_
  refine lss_i (ifB_i (fun h2 => ?_) (fun h2 => ?_))
  · exact hK (-1) w1 h1.ext (by omega) (by omega) (by omega)
  · exact hK m w1 h1.ext hm0 hm1 hm2

theorem rep_tab (n : Nat) (x : Int) : List.replicate n (i64 x) = (tab n fun _ => x).map i64 := by
  unfold tab
  rw [List.map_map]
  apply List.ext_getElem?
  intro k
  rw [List.getElem?_replicate, List.getElem?_map]
  by_cases hk : k < n
  · rw [if_pos hk, List.getElem?_range hk]; rfl
  · rw [if_neg hk, List.getElem?_eq_none (by simp; omega)]; rfl
theorem toI_c {w : World} {u : Value} {l : List Int} {K : Value → World → Prop} (h : ArgI w u l) (hl : l.length ≤ 1048576) (hK : ∀ v b w', Ext w w' → w.heap.size ≤ b → Sl1 w' ty_int64 v (l.map i64) b → K v w') : callS Pg n_laws_toInt64S #[u] w K := by
  refine call_laws_toInt64S _ _ _ ?_
  unfold S_laws_toInt64S
  refine argI_len rfl h ?_
  refine sl1_make (E := ty_int64) (i64 0) (by kernel_rfl) (by kernel_rfl) (by omega) fun v b w1 he1 hb hv => ?_
  rw [rep_tab] at hv
  refine loopS_i (fun s w' => ∃ i : Nat, s = [i64 i] ∧ i ≤ l.length ∧ Ext w w' ∧ Sl1 w' ty_int64 v ((tab l.length fun q => if q < i then l.getD q 0 else 0).map i64) b) (fun s _ => l.length - (intOf (nth s 0)).toNat) ⟨0, rfl, by omega, he1, by simpa using hv⟩ ?_
  rintro g s w2 ⟨i, rfl, hi, hE, hv2⟩
  rw [nth0]
  refine argI_len rfl (h.ext hE) ?_
  refine lss_i (ifB_i (fun hlt => ?_) (fun hlt => ?_))
  · have hil : i < l.length := by omega
    refine argI_get ⟨rfl, rfl⟩ (h.ext hE) hil ?_
    refine int_set ⟨rfl, rfl⟩ hv2 (by omega) (by rw [Int.toNat_natCast, tab_len]; exact hil) fun w3 hm hv3 => ?_
    rw [Int.toNat_natCast, tab_set] at hv3
    refine add_i (.of (by omega) (by omega)) ?_
    refine ⟨⟨i + 1, by simp, by omega, hE.own hm hb, ?_⟩, by simp only [nth0, intOf]; omega⟩
    have : tab l.length (upd (fun q => if q < i then l.getD q 0 else 0) i l[i]) = tab l.length fun q => if q < i + 1 then l.getD q 0 else 0 := tab_congr fun q _ => by
      unfold upd
      by_cases e : q = i
      · subst e
        rw [if_pos rfl, if_pos (by omega), List.getD_eq_getElem?_getD, List.getElem?_eq_getElem hil]; rfl
      · rw [if_neg e]
        show (if q < i then l.getD q 0 else 0) = _
        by_cases e2 : q < i
        · rw [if_pos e2, if_pos (by omega)]
        · rw [if_neg e2, if_neg (by omega)]
    rw [← this]; exact hv3
  · have : i = l.length := by omega
    subst this
    refine hK v b w2 hE hb ?_
    have : (tab l.length fun q => if q < l.length then l.getD q 0 else 0) = l := by
      have e := tab_of l (0 : Int)
      rw [e]
      rw [tab_len]
      exact tab_congr fun q hq => by rw [if_pos hq]; rw [← e]
    rw [this] at hv2; exact hv2
end Go.Proofs.Ytfdmphgbodmkpaa
