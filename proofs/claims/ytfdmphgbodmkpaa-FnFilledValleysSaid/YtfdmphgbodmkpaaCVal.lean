/- Contracts of the program's valleys: what lies in memory; one valley ends in another. -/
import Derived.Test.YtfdmphgbodmkpaaCGrey3
import Derived.Test.YtfdmphgbodmkpaaCSort
import Derived.Test.YtfdmphgbodmkpaaCSortP
import Derived.Test.YtfdmphgbodmkpaaPVal2
set_option linter.unusedVariables false
set_option linter.unusedSimpArgs false
namespace Go.Proofs.Ytfdmphgbodmkpaa
open Go Go.SL Go.RowKit
set_option maxRecDepth 100000

/-- A valley of the program: its block, its numbers, its pixels. -/
structure IV where
  pb : Nat
  b : Int
  p : Nat
  d : Int
  pv : Value
  set : List Nat
  qb : Nat
def cellV (r : IV) (w : World) : Prop := w.heap[r.pb]? = some (row #[i64 r.b, i64 (r.p : Int), i64 r.d, r.pv] ty_impl_valley)
structure PixOk (w : World) (W N : Nat) (r : IV) : Prop where
  ty : ∃ cs, w.heap[r.qb]? = some (row cs ty_impl_Spot)
  sl : r.set ≠ [] → OwnSpots w r.pv (r.set.map (sp W)) r.qb
  nl : r.set = [] → r.pv = .slice none 0 0
  nd : r.set.Nodup
  lt : ∀ q ∈ r.set, q < N
theorem PixOk.len {w : World} {W N : Nat} {r : IV} (h : PixOk w W N r) : r.set.length ≤ N := by
  have := nodup_le (S := r.set) (L := List.range N) h.nd (fun q hq => List.mem_range.2 (h.lt q hq))
  rwa [List.length_range] at this
theorem PixOk.mod {S : Nat → Prop} {w w' : World} {W N : Nat} {r : IV} (h : PixOk w W N r) (hm : Mod S w w') (hb : ¬ S r.qb) : PixOk w' W N r :=
  ⟨by obtain ⟨cs, q⟩ := h.ty; exact ⟨cs, hm.at_ q hb⟩, fun hn => (h.sl hn).mod hm hb, h.nl, h.nd, h.lt⟩
theorem PixOk.blk {w : World} {W N : Nat} {r : IV} (h : PixOk w W N r) : r.qb < w.heap.size := by obtain ⟨cs, q⟩ := h.ty; exact lt_of_at q
structure RelI (st : VSt) (S : List IV) : Prop where
  vs : S.map (fun r => (r.b, r.p, r.d)) = st.vs
  mem : ∀ j r, S[j]? = some r → ∀ q, q ∈ r.set ↔ st.mem j q
def ptrOf (S : List IV) : Option Nat → Value
  | none => .pointer none
  | some v => match S[v]? with
    | some r => ptr r.pb 0
    | none => .pointer none
def ranks (S : List IV) : List (Nat × Value) := S.mapIdx fun i r => (r.pb, i64 (i : Int))
/-- The map from spots to valleys. -/
structure OfM (w : World) (W H : Nat) (r1 : Nat) (S : List IV) (of : Nat → Option Nat) : Prop where
  ex : ∃ m, MapAt w pairV r1 m ∧ (∀ q, q < W * H → lookD (sp W q) m (.pointer none) = ptrOf S (of q)) ∧ ∀ p, inB W H p = false → lookD p m (.pointer none) = .pointer none
structure IM (w0 w : World) (W H : Nat) (r1 r2 rc outb : Nat) (outv : Value) (S : List IV) (st : VSt) : Prop where
  ext : Ext w0 w
  cell : ∀ r ∈ S, cellV r w
  pix : ∀ r ∈ S, PixOk w W (W * H) r
  of : OfM w W H r1 S st.of
  rank : MapAt w pk r2 (ranks S)
  rcell : w.heap[rc]? = some (row #[.map (some r2)] ty_M_Pimpl_valley_int)
  out : PtrSl w outv (S.map (·.pb)) outb
  rel : RelI st S
  inv : InvV st
  o1 : w0.heap.size ≤ r1
  o2 : w0.heap.size ≤ r2
  orc : w0.heap.size ≤ rc
  oout : w0.heap.size ≤ outb
  opb : ∀ r ∈ S, w0.heap.size ≤ r.pb
  oqb : ∀ r ∈ S, w0.heap.size ≤ r.qb
  r12 : r1 ≠ r2
  ndp : (S.map (·.pb)).Nodup
  ndq : (S.map (·.qb)).Nodup
theorem row_ne_pk {w : World} {b r T : Nat} {cs : Array Value} {m : List (Nat × Value)} (h1 : w.heap[b]? = some (row cs T)) (h2 : MapAt w pk r m) : b ≠ r := fun e => by
  obtain ⟨⟨es, c, k, _⟩, _⟩ := h2
  rw [e, k] at h1
  cases h1
theorem OfM.mod {P : Nat → Prop} {w w' : World} {W H r1 : Nat} {S : List IV} {of : Nat → Option Nat} (h : OfM w W H r1 S of) (hm : Mod P w w') (hr : ¬ P r1) : OfM w' W H r1 S of := by
  obtain ⟨m, h1, h2⟩ := h; exact ⟨m, h1.mod hm hr, h2⟩
section
variable {w0 w : World} {W H r1 r2 rc outb : Nat} {outv : Value} {S : List IV} {st : VSt}
theorem IM.step (h : IM w0 w W H r1 r2 rc outb outv S st) {w' : World} (he : Ext w w') : IM w0 w' W H r1 r2 rc outb outv S st :=
  { h with
    ext := h.ext.trans he
    cell := fun r hr => he.at_ (h.cell r hr)
    pix := fun r hr => (h.pix r hr).mod he id
    of := h.of.mod he id
    rank := h.rank.ext he
    rcell := he.at_ h.rcell
    out := h.out.ext he }
theorem IM.len (h : IM w0 w W H r1 r2 rc outb outv S st) : S.length = st.vs.length := by rw [← h.rel.vs, List.length_map]
theorem IM.lt (h : IM w0 w W H r1 r2 rc outb outv S st) {q v : Nat} (hv : st.of q = some v) : v < S.length := by rw [h.len]; exact h.inv.lt q v hv
theorem IM.plain (h : IM w0 w W H r1 r2 rc outb outv S st) {r : IV} (hr : r ∈ S) : Plain w r.pb := Plain.of (h.cell r hr)
/-- A block with spots is none of the others. -/
structure Off (w : World) (r1 r2 rc outb : Nat) (S : List IV) (b : Nat) : Prop where
  n1 : b ≠ r1
  n2 : b ≠ r2
  nc : b ≠ rc
  nout : b ≠ outb
theorem IM.off (h : IM w0 w W H r1 r2 rc outb outv S st) {b T : Nat} {cs : Array Value} (hb : w.heap[b]? = some (row cs T)) (hT1 : T ≠ ty_M_Pimpl_valley_int) (hT2 : T ≠ ty_Pimpl_valley) : Off w r1 r2 rc outb S b := by
  obtain ⟨m, hm, _⟩ := h.of
  refine ⟨row_ne_map hb hm, row_ne_pk hb h.rank, at_ne hb h.rcell hT1, ?_⟩
  obtain ⟨c2, q2⟩ := Sl1.cells h.out
  exact at_ne hb q2 hT2
theorem pb_inj (h : (S.map (·.pb)).Nodup) {i j : Nat} {r r' : IV} (hi : S[i]? = some r) (hj : S[j]? = some r') (e : r.pb = r'.pb) : i = j := by
  have hil := (List.getElem?_eq_some_iff.1 hi).1
  have hjl := (List.getElem?_eq_some_iff.1 hj).1
  refine nd_inj h (by rw [List.length_map]; exact hil) (by rw [List.length_map]; exact hjl) ?_
  rw [List.getElem_map, List.getElem_map]
  rw [List.getElem?_eq_getElem hil, Option.some.injEq] at hi
  rw [List.getElem?_eq_getElem hjl, Option.some.injEq] at hj
  rw [hi, hj]; exact e
theorem qb_inj (h : (S.map (·.qb)).Nodup) {i j : Nat} {r r' : IV} (hi : S[i]? = some r) (hj : S[j]? = some r') (e : r.qb = r'.qb) : i = j := by
  have hil := (List.getElem?_eq_some_iff.1 hi).1
  have hjl := (List.getElem?_eq_some_iff.1 hj).1
  refine nd_inj h (by rw [List.length_map]; exact hil) (by rw [List.length_map]; exact hjl) ?_
  rw [List.getElem_map, List.getElem_map]
  rw [List.getElem?_eq_getElem hil, Option.some.injEq] at hi
  rw [List.getElem?_eq_getElem hjl, Option.some.injEq] at hj
  rw [hi, hj]; exact e
/-- A field of a valley. -/
theorem cell_get {f T : Nat} {r : IV} {y : Value} {K : Value → Prop} (h : cellV r w) (hf : f < 4) (hP : plainT Pg T = true) (hy : #[i64 r.b, i64 (r.p : Int), i64 r.d, r.pv][f]? = some y) (hK : K y) :
    nilS (ptr r.pb 0) fun t => pur Pg (Instr.fieldAt ty_impl_valley t f) fun t => rd Pg (Instr.loadAt T t) w K := by
  refine nilS_i ?_
  have hF : fieldOff Pg ty_impl_valley f = some f := by
    obtain rfl | rfl | rfl | rfl : f = 0 ∨ f = 1 ∨ f = 2 ∨ f = 3 := by omega
    all_goals kernel_rfl
  refine fldi_i hF (ld_i hP h ?_ hK)
  rw [Nat.zero_add]; exact hy
theorem cell_set {f T : Nat} {r r' : IV} {y : Value} {K : World → Prop} (h : cellV r w) (hf : f < 4) (hP : plainT Pg T = true) (h1 : SL.one y = true) (hp : r'.pb = r.pb) (hy : #[i64 r'.b, i64 (r'.p : Int), i64 r'.d, r'.pv] = #[i64 r.b, i64 (r.p : Int), i64 r.d, r.pv].setIfInBounds f y) (hK : ∀ w', Mod (· = r.pb) w w' → cellV r' w' → K w') :
    nilS (ptr r.pb 0) fun t => pur Pg (Instr.fieldAt ty_impl_valley t f) fun t => effU Pg (Instr.storeAt T t y) w K := by
  refine nilS_i ?_
  have hF : fieldOff Pg ty_impl_valley f = some f := by
    obtain rfl | rfl | rfl | rfl : f = 0 ∨ f = 1 ∨ f = 2 ∨ f = 3 := by omega
    all_goals kernel_rfl
  refine fldi_i hF (st_i hP h1 h (by show 0 + f < 4; omega) ?_)
  refine hK _ (setAt_mod _ _ _) ?_
  unfold cellV
  rw [hp, setAt_at _ (lt_of_at h), Nat.zero_add, hy]
theorem ranks_fst (S : List IV) : (ranks S).map Prod.fst = S.map (·.pb) := by
  unfold ranks
  apply List.ext_getElem?
  intro i
  rw [List.getElem?_map, List.getElem?_mapIdx, List.getElem?_map]
  cases S[i]? <;> rfl
theorem findL_at {α : Type} [DecidableEq α] {a : α} {v : Value} : ∀ {m : List (α × Value)} {i k : Nat}, (m.map Prod.fst).Nodup → m[k]? = some (a, v) → findL a m i = some (i + k, v)
  | [], i, k, _, h => by simp at h
  | p :: m, i, 0, _, h => by
    simp only [List.getElem?_cons_zero, Option.some.injEq] at h
    subst h
    unfold findL
    rw [if_pos rfl]; rfl
  | p :: m, i, k + 1, hn, h => by
    have h' : m[k]? = some (a, v) := by simpa using h
    rw [List.map_cons, List.nodup_cons] at hn
    have hne : a ≠ p.1 := fun e => hn.1 (e ▸ List.mem_map.2 ⟨_, List.mem_of_getElem? h', rfl⟩)
    unfold findL
    rw [if_neg hne, findL_at hn.2 h', Nat.add_assoc, Nat.add_comm 1 k]
theorem look_rank (h : (S.map (·.pb)).Nodup) {v : Nat} {r : IV} (hr : S[v]? = some r) {z : Value} : lookD r.pb (ranks S) z = i64 (v : Int) := by
  unfold lookD
  have : (ranks S)[v]? = some (r.pb, i64 (v : Int)) := by unfold ranks; rw [List.getElem?_mapIdx, hr]; rfl
  rw [findL_at (i := 0) (by rw [ranks_fst]; exact h) this]; rfl
theorem findL_cons {α : Type} [DecidableEq α] (a : α) (p : α × Value) (m : List (α × Value)) (i : Nat) : findL a (p :: m) i = if a = p.1 then some (i, p.2) else findL a m (i + 1) := rfl
theorem lookD_put {α : Type} [DecidableEq α] {a b : α} {v z : Value} {m : List (α × Value)} (hn : (m.map Prod.fst).Nodup) : lookD b (putL a v m) z = if b = a then v else lookD b m z := by
  unfold lookD putL
  have none_of : ∀ (m : List (α × Value)) (i : Nat), b ∉ m.map Prod.fst → findL b m i = none := by
    intro m
    induction m with
    | nil => intro i _; rfl
    | cons p m ih =>
      intro i hb
      simp only [List.map_cons, List.mem_cons, not_or] at hb
      rw [findL_cons, if_neg hb.1]; exact ih _ hb.2
  have app : ∀ (m l : List (α × Value)) (i : Nat), findL b (m ++ l) i = match findL b m i with | some x => some x | none => findL b l (i + m.length) := by
    intro m
    induction m with
    | nil => intro l i; rfl
    | cons p m ih =>
      intro l i
      rw [List.cons_append, findL_cons, findL_cons]
      split
      · rfl
      · rw [ih]
        cases findL b m (i + 1) with
        | some x => rfl
        | none => simp only; rw [List.length_cons, show i + 1 + m.length = i + (m.length + 1) by omega]
  have setf : ∀ (m : List (α × Value)) (i k : Nat), m[k]?.map Prod.fst = some a → (m.map Prod.fst).Nodup → (findL b (m.set k (a, v)) i).map (·.2) = if b = a then some v else (findL b m i).map (·.2) := by
    intro m
    induction m with
    | nil => intro i k h; simp at h
    | cons p m ih =>
      intro i k h hn
      rw [List.map_cons, List.nodup_cons] at hn
      cases k with
      | zero =>
        simp only [List.getElem?_cons_zero, Option.map_some, Option.some.injEq] at h
        rw [List.set_cons_zero, findL_cons, findL_cons, h]
        by_cases e : b = a
        · subst e; simp
        · simp only [if_neg e]
      | succ k =>
        have h' : m[k]?.map Prod.fst = some a := by simpa using h
        have hpa : p.1 ≠ a := fun e => by
          cases hk : m[k]? with
          | none => rw [hk] at h'; simp at h'
          | some x =>
            rw [hk] at h'
            simp only [Option.map_some, Option.some.injEq] at h'
            exact hn.1 (List.mem_map.2 ⟨x, List.mem_of_getElem? hk, by rw [h', e]⟩)
        rw [List.set_cons_succ, findL_cons, findL_cons]
        by_cases e : b = p.1
        · rw [if_pos e, if_pos e, if_neg (fun e2 => hpa (e ▸ e2))]
        · rw [if_neg e, if_neg e]
          exact ih (i + 1) k h' hn.2
  cases hf : findL a m 0 with
  | some x =>
    obtain ⟨k, u⟩ := x
    obtain ⟨_, hk⟩ := findL_some hf
    rw [Nat.sub_zero] at hk
    simp only
    rw [setf m 0 k (by rw [hk]; rfl) hn]
    by_cases e : b = a
    · rw [if_pos e, if_pos e]; rfl
    · rw [if_neg e, if_neg e]
  | none =>
    simp only
    rw [app]
    have ha := findL_none hf
    by_cases e : b = a
    · subst e
      rw [hf, if_pos rfl]
      simp [findL]
    · rw [if_neg e]
      cases findL b m 0 with
      | some x => rfl
      | none => simp [findL, e]
/-- A spot's entry is written. -/
theorem of_put {q v : Nat} {of : Nat → Option Nat} {r : IV} {K : World → Prop} (h : OfM w W H r1 S of) (hW : 0 < W) (hq : q < W * H) (hr : S[v]? = some r) (hK : ∀ w', Mod (· = r1) w w' → OfM w' W H r1 S (fun x => if x = q then some v else of x) → K w') :
    effU Pg (Instr.mapUpdate ty_M_impl_Spot_Pimpl_valley (.map (some r1)) (pairV (sp W q)) (ptr r.pb 0)) w K := by
  obtain ⟨m, h1, h2, h3⟩ := h
  refine update_i (T := ty_impl_Spot) (z := .pointer none) (by kernel_rfl) spotKey h1 (sp W q) fun w' hm hm' => ?_
  refine hK w' hm ⟨_, hm', fun x hx => ?_, fun p hp => ?_⟩
  · rw [lookD_put h1.nodup]
    by_cases e : x = q
    · subst e; rw [if_pos rfl, if_pos rfl]; simp [ptrOf, hr]
    · rw [if_neg (fun e2 => e (by rw [← idx2_sp (W := W) (i := x), e2, idx2_sp])), if_neg e]; exact h2 x hx
  · rw [lookD_put h1.nodup, if_neg (fun e => by rw [e, inB_sp hW hq] at hp; cases hp)]
    exact h3 p hp
end
end Go.Proofs.Ytfdmphgbodmkpaa
