/- Plain law: the regions of a two-coloured grid form a tree. No program in sight. -/
import Derived.Test.YtnpkcdegckfjeaaCSpec6
namespace Go.Proofs.Ytnpkcdegckfjeaa
open Go Go.SL Go.RowKit
set_option maxRecDepth 100000

def inG (W H : Nat) (p : Int × Int) : Prop := 0 ≤ p.1 ∧ p.1 < W ∧ 0 ≤ p.2 ∧ p.2 < H
theorem inG_mk {W H : Nat} {a b : Int} (h : 0 ≤ a ∧ a < W ∧ 0 ≤ b ∧ b < H) : inG W H (a, b) := h
instance (W H : Nat) (p : Int × Int) : Decidable (inG W H p) := by unfold inG; exact inferInstance
def okc (W H : Nat) (col : Int × Int → Bool) (c : Bool) (p : Int × Int) : Bool := decide (inG W H p) && (col p == c)
theorem okc_iff {W H : Nat} {col : Int × Int → Bool} {c : Bool} {p : Int × Int} : okc W H col c p = true ↔ inG W H p ∧ col p = c := by
  unfold okc; rw [Bool.and_eq_true, decide_eq_true_iff, beq_iff_eq]
/-- Same region. -/
def Conn (W H : Nat) (col : Int × Int → Bool) (p q : Int × Int) : Prop := Reach (okc W H col (col p)) (col p) [p] q

theorem mem_nbrs {e : Bool} {p q : Int × Int} : q ∈ nbrs e p ↔ (-1 ≤ q.1 - p.1 ∧ q.1 - p.1 ≤ 1 ∧ -1 ≤ q.2 - p.2 ∧ q.2 - p.2 ≤ 1) ∧ (q.1 ≠ p.1 ∨ q.2 ≠ p.2) ∧ (e = true ∨ q.1 = p.1 ∨ q.2 = p.2) := by
  obtain ⟨a, b⟩ := p
  obtain ⟨c, d⟩ := q
  unfold nbrs
  rw [List.mem_map]
  constructor
  · rintro ⟨⟨u, v⟩, hd, he⟩
    rw [Prod.mk.injEq] at he
    simp only at he
    obtain ⟨rfl, rfl⟩ := he
    rw [List.mem_filter] at hd
    obtain ⟨hd, hs⟩ := hd
    simp [stepOk] at hs
    have hu : -1 ≤ u ∧ u ≤ 1 ∧ -1 ≤ v ∧ v ≤ 1 := by
      simp [nine] at hd; omega
    simp only
    refine ⟨by omega, ?_, ?_⟩
    · rcases hs.1 with h | h <;> omega
    · rcases hs.2 with (h | h) | h
      · exact .inl h
      · exact .inr (.inl (by omega))
      · exact .inr (.inr (by omega))
  · rintro ⟨h1, h2, h3⟩
    simp only at h1 h2 h3
    refine ⟨(c - a, d - b), ?_, by rw [Prod.mk.injEq]; simp only; omega⟩
    rw [List.mem_filter]
    constructor
    · have : (c - a = -1 ∨ c - a = 0 ∨ c - a = 1) ∧ (d - b = -1 ∨ d - b = 0 ∨ d - b = 1) := by omega
      obtain ⟨h | h | h, h' | h' | h'⟩ := this <;> rw [h, h'] <;> decide
    · simp [stepOk]
      refine ⟨?_, ?_⟩
      · rcases h2 with h | h <;> omega
      · rcases h3 with h | h | h
        · exact .inl (.inl h)
        · exact .inl (.inr (by omega))
        · exact .inr (by omega)
theorem mem_four {p q : Int × Int} : q ∈ nbrs false p ↔ (q.1 = p.1 ∧ (q.2 = p.2 + 1 ∨ q.2 = p.2 - 1)) ∨ (q.2 = p.2 ∧ (q.1 = p.1 + 1 ∨ q.1 = p.1 - 1)) := by
  rw [mem_nbrs]
  simp only [Bool.false_eq_true, false_or]
  omega
theorem mem_eight {p q : Int × Int} : q ∈ nbrs true p ↔ (-1 ≤ q.1 - p.1 ∧ q.1 - p.1 ≤ 1 ∧ -1 ≤ q.2 - p.2 ∧ q.2 - p.2 ≤ 1) ∧ (q.1 ≠ p.1 ∨ q.2 ≠ p.2) := by
  rw [mem_nbrs]
  simp only [true_or, and_true]
theorem nbrs_symm {e : Bool} {p q : Int × Int} (h : q ∈ nbrs e p) : p ∈ nbrs e q := by
  rw [mem_nbrs] at h ⊢
  refine ⟨by omega, by omega, ?_⟩
  rcases h.2.2 with h | h | h
  · exact .inl h
  · exact .inr (.inl h.symm)
  · exact .inr (.inr h.symm)
theorem nbrs_mono {e : Bool} {p q : Int × Int} (h : q ∈ nbrs false p) : q ∈ nbrs e p := by
  rw [mem_nbrs] at h ⊢
  refine ⟨h.1, h.2.1, ?_⟩
  rcases h.2.2 with h | h
  · cases h
  · exact .inr h

section
variable {W H : Nat} {col : Int × Int → Bool}
theorem conn_ok {p q : Int × Int} (h : Conn W H col p q) : inG W H q ∧ col q = col p := by
  unfold Conn at h
  cases h with
  | base _ ho => exact okc_iff.1 ho
  | step _ _ ho => exact okc_iff.1 ho
theorem conn_refl {p : Int × Int} (h : inG W H p) : Conn W H col p p := .base (List.mem_singleton_self p) (okc_iff.2 ⟨h, rfl⟩)
theorem conn_step {p q r : Int × Int} (h : Conn W H col p q) (hn : r ∈ nbrs (col p) q) (hr : inG W H r) (hc : col r = col p) : Conn W H col p r := .step h hn (okc_iff.2 ⟨hr, hc⟩)
theorem conn_rec {p : Int × Int} (P : Int × Int → Prop) (h0 : P p) (h1 : ∀ q r, Conn W H col p q → P q → r ∈ nbrs (col p) q → inG W H r → col r = col p → P r) {q : Int × Int} (h : Conn W H col p q) : P q := by
  unfold Conn at h
  induction h with
  | base hm _ => rw [List.mem_singleton] at hm; rw [hm]; exact h0
  | step h hn ho ih => exact h1 _ _ h ih hn (okc_iff.1 ho).1 (okc_iff.1 ho).2
theorem conn_in {p q : Int × Int} (h : Conn W H col p q) : inG W H p := by
  unfold Conn at h
  induction h with
  | base hm ho => rw [List.mem_singleton] at hm; rw [← hm]; exact (okc_iff.1 ho).1
  | step _ _ _ ih => exact ih
theorem conn_trans {p q r : Int × Int} (h : Conn W H col p q) (k : Conn W H col q r) : Conn W H col p r := by
  have hc := (conn_ok h).2
  refine conn_rec (fun r => Conn W H col p r) h (fun a b _ ih hn hb hcb => ?_) k
  rw [hc] at hn hcb
  exact conn_step ih hn hb hcb
theorem conn_symm {p q : Int × Int} (h : Conn W H col p q) : Conn W H col q p := by
  refine conn_rec (fun q => Conn W H col q p) (conn_refl (conn_in h)) (fun a b ha ih hn hb hcb => ?_) h
  have hca := (conn_ok ha).2
  refine conn_trans (conn_step (conn_refl hb) ?_ (conn_ok ha).1 (by rw [hca, hcb])) ih
  rw [hcb]; exact nbrs_symm hn
theorem conn_one {p q : Int × Int} (hp : inG W H p) (hq : inG W H q) (hc : col q = col p) (hn : q ∈ nbrs (col p) p) : Conn W H col p q := conn_step (conn_refl hp) hn hq hc

open Classical in
noncomputable def ind (P : Int × Int → Prop) (p : Int × Int) : Int := if P p then 1 else 0
theorem ind_or (P : Int × Int → Prop) (p : Int × Int) : ind P p = 0 ∨ ind P p = 1 := by unfold ind; split <;> simp
theorem ind_one {P : Int × Int → Prop} {p : Int × Int} : ind P p = 1 ↔ P p := by unfold ind; split <;> simp_all
theorem ind_conn {s p q : Int × Int} (h : Conn W H col p q) : ind (Conn W H col s) p = ind (Conn W H col s) q := by
  have : Conn W H col s p ↔ Conn W H col s q := ⟨fun k => conn_trans k h, fun k => conn_trans k (conn_symm h)⟩
  rcases ind_or (Conn W H col s) p with h1 | h1 <;> rcases ind_or (Conn W H col s) q with h2 | h2 <;> rw [h1, h2]
  · have := this.2 (ind_one.1 h2); rw [ind_one.2 this] at h1; exact h1.symm
  · have := this.1 (ind_one.1 h1); rw [ind_one.2 this] at h2; exact h2
theorem ind_col {s p : Int × Int} (h : col p ≠ col s) : ind (Conn W H col s) p = 0 := by
  rcases ind_or (Conn W H col s) p with h1 | h1
  · exact h1
  · exact absurd (conn_ok (ind_one.1 h1)).2 h

noncomputable def cc (R T : Int × Int → Prop) (p q : Int × Int) : Int := ind R p * ind T q - ind T p * ind R q
theorem cc_neg (R T : Int × Int → Prop) (p q : Int × Int) : cc R T p q = - cc T R p q := by unfold cc; rw [Int.neg_sub, Int.mul_comm (ind T p), Int.mul_comm (ind R p), Int.mul_comm (ind T q), Int.mul_comm (ind R q)]
theorem cc_anti (R T : Int × Int → Prop) (p q : Int × Int) : cc R T p q = - cc R T q p := by unfold cc; rw [Int.neg_sub, Int.mul_comm (ind R p), Int.mul_comm (ind R q)]

theorem quadI (ka kb kd ke : Bool) (ra rb rd re ta tb td te : Int) (b1 : ka = true → kb = true → ra = rb) (b2 : kb = true → ke = true → rb = re) (b3 : ka = true → kd = true → ra = rd) (b4 : kd = true → ke = true → rd = re) (b5 : ka = true → ke = true → ra = re) (b6 : kb = true → kd = true → rb = rd)
    (w1 : ka = false → kb = false → ta = tb) (w2 : kb = false → ke = false → tb = te) (w3 : ka = false → kd = false → ta = td) (w4 : kd = false → ke = false → td = te)
    (ba : ka = true → ta = 0) (bb : kb = true → tb = 0) (bd : kd = true → td = 0) (be : ke = true → te = 0) (wa : ka = false → ra = 0) (wb : kb = false → rb = 0) (wd : kd = false → rd = 0) (we : ke = false → re = 0) :
    ra * tb - ta * rb + (rb * te - tb * re) = ra * td - ta * rd + (rd * te - td * re) := by
  cases ka <;> cases kb <;> cases kd <;> cases ke <;> simp only [forall_const, Bool.false_eq_true, Bool.true_eq_false, false_imp_iff, reduceCtorEq, true_imp_iff] at b1 b2 b3 b4 b5 b6 w1 w2 w3 w4 ba bb bd be wa wb wd we <;> (try subst ba) <;> (try subst bb) <;> (try subst bd) <;> (try subst be) <;> (try subst wa) <;> (try subst wb) <;> (try subst wd) <;> (try subst we) <;>
    (try subst b1) <;> (try subst b2) <;> (try subst b3) <;> (try subst b4) <;> (try subst b5) <;> (try subst b6) <;> (try subst w1) <;> (try subst w2) <;> (try subst w3) <;> (try subst w4) <;> (try simp) <;> (try (simp only [Int.mul_comm]; try omega))
/-- Around four cells the numbers add up to naught: the black region first. -/
theorem quad1 {s t a b d e : Int × Int} (hs : col s = true) (ht : col t = false) (ha : inG W H a) (hb : inG W H b) (hd : inG W H d) (he : inG W H e)
    (hab : b ∈ nbrs false a) (hbe : e ∈ nbrs false b) (had : d ∈ nbrs false a) (hde : e ∈ nbrs false d) (hae : e ∈ nbrs true a) (hbd : d ∈ nbrs true b) :
    cc (Conn W H col s) (Conn W H col t) a b + cc (Conn W H col s) (Conn W H col t) b e = cc (Conn W H col s) (Conn W H col t) a d + cc (Conn W H col s) (Conn W H col t) d e := by
  have bl : ∀ {x y}, inG W H x → inG W H y → y ∈ nbrs true x → col x = true → col y = true → ind (Conn W H col s) x = ind (Conn W H col s) y := fun hx hy hn h1 h2 => ind_conn (conn_one hx hy (by rw [h1, h2]) (by rw [h1]; exact hn))
  have wh : ∀ {x y}, inG W H x → inG W H y → y ∈ nbrs false x → col x = false → col y = false → ind (Conn W H col t) x = ind (Conn W H col t) y := fun hx hy hn h1 h2 => ind_conn (conn_one hx hy (by rw [h1, h2]) (by rw [h1]; exact hn))
  have b0 : ∀ {x}, col x = true → ind (Conn W H col t) x = 0 := fun h => ind_col (by rw [h, ht]; simp)
  have w0 : ∀ {x}, col x = false → ind (Conn W H col s) x = 0 := fun h => ind_col (by rw [h, hs]; simp)
  exact quadI (col a) (col b) (col d) (col e) _ _ _ _ _ _ _ _ (bl ha hb (nbrs_mono hab)) (bl hb he (nbrs_mono hbe)) (bl ha hd (nbrs_mono had)) (bl hd he (nbrs_mono hde)) (bl ha he hae) (bl hb hd hbd)
    (wh ha hb hab) (wh hb he hbe) (wh ha hd had) (wh hd he hde) b0 b0 b0 b0 w0 w0 w0 w0
theorem quad {s t a b d e : Int × Int} (hst : col s ≠ col t) (ha : inG W H a) (hb : inG W H b) (hd : inG W H d) (he : inG W H e)
    (hab : b ∈ nbrs false a) (hbe : e ∈ nbrs false b) (had : d ∈ nbrs false a) (hde : e ∈ nbrs false d) (hae : e ∈ nbrs true a) (hbd : d ∈ nbrs true b) :
    cc (Conn W H col s) (Conn W H col t) a b + cc (Conn W H col s) (Conn W H col t) b e = cc (Conn W H col s) (Conn W H col t) a d + cc (Conn W H col s) (Conn W H col t) d e := by
  cases hs : col s <;> cases ht : col t
  · exact absurd (hs.trans ht.symm) hst
  · have := quad1 (W := W) (H := H) (col := col) (s := t) (t := s) ht hs ha hb hd he hab hbe had hde hae hbd
    rw [cc_neg (Conn W H col s) _ a b, cc_neg (Conn W H col s) _ b e, cc_neg (Conn W H col s) _ a d, cc_neg (Conn W H col s) _ d e]
    omega
  · exact quad1 hs ht ha hb hd he hab hbe had hde hae hbd
  · exact absurd (hs.trans ht.symm) hst

/-! ### The height -/
noncomputable def row0 (c : Int × Int → Int × Int → Int) : Nat → Int
  | 0 => 0
  | x + 1 => row0 c x + c ((x : Int), 0) ((x : Int) + 1, 0)
noncomputable def phi (c : Int × Int → Int × Int → Int) (x : Nat) : Nat → Int
  | 0 => row0 c x
  | y + 1 => phi c x y + c ((x : Int), (y : Int)) ((x : Int), (y : Int) + 1)
theorem phi_h {s t : Int × Int} (hst : col s ≠ col t) {x : Nat} (hx : x + 1 < W) : ∀ y, y < H → phi (cc (Conn W H col s) (Conn W H col t)) (x + 1) y = phi (cc (Conn W H col s) (Conn W H col t)) x y + cc (Conn W H col s) (Conn W H col t) ((x : Int), (y : Int)) ((x : Int) + 1, (y : Int))
  | 0, _ => rfl
  | y + 1, hy => by
    have ih := phi_h hst hx y (by omega)
    have q := quad (W := W) (H := H) (col := col) (s := s) (t := t) hst (a := ((x : Int), (y : Int))) (b := ((x : Int) + 1, (y : Int))) (d := ((x : Int), (y : Int) + 1)) (e := ((x : Int) + 1, (y : Int) + 1))
      (inG_mk (by omega)) (inG_mk (by omega)) (inG_mk (by omega)) (inG_mk (by omega))
      (mem_four.2 (.inr ⟨rfl, .inl rfl⟩)) (mem_four.2 (.inl ⟨rfl, .inl rfl⟩)) (mem_four.2 (.inl ⟨rfl, .inl rfl⟩)) (mem_four.2 (.inr ⟨rfl, .inl rfl⟩)) (mem_eight.2 ⟨by simp only; omega, by simp only; omega⟩) (mem_eight.2 ⟨by simp only; omega, by simp only; omega⟩)
    show phi _ (x + 1) y + cc _ _ (((x + 1 : Nat) : Int), (y : Int)) (((x + 1 : Nat) : Int), (y : Int) + 1) = phi _ x y + cc _ _ ((x : Int), (y : Int)) ((x : Int), (y : Int) + 1) + cc _ _ ((x : Int), ((y + 1 : Nat) : Int)) ((x : Int) + 1, ((y + 1 : Nat) : Int))
    rw [ih]
    rw [Int.natCast_add, Int.natCast_add]
    show _ + cc _ _ ((x : Int) + 1, (y : Int)) ((x : Int) + 1, (y : Int) + 1) = _ + _ + cc _ _ ((x : Int), (y : Int) + 1) ((x : Int) + 1, (y : Int) + 1)
    omega
noncomputable def height (W H : Nat) (col : Int × Int → Bool) (s t p : Int × Int) : Int := phi (cc (Conn W H col s) (Conn W H col t)) p.1.toNat p.2.toNat
theorem height_four {s t p q : Int × Int} (hst : col s ≠ col t) (hp : inG W H p) (hq : inG W H q) (hn : q ∈ nbrs false p) : height W H col s t q = height W H col s t p + cc (Conn W H col s) (Conn W H col t) p q := by
  have main : ∀ {p q : Int × Int}, inG W H p → inG W H q → (q.1 = p.1 + 1 ∧ q.2 = p.2 ∨ q.1 = p.1 ∧ q.2 = p.2 + 1) → height W H col s t q = height W H col s t p + cc (Conn W H col s) (Conn W H col t) p q := by
    rintro ⟨a, b⟩ ⟨c, d⟩ hp hq h
    unfold inG at hp hq
    simp only at hp hq h
    obtain ⟨X, rfl⟩ := Int.eq_ofNat_of_zero_le hp.1
    obtain ⟨Y, rfl⟩ := Int.eq_ofNat_of_zero_le hp.2.2.1
    rcases h with ⟨rfl, rfl⟩ | ⟨rfl, rfl⟩
    · have := phi_h (W := W) (H := H) hst (x := X) (by omega) Y (by omega)
      unfold height
      rw [show ((X : Int) + 1).toNat = X + 1 by omega]; simpa using this
    · unfold height
      rw [show ((Y : Int) + 1).toNat = Y + 1 by omega]; rfl
  have h := mem_nbrs.1 hn
  have : (q.1 = p.1 + 1 ∧ q.2 = p.2 ∨ q.1 = p.1 ∧ q.2 = p.2 + 1) ∨ (p.1 = q.1 + 1 ∧ p.2 = q.2 ∨ p.1 = q.1 ∧ p.2 = q.2 + 1) := by
    have h3 := h.2.2
    simp only [Bool.false_eq_true, false_or] at h3
    omega
  rcases this with h | h
  · exact main hp hq h
  · have := main hq hp h
    rw [cc_anti]; omega
theorem height_diag {s t p q : Int × Int} (hst : col s ≠ col t) (hp : inG W H p) (hq : inG W H q) (hn : q ∈ nbrs true p) (hc : Conn W H col p q) : height W H col s t q = height W H col s t p := by
  have e1 := ind_conn (s := s) hc
  have e2 := ind_conn (s := t) hc
  have h := mem_nbrs.1 hn
  by_cases h4 : q.1 = p.1 ∨ q.2 = p.2
  · rw [height_four hst hp hq (mem_nbrs.2 ⟨h.1, h.2.1, .inr h4⟩)]
    unfold cc
    rw [e1, e2, Int.mul_comm]; omega
  · have hu : inG W H (q.1, p.2) := ⟨hq.1, hq.2.1, hp.2.2.1, hp.2.2.2⟩
    rw [height_four hst hu hq (mem_nbrs.2 ⟨by simp only; omega, by simp only; omega, .inr (.inl rfl)⟩), height_four hst hp hu (mem_nbrs.2 ⟨by simp only; omega, by simp only; omega, .inr (.inr rfl)⟩)]
    unfold cc
    rw [e1, e2, Int.mul_comm (ind _ q) (ind _ (q.1, p.2)), Int.mul_comm (ind _ q) (ind _ (q.1, p.2))]
    omega
theorem height_conn {s t p q : Int × Int} (hst : col s ≠ col t) (h : Conn W H col p q) : height W H col s t q = height W H col s t p := by
  refine conn_rec (fun q => height W H col s t q = height W H col s t p) rfl (fun a b ha ih hn hb hcb => ?_) h
  have hca := conn_ok ha
  rw [← ih]
  refine height_diag hst hca.1 hb ?_ (conn_one hca.1 hb (by rw [hcb, hca.2]) (by rw [hca.2]; exact hn))
  rw [mem_nbrs] at hn ⊢
  exact ⟨hn.1, hn.2.1, .inl rfl⟩

/-- Cells to be reached from s without P. -/
inductive Avoid (W H : Nat) (col : Int × Int → Bool) (P : Int × Int → Prop) (s : Int × Int) : Int × Int → Prop
  | base (h : inG W H s) (hp : ¬ P s) : Avoid W H col P s s
  | step {p q : Int × Int} (h : Avoid W H col P s p) (hn : q ∈ nbrs false p ∨ Conn W H col p q) (hq : inG W H q) (hp : ¬ P q) : Avoid W H col P s q
theorem Avoid.inG {P : Int × Int → Prop} {s q : Int × Int} (h : Avoid W H col P s q) : inG W H q := by cases h <;> assumption
theorem Avoid.not {P : Int × Int → Prop} {s q : Int × Int} (h : Avoid W H col P s q) : ¬ P q := by cases h <;> assumption

theorem four_col {s t : Int × Int} (hs : inG W H s) (ht : inG W H t) (hn : t ∈ nbrs false s) (hc : ¬ Conn W H col s t) : col s ≠ col t := fun e => hc (conn_one hs ht e.symm (nbrs_mono hn))

/-- The key: two regions beside S that meet outside S are one. -/
theorem key {s1 t1 s2 t2 : Int × Int} (h1 : t1 ∈ nbrs false s1) (h2 : t2 ∈ nbrs false s2) (hs : Conn W H col s1 s2) (hc1 : ¬ Conn W H col s1 t1) (ha : Avoid W H col (Conn W H col s1) t1 t2) : Conn W H col t1 t2 := by
  have hs1 := conn_in hs
  have hs2 := (conn_ok hs).1
  have ht1 : inG W H t1 := by
    have : ∀ {x}, Avoid W H col (Conn W H col s1) t1 x → inG W H t1 := fun h => by induction h <;> assumption
    exact this ha
  have hst := four_col hs1 ht1 h1 hc1
  have hD : ∀ {x}, Avoid W H col (Conn W H col s1) t1 x → height W H col s1 t1 t1 ≤ height W H col s1 t1 x := by
    intro x h
    induction h with
    | base _ _ => omega
    | step h hn hq hp ih =>
      rename_i p q
      rcases hn with hn | hn
      · rw [height_four hst h.inG hq hn]
        have hq0 : ind (Conn W H col s1) q = 0 := by
          rcases ind_or (Conn W H col s1) q with h | h
          · exact h
          · exact absurd (ind_one.1 h) hp
        unfold cc
        rw [hq0]
        have := Int.mul_nonneg (a := ind (Conn W H col s1) p) (b := ind (Conn W H col t1) q) (by rcases ind_or (Conn W H col s1) p with h | h <;> omega) (by rcases ind_or (Conn W H col t1) q with h | h <;> omega)
        omega
      · rw [height_conn hst hn]; exact ih
  have hst1 : height W H col s1 t1 t1 = height W H col s1 t1 s1 + 1 := by
    rw [height_four hst hs1 ht1 h1]
    unfold cc
    rw [ind_one.2 (conn_refl hs1), ind_one.2 (conn_refl ht1), ind_col (s := t1) hst]
    omega
  have hs2h := height_conn (s := s1) (t := t1) hst hs
  have ht2 := hD ha
  have hf := height_four hst hs2 ha.inG h2
  have hcc : cc (Conn W H col s1) (Conn W H col t1) s2 t2 ≥ 1 := by omega
  unfold cc at hcc
  rcases ind_or (Conn W H col t1) t2 with h | h
  · rw [h] at hcc
    have : ind (Conn W H col t1) s2 * ind (Conn W H col s1) t2 ≥ 0 := Int.mul_nonneg (by rcases ind_or (Conn W H col t1) s2 with h | h <;> omega) (by rcases ind_or (Conn W H col s1) t2 with h | h <;> omega)
    omega
  · exact ind_one.1 h
end
end Go.Proofs.Ytnpkcdegckfjeaa
