/- Contract of below: the code of what lies beside a part. -/
import Derived.Test.YtnpkcdegckfjeaaCLib
namespace Go.Proofs.Ytnpkcdegckfjeaa
open Go Go.SL Go.RowKit
set_option maxRecDepth 100000

theorem img_ne {w : World} {b c W H r : Nat} {px : List Bool} {m : List ((Int × Int) × Value)} (h : Img w b c W H px) (hm : MapAt w pairV r m) : b ≠ r ∧ c ≠ r := ⟨row_ne_map h.hd hm, row_ne_map h.dat hm⟩
theorem sl1_ne {w : World} {E : TypeId} {v : Value} {xs : List Value} {b r : Nat} {m : List ((Int × Int) × Value)} (h : Sl1 w E v xs b) (hm : MapAt w pairV r m) : b ≠ r := by
  obtain ⟨cs, hc⟩ := h.cells; exact row_ne_map hc hm
theorem own_ne {w : World} {v : Value} {l : List (Int × Int)} {b r : Nat} {m : List ((Int × Int) × Value)} (h : OwnSpots w v l b) (hm : MapAt w pairV r m) : b ≠ r := by
  obtain ⟨cs, hc⟩ := h.row; exact row_ne_map hc hm
theorem enc_join (l : List ByteArray) : ByteArray.mk #[40] ++ catB (sortB l) ++ ByteArray.mk #[41] = encB l := by
  unfold encB joinB
  rw [foldl_app]
theorem pairV_inj (a b : Int × Int) (h : pairV a = pairV b) : a = b := pair_inj a b h
theorem mem_setM {S : List (Int × Int)} {a : Int × Int} {v : Value} (h : (a, v) ∈ setM S) : a ∈ S ∧ v = .bool true := by
  unfold setM at h
  obtain ⟨x, hx, e⟩ := List.mem_map.1 h
  cases e; exact ⟨hx, rfl⟩
theorem all_setM {S done : List (Int × Int)} (h : ∀ p ∈ setM S, p.1 ∈ done) : ∀ a ∈ S, a ∈ done := fun a ha => h (a, .bool true) (List.mem_map.2 ⟨a, ha, rfl⟩)

/-- Marking a part: every spot of the map r into the map r2. -/
theorem mark_c {w : World} {r r2 : Nat} {S M : List (Int × Int)} {K : World → Prop} (hS : MapAt w pairV r (setM S)) (hM : MapAt w pairV r2 (setM M)) (hne : r ≠ r2) (hSn : S.Nodup)
    (hK : ∀ M' w', Mod (· = r2) w w' → MapAt w' pairV r2 (setM M') → (∀ x, x ∈ M' ↔ x ∈ M ∨ x ∈ S) → K w') :
    eff Pg (Instr.range ty_M_impl_Spot_bool (.map (some r))) w fun t65 w =>
      loopS (fun N g s w =>
      eff Pg (Instr.next t65 Bool.false 0) w fun t66 w =>
      pur Pg (Instr.extract t66 0) fun t67 =>
      ifB t67 (eff Pg (Instr.entry t65) w fun t68 w =>
      pur Pg (Instr.extract t68 0) fun t69 =>
      eff Pg (Instr.alloc ty_impl_Spot true (.tuple #[])) w fun t16 w =>
      effU Pg (Instr.storeAt ty_impl_Spot t16 t69) w fun w =>
      rd Pg (Instr.loadAt ty_impl_Spot t16) w fun t71 =>
      effU Pg (Instr.mapUpdate ty_M_impl_Spot_bool (.map (some r2)) t71 (Go.Value.bool Bool.true)) w fun w =>
      N [] w)
      (K w)) [] w := by
  refine range_i (T := ty_impl_Spot) (z := .bool false) (by kernel_rfl) pairV_inj hS fun it w1 he1 hit hI => ?_
  refine loopS_n S.length (fun n s w' => ∃ done M', s = [] ∧ n + done.length = S.length ∧ Mod (· = r2) w w' ∧ IterAt w' pairV it r (setM S) done ∧ MapAt w' pairV r2 (setM M') ∧ done.Nodup ∧ (∀ x ∈ done, x ∈ S) ∧ ∀ x, x ∈ M' ↔ x ∈ M ∨ x ∈ done)
    ⟨[], M, rfl, by simp, he1.mod, hI, hM.ext he1, List.nodup_nil, by simp, by simp⟩ ?_
  rintro n g s w2 ⟨done, M', rfl, hn, hm2, hI2, hM2, hnd, hsub, hmem⟩ N hN
  have hM2l := hM2.lt
  refine next_i hI2 (fun hall w3 hs3 => ?_) (fun a v hav hnew w3 hm3 hI3 => ?_)
  · refine ext_i rfl ?_
    refine hK M' w3 (hm2.trans hs3.mod) (hM2.ext hs3.ext) fun x => ?_
    rw [hmem]
    exact ⟨fun h => h.imp id (hsub x), fun h => h.imp id (all_setM hall x)⟩
  · refine ext_i rfl ?_
    obtain ⟨haS, rfl⟩ := mem_setM hav
    refine entry_i hI3 fun v hv => ?_
    refine ext_i rfl ?_
    refine varS_i (p := a) rfl fun vb w4 h4 => ?_
    refine ldS_i rfl h4.at_ ?_
    have hitr2 : it ≠ r2 := by have := hM.lt; omega
    have hM3 := hM2.mod hm3 (fun e => hitr2 e.symm)
    have hM4 := hM3.ext h4.ext
    refine update_i (T := ty_impl_Spot) (z := .bool false) (by kernel_rfl) spotKey hM4 a fun w5 hm5 hM5 => ?_
    rw [put_setM'] at hM5
    have hlen : (done ++ [a]).length ≤ S.length := nodup_le (by rw [List.nodup_append]; exact ⟨hnd, by simp, fun x hx y hy => by rw [List.mem_singleton] at hy; subst hy; exact fun e => hnew (e ▸ hx)⟩) (fun x hx => by
      rcases List.mem_append.1 hx with hx | hx
      · exact hsub x hx
      · rw [List.mem_singleton] at hx; subst hx; exact haS)
    rw [List.length_append, List.length_singleton] at hlen
    refine hN (n - 1) _ _ (by omega) ⟨done ++ [a], _, rfl, by rw [List.length_append, List.length_singleton]; omega, ?_, (hI3.mod (h4.ext.mod.trans hm5) hne hitr2), hM5, ?_, ?_, fun x => ?_⟩
    · refine (hm2.comp hm3 (fun _ _ h => h) (fun k hk e => ?_)).trans (h4.ext.mod.trans hm5)
      omega
    · rw [List.nodup_append]; exact ⟨hnd, by simp, fun x hx y hy => by rw [List.mem_singleton] at hy; subst hy; exact fun e => hnew (e ▸ hx)⟩
    · intro x hx
      rcases List.mem_append.1 hx with hx | hx
      · exact hsub x hx
      · rw [List.mem_singleton] at hx; subst hx; exact haS
    · rw [List.mem_append, List.mem_singleton, ← or_assoc, ← hmem]
      by_cases h : a ∈ M'
      · rw [if_pos h]; exact ⟨.inl, fun k => k.elim id fun e => e ▸ h⟩
      · rw [if_neg h, List.mem_append, List.mem_singleton]
end Go.Proofs.Ytnpkcdegckfjeaa
