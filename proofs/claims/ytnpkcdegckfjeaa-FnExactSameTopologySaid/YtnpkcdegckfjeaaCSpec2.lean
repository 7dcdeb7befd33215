/- Contracts of the reference's makers of pictures. -/
import Derived.Test.YtnpkcdegckfjeaaCSpec1
import Derived.Test.YtnpkcdegckfjeaaPrim7
namespace Go.Proofs.Ytnpkcdegckfjeaa
open Go Go.SL Go.RowKit
set_option maxRecDepth 100000

/-- A picture as a value. -/
def VPic (w : World) (v : Value) (b W H : Nat) (px : List Bool) : Prop := ∃ u rows, v = .agg #[u] ∧ Sl1 w ty_string u (rows.map Value.string) b ∧ IsPic rows W H px
theorem VPic.mod {S : Nat → Prop} {w w' : World} {v : Value} {b W H : Nat} {px : List Bool} (h : VPic w v b W H px) (hm : Mod S w w') (h2 : ¬ S b) : VPic w' v b W H px := by
  obtain ⟨u, rows, a1, a2, a3⟩ := h
  exact ⟨u, rows, a1, a2.mod hm h2, a3⟩
theorem VPic.ext {w w' : World} {v : Value} {b W H : Nat} {px : List Bool} (h : VPic w v b W H px) (hm : Ext w w') : VPic w' v b W H px := h.mod hm id
theorem VPic.lt {w : World} {v : Value} {b W H : Nat} {px : List Bool} (h : VPic w v b W H px) : b < w.heap.size := by
  obtain ⟨u, rows, a1, a2, a3⟩ := h; exact a2.lt
theorem VPic.spic {w : World} {u : Value} {p b W H : Nat} {px : List Bool} (h : VPic w (.agg #[u]) b W H px) (hp : w.heap[p]? = some (row #[u] ty_impl_Picture)) : SPic w p b W H px := by
  obtain ⟨u', rows, a1, a2, a3⟩ := h
  cases a1
  exact ⟨u, rows, hp, a2, a3⟩

/-- alloc and store of a picture. -/
theorem varP_i {w : World} {T b W H : Nat} {v : Value} {px : List Bool} {K : Value → World → Prop} (hT : T = ty_impl_Picture) (h : VPic w v b W H px) (hK : ∀ p w1, Ext w w1 → w.heap.size ≤ p → SPic w1 p b W H px → K (ptr p 0) w1) :
    eff Pg (Instr.alloc T true (.tuple #[])) w fun t w => effU Pg (Instr.storeAt T t v) w fun w => K t w := by
  subst hT
  obtain ⟨u, rows, rfl, a2, a3⟩ := h
  have h1 := a2.one
  refine varn_i (n := 1) (by kernel_rfl) rfl rfl rfl (by intro v hv; simp at hv; subst hv; exact h1) fun p w1 hn => ?_
  exact hK p w1 hn.ext hn.old ⟨u, rows, hn.at_, a2.ext hn.ext, a3⟩
theorem ldP_i {w : World} {T p b W H : Nat} {px : List Bool} {K : Value → Prop} (hT : T = ty_impl_Picture) (h : SPic w p b W H px) (hK : ∀ v, VPic w v b W H px → K v) : rd Pg (Instr.loadAt T (ptr p 0)) w K := by
  subst hT
  obtain ⟨u, rows, a1, a2, a3⟩ := h
  exact ldn_i (n := 1) (by kernel_rfl) a1 (Nat.le_refl 1) rfl (hK _ ⟨u, rows, rfl, a2, a3⟩)
/-- The result cell of a picture: store and read. -/
theorem outP_i {w : World} {T p b W H : Nat} {px : List Bool} {v z : Value} {K : Value → World → Prop} (hT : T = ty_impl_Picture) (hp : w.heap[p]? = some (row #[z] ty_impl_Picture)) (h : VPic w v b W H px) (hne : p ≠ b) (hK : ∀ w1, Mod (· = p) w w1 → VPic w1 v b W H px → K v w1) :
    effU Pg (Instr.storeAt T (ptr p 0) v) w fun w => rd Pg (resCell T (ptr p 0)) w fun r => K r w := by
  subst hT
  obtain ⟨u, rows, rfl, a2, a3⟩ := h
  have h1 := a2.one
  refine stn_i (n := 1) (by kernel_rfl) (by intro v hv; simp at hv; subst hv; exact h1) rfl hp (Nat.le_refl 1) ?_
  have hlt := lt_of_at hp
  have hm := setAt_mod w p (row (wr #[z] 0 [u]) ty_impl_Picture)
  refine resn_i (n := 1) (by kernel_rfl) (setAt_at w hlt _) (Nat.le_refl 1) rfl ?_
  exact hK _ hm ⟨u, rows, rfl, a2.mod hm (fun e => hne e.symm), a3⟩

theorem buildP_i {w : World} {v : Value} {xs : List Value} {b : Nat} {K : Value → Prop} (h : Sl1 w ty_string v xs b) (hK : K (.agg #[v])) : pur Pg (Instr.build ty_impl_Picture #[(0, v)]) K := by
  obtain ⟨o, c, rfl, _⟩ := h; exact build_i rfl rfl hK

def rowB (W : Nat) (px : List Bool) (y x : Nat) : List UInt8 := (List.range x).map fun i => byteOf (px.getD (y * W + i) false)
def rowsB (W : Nat) (px : List Bool) (y : Nat) : List ByteArray := (List.range y).map fun j => ⟨(rowB W px j W).toArray⟩
theorem isPic_rowsB {W H : Nat} {px : List Bool} (hl : px.length = W * H) (h1 : 1 ≤ W) (h2 : 1 ≤ H) (h3 : W ≤ 1000) (h4 : H ≤ 1000) : IsPic (rowsB W px H) W H px where
  rl := by simp [rowsB]
  len := hl
  w1 := h1
  h1 := h2
  wb := h3
  hb := h4
  each := fun y hy => ⟨⟨(rowB W px y W).toArray⟩, by simp [rowsB, hy], by simp [ByteArray.size, rowB], fun x hx => by
    show (rowB W px y W).toArray[x]? = _
    simp [rowB, hx]⟩

theorem l01Make_c {w : World} {W H c0 : Nat} {px : List Bool} {lv : Value} {K : Value → World → Prop} (hl : Sl1 w ty_bool lv (px.map Value.bool) c0) (hlen : px.length = W * H) (h1 : 1 ≤ W) (h2 : 1 ≤ H) (h3 : W ≤ 1000) (h4 : H ≤ 1000)
    (hK : ∀ v b w', Ext w w' → w.heap.size ≤ b → VPic w' v b W H px → K v w') : callS Pg n_l01Make #[i64 W, lv] w K := by
  refine call_l01Make _ _ _ _ ?_
  unfold S_l01Make
  have hmb := mul_bound h3 h4
  refine alloc_i rfl fun rb w1 hr => ?_
  refine sl1_nil (E := ty_string) (by kernel_rfl) fun v0 c1 w2 he2 hc2 hv2 => ?_
  refine buildP_i hv2 ?_
  have hv1 := hv2.one
  refine varn_i (n := 1) (vs := #[v0]) (by kernel_rfl) rfl rfl rfl (by intro v hv; simp at hv; subst hv; exact hv1) fun p w3 hp => ?_
  have hE3 : Ext w w3 := hr.ext.trans (he2.trans hp.ext)
  have hr3 : w3.heap[rb]? = _ := hp.ext.at_ (he2.at_ hr.at_)
  have hs1 := hr.ext.size
  have hs2 := he2.size
  have hpo := hp.old
  have hro := hr.old
  have hrl := lt_of_at hr.at_
  have hrp : rb ≠ p := by omega
  refine loopS_i (fun s w' => ∃ (y : Nat) (u : Value) (c : Nat), s = [i64 ((y * W : Nat) : Int)] ∧ y ≤ H ∧ Ext w w' ∧ w.heap.size ≤ c ∧ c ≠ p ∧ c ≠ rb ∧ w'.heap[rb]? = w3.heap[rb]? ∧ w'.heap[p]? = some (row #[u] ty_impl_Picture) ∧ Sl1 w' ty_string u ((rowsB W px y).map Value.string) c)
    (fun s _ => W * H - (intOf (nth s 0)).toNat) ⟨0, v0, c1, by simp, by omega, hE3, by omega, by have := hv2.lt; omega, by omega, rfl, hp.at_, hv2.ext hp.ext⟩ ?_
  rintro g s w4 ⟨y, u, c, rfl, hy, hE4, hc, hcp, hcr, hrb, hpp, hu⟩
  rw [nth0]
  have hyW : y * W ≤ W * H := by rw [Nat.mul_comm W H]; exact Nat.mul_le_mul_right W hy
  refine sl1_len (by kernel_rfl) (hl.ext hE4) ?_
  rw [List.length_map, hlen]
  refine lss_i (ifB_i (fun hlt => ?_) (fun hlt => ?_))
  · have hlt' : y * W < W * H := by omega
    have hyH : y + 1 ≤ H := by
      rcases Nat.lt_or_ge y H with h | h
      · exact h
      · have := Nat.mul_le_mul_right W h; rw [Nat.mul_comm H W] at this; omega
    have hmul := Nat.mul_le_mul_right W hyH
    rw [Nat.add_mul, Nat.one_mul, Nat.mul_comm H W] at hmul
    refine sl1_nil (E := ty_uint8) (by kernel_rfl) fun vr cr w5 he5 hcr5 hvr => ?_
    refine loopS_i (fun s w' => ∃ (x : Nat) (v : Value) (cr : Nat), s = [v, i64 x] ∧ x ≤ W ∧ Ext w4 w' ∧ w4.heap.size ≤ cr ∧ Sl1 w' ty_uint8 v ((rowB W px y x).map u8v) cr) (fun s _ => W - (intOf (nth s 1)).toNat) ⟨0, vr, cr, rfl, by omega, he5, hcr5, hvr⟩ ?_
    clear hvr hcr5 he5
    rintro g' s' w6 ⟨x, v, cr, rfl, hx, hE6, hcr6, hv6⟩
    rw [nth1, nth0]
    have hE46 := hE4.trans hE6
    refine lss_i (ifB_i (fun hlt2 => ?_) (fun hlt2 => ?_))
    · refine joinS_k fun J hJ => ?_
      refine add_i (.of (by omega) (by omega)) ?_
      have hxl : y * W + x < px.length := by omega
      refine sl1_get (x := .bool (px.getD (y * W + x) false)) (by kernel_rfl) (by kernel_rfl) (hl.ext hE46) (by omega) ?_ ?_
      · rw [show (((y * W : Nat) : Int) + (x : Int)).toNat = y * W + x by omega, List.getElem?_map, List.getElem?_eq_getElem hxl, List.getD_eq_getElem?_getD, List.getElem?_eq_getElem hxl]; rfl
      have key : J [u8v (byteOf (px.getD (y * W + x) false))] w6 := by
        refine hJ _ _ fun _ => ?_
        rw [nth0]
        refine sl1_app (E := ty_uint8) (by kernel_rfl) rfl hv6 (by simp [rowB]; omega) fun v' w7 cr' hor hm hv7 => ?_
        refine add_i (.of (by omega) (by omega)) ?_
        refine ⟨⟨x + 1, v', cr', rfl, by omega, hE6.own hm hcr6, by have := hE6.size; rcases hor with rfl | h' <;> omega, ?_⟩, ?_⟩
        · rw [show rowB W px y (x + 1) = rowB W px y x ++ [byteOf (px.getD (y * W + x) false)] by simp [rowB, List.range_succ], List.map_append]
          exact hv7
        · simp only [nth1, intOf]; omega
      rw [ifB_eq]
      cases hpx : px.getD (y * W + x) false <;> rw [hpx] at key
      · rw [if_neg (by simp)]; exact key
      · rw [if_pos rfl]; exact key
    · have : x = W := by omega
      subst this
      refine fldi_i (by kernel_rfl) ?_
      have hpp6 := hE6.at_ hpp
      refine ld_i (by kernel_rfl) hpp6 rfl ?_
      refine bytes_i (by kernel_rfl) hv6 ?_
      refine sl1_app (E := ty_string) (by kernel_rfl) rfl (hu.ext hE6) (by simp [rowsB]; omega) fun u' w7 c' hor hm hu7 => ?_
      refine fldi_i (by kernel_rfl) ?_
      have hpp7 := hm.at_ hpp6 (fun e => hcp e.symm)
      have hu1 := hu7.one
      refine st_i (by kernel_rfl) hu1 hpp7 (by simp) ?_
      refine add_i (.of (by omega) (by omega)) ?_
      have hsz6 := hE46.size
      have hsz46 := hE6.size
      have hplt := lt_of_at hpp6
      have hplt7 := lt_of_at hpp7
      have hrlt4 : rb < w4.heap.size := by rw [hr3] at hrb; exact lt_of_at hrb
      have hc'p : c' ≠ p := hor.elim (fun e => e ▸ hcp) (fun h' => by omega)
      have hm8 := setAt_mod w7 p (row (#[u].setIfInBounds 0 u') ty_impl_Picture)
      refine ⟨⟨y + 1, u', c', ?_, hyH, ?_, ?_, hc'p, ?_, ?_, ?_, ?_⟩, ?_⟩
      · rw [Nat.add_mul, Nat.one_mul]; simp
      · exact (hE46.own hm hc).own hm8 (by omega)
      · rcases hor with rfl | h' <;> omega
      · exact hor.elim (fun e => e ▸ hcr) (fun h' => by omega)
      · rw [← hrb, hm8.block rb (by have := hm.size; omega) hrp, hm.block rb (by omega) (fun e => hcr e.symm), hE6.block rb hrlt4 id]
      · rw [setAt_at _ hplt7]; rfl
      · refine Sl1.mod ?_ hm8 hc'p
        rw [show rowsB x px (y + 1) = rowsB x px y ++ [⟨(rowB x px y x).toArray⟩] by simp [rowsB, List.range_succ], List.map_append]
        exact hu7
      · simp only [nth0, intOf]; omega
  · have hyH : y = H := by
      rcases Nat.lt_or_ge y H with h | h
      · have hmul := Nat.mul_le_mul_right W (show y + 1 ≤ H from h)
        rw [Nat.add_mul, Nat.one_mul, Nat.mul_comm H W] at hmul
        omega
      · omega
    subst hyH
    have hP : VPic w4 (.agg #[u]) c W y px := ⟨u, _, rfl, hu, isPic_rowsB hlen h1 h2 h3 h4⟩
    refine ldn_i (n := 1) (by kernel_rfl) hpp (Nat.le_refl 1) rfl ?_
    refine outP_i rfl (hrb.trans hr3) hP (fun e => hcr e.symm) fun w5 hm hP5 => ?_
    exact hK _ c w5 (hE4.own hm hro) hc hP5
end Go.Proofs.Ytnpkcdegckfjeaa
