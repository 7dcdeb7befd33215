/- The library's Sort and Join, as rules. -/
import Derived.Test.YtnpkcdegckfjeaaCImpl1
import Derived.Test.YtnpkcdegckfjeaaLaid
namespace Go.Proofs.Ytnpkcdegckfjeaa
open Go Go.SL Go.RowKit
set_option maxRecDepth 100000

theorem lib_of {g : FuncId} {fn : Func} {c : Code} {args : Array Value} {w : World} {post : Ending → World → Prop} {K : Value → World → Prop}
    (hf : Pg.funcs[g]? = some fn) (hb : fn.body = some c) (hn : (fn.name == "runtime.NumGoroutine") = false) (hc : Calls Pg g args w post) (hK : ∀ e w', post e w' → retK K e w') : callS Pg g args w K := by
  refine ⟨fun w' => ?_, Calls.mono hc hK⟩
  have hn' : ¬ fn.name = "runtime.NumGoroutine" := by simpa using hn
  simp [callFunc, hf, hb, hn']

theorem encStr_list (x : ByteArray) : Go.Proofs.encStr x.data.toList = .string x := by
  show Value.string ⟨x.data.toList.toArray⟩ = _
  simp
theorem ord_sorted {l : List (List UInt8)} (h : l.Pairwise fun a b => decide (a ≤ b) = true) : Ord (l.map fun x => (⟨x.toArray⟩ : ByteArray)) := by
  unfold Ord
  rw [List.pairwise_map]
  refine h.imp fun {a b} hab => ?_
  rw [lessB_eq, decide_eq_false_iff_not, ByteArray.toList_eq, ByteArray.toList_eq, List.not_lt]
  simpa using hab
theorem sort_list (l : List ByteArray) : ((l.map fun x => x.data.toList).mergeSort fun x y => decide (x ≤ y)).map (fun x => (⟨x.toArray⟩ : ByteArray)) = sortB l := by
  refine (sortB_of ?_ (ord_sorted ?_)).symm
  · have h := (List.mergeSort_perm (l.map fun x => x.data.toList) fun x y => decide (x ≤ y)).map fun x => (⟨x.toArray⟩ : ByteArray)
    rw [List.map_map] at h
    have e : l.map ((fun x => (⟨x.toArray⟩ : ByteArray)) ∘ fun x => x.data.toList) = l := by
      rw [show ((fun x => (⟨x.toArray⟩ : ByteArray)) ∘ fun x => x.data.toList) = id from funext fun x => by simp]
      exact List.map_id l
    rw [e] at h
    exact h
  · refine List.pairwise_mergeSort (le := fun x y => decide (x ≤ y)) (fun a b c h k => ?_) (fun a b => ?_) _
    · simp only [decide_eq_true_iff] at h k ⊢; exact List.le_trans h k
    · simp only [Bool.or_eq_true, decide_eq_true_iff]; exact List.le_total a b

theorem sort_hold {w : World} {b o c : Nat} {l : List ByteArray} (hs : Sl w ty_string 1 b o (l.map Value.string).length c (l.map Value.string)) : Go.Sort.Holds Go.Proofs.encStr w b o (l.map fun x => x.data.toList).toArray := by
  intro j hj
  have hj : j < l.length := by simpa using hj
  obtain ⟨cs', q1, q2⟩ := hs.cell (j := j) (v := .string l[j]) (by simp [hj])
  constructor
  · unfold World.cell?
    simp only [q1]
    rw [q2, getElem!_pos _ j (by simpa using hj)]
    simp only [List.getElem_toArray, List.getElem_map]
    rw [encStr_list]; rfl
  · unfold World.frozen?
    simp only [q1]
    simp
theorem sort_sl {w : World} {b o c n : Nat} {l : List ByteArray} {os : Array Obj} {d : List (List UInt8)} (hs : Sl w ty_string 1 b o (l.map Value.string).length c (l.map Value.string)) (hd : d.map (fun x => (⟨x.toArray⟩ : ByteArray)) = sortB l) (hdl : d.length = l.length) :
    Mod (· = b) w (Go.Sort.grow (Go.Sort.putRow Go.Proofs.encStr (Go.Sort.ahead w n) b o d.toArray) os) ∧ Sl1 (Go.Sort.grow (Go.Sort.putRow Go.Proofs.encStr (Go.Sort.ahead w n) b o d.toArray) os) ty_string (sl b o l.length c) ((sortB l).map Value.string) b := by
  obtain ⟨cs, h1, h2, h3⟩ := hs.cells
  have hle := hs.le
  rw [List.length_map] at hle h3
  have hblk := hs.lt
  have hsz : (sortB l).length = l.length := (sortB_perm l).length_eq
  have hat : (Go.Sort.grow (Go.Sort.putRow Go.Proofs.encStr (Go.Sort.ahead w n) b o d.toArray) os).heap[b]? = some (row (Go.Sort.putCells Go.Proofs.encStr o d.toArray cs) ty_string) := by
    show ((w.heap.modify b _) ++ os)[b]? = _
    rw [Array.getElem?_append_left (by simpa using hblk), Array.getElem?_modify, if_pos rfl, h1]; rfl
  refine ⟨⟨rfl, rfl, rfl, ?_, fun k hk hkb => ?_⟩, ?_⟩
  · show w.heap.size ≤ ((w.heap.modify b _) ++ os).size
    simp
  · show ((w.heap.modify b _) ++ os)[k]? = _
    rw [Array.getElem?_append_left (by simpa using hk), Array.getElem?_modify, if_neg (fun e => hkb e.symm)]
  · refine ⟨o, c, by rw [List.length_map, hsz], ⟨⟨_, hat, by simpa [Go.Sort.putCells] using h2, ?_⟩, by rw [List.length_map, hsz]; exact hle⟩⟩
    rw [List.length_map, hsz, Nat.mul_one]
    apply List.ext_getElem?
    intro j
    rw [List.getElem?_take]
    split
    · rename_i hj
      rw [List.getElem?_drop, Array.getElem?_toList]
      unfold Go.Sort.putCells
      rw [Array.getElem?_mapIdx, Array.getElem?_eq_getElem (by omega), ← hd]
      simp only [Option.map_some]
      rw [if_pos ⟨by omega, by simp; omega⟩, show o + j - o = j by omega, getElem!_pos _ j (by simp; omega)]
      rw [List.map_map, List.getElem?_map, List.getElem?_eq_getElem (by omega)]
      simp
    · rename_i hj
      rw [List.getElem?_eq_none (by rw [List.length_map, hsz]; omega)]
theorem sort_c {w : World} {v : Value} {b : Nat} {l : List ByteArray} {K : Value → World → Prop} (h : Sl1 w ty_string v (l.map Value.string) b) (hl : l.length ≤ 1000000)
    (hK : ∀ w', Mod (· = b) w w' → Sl1 w' ty_string v ((sortB l).map Value.string) b → K (.tuple #[]) w') : callS Pg n_slices_Sort_string_string #[v] w K := by
  obtain ⟨o, c, rfl, hs⟩ := h
  have hc := Try.slices_Sort_string b o c (l.map fun x => x.data.toList) w (sort_hold hs) hs.lt (by rw [List.length_map]; omega)
  rw [List.length_map] at hc
  rw [List.length_map] at hK ⊢
  refine lib_of Try.func51 (c := Try.f51.body.getD .skip) (by kernel_rfl) (by kernel_rfl) hc ?_
  rintro e w' ⟨rfl, n, os, rfl⟩
  obtain ⟨h1, h2⟩ := sort_sl (n := n) (os := os) hs (sort_list l) (by rw [List.length_mergeSort, List.length_map])
  exact hK _ h1 h2

def catB (l : List ByteArray) : ByteArray := l.foldl (· ++ ·) (ByteArray.mk #[])
theorem foldl_app (l : List ByteArray) : ∀ a : ByteArray, l.foldl (· ++ ·) a = a ++ catB l := by
  unfold catB
  induction l with
  | nil => intro a; simp; apply ByteArray.ext; simp
  | cons x l ih =>
    intro a
    rw [List.foldl_cons, List.foldl_cons, ih, ih (ByteArray.mk #[] ++ x)]
    have : ByteArray.mk #[] ++ x = x := by apply ByteArray.ext; simp
    rw [this, ByteArray.append_assoc]
theorem join_list (l : List ByteArray) : (⟨(Lib.join (l.map (·.data.toList)) ([] : List UInt8)).toArray⟩ : ByteArray) = catB l := by
  have key : ∀ l : List ByteArray, Lib.join (l.map (·.data.toList)) ([] : List UInt8) = (catB l).data.toList := by
    intro l
    induction l with
    | nil => rfl
    | cons x l ih =>
      have h1 : catB (x :: l) = x ++ catB l := by
        unfold catB
        rw [List.foldl_cons, foldl_app]
        have : ByteArray.mk #[] ++ x = x := by apply ByteArray.ext; simp
        rw [this]; rfl
      rw [h1, List.map_cons]
      have h2 : ∀ (a : List UInt8) (r : List (List UInt8)), Lib.join (a :: r) [] = a ++ Lib.join r [] := by
        intro a r
        unfold Lib.join
        cases r with
        | nil => simp
        | cons b r => simp [List.intercalate]
      rw [h2, ih]
      simp
  rw [key]
theorem catB_size (l : List ByteArray) : (catB l).size = (l.map ByteArray.size).sum := by
  unfold catB
  rw [joinB_size]
  show 0 + _ = _
  omega
theorem strJoin_c {w : World} {v : Value} {b : Nat} {l : List ByteArray} {K : Value → World → Prop} (h : Sl1 w ty_string v (l.map Value.string) b) (hl : l.length ≤ 1000000) (hsz : (l.map ByteArray.size).sum ≤ 100000000)
    (hK : ∀ w', Ext w w' → K (.string (catB l)) w') : callS Pg n_strings_Join #[v, .string (ByteArray.mk #[])] w K := by
  obtain ⟨o, c, rfl, hs⟩ := h
  have hle := hs.le
  rw [List.length_map] at hle
  have hblk := hs.lt
  rw [List.length_map]
  have e := join_list l
  have hsize : (Lib.join (l.map (·.data.toList)) ([] : List UInt8)).length = (catB l).size := by
    rw [← e]; simp [ByteArray.size]
  refine lib_of Try.func52 (c := Try.f52.body.getD .skip) (by kernel_rfl) (by kernel_rfl) (Try.strings_Join b o c l (ByteArray.mk #[]) w (fun j x hx => ?_) hblk (by omega) hle (by rw [show (ByteArray.mk #[]).data.toList = [] from rfl, hsize, catB_size]; omega)) ?_
  · obtain ⟨cs', q1, q2⟩ := hs.cell (j := j) (v := .string x) (by rw [List.getElem?_map, hx]; rfl)
    unfold World.cell?
    simp only [q1]
    exact q2
  · rintro e' w' ⟨rfl, hbel⟩
    have := hK w' ⟨hbel.os, hbel.tape, hbel.output, hbel.size, fun k hk _ => hbel.block k hk⟩
    rw [← e] at this
    exact this
end Go.Proofs.Ytnpkcdegckfjeaa
