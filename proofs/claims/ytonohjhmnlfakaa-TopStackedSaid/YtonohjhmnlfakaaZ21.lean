/- Flush's closure; IndexFunc and DeleteFunc of entries by it. The law's sector. The law's live. DiskNone's walk. A range over a map; maps.Clone. Regions of open order whose calls hand over what they make, and whose last operation is a store into what is owned all the time. -/
import Derived.Test.YtonohjhmnlfakaaZ20
import Derived.Test.YtonohjhmnlfakaaZ15
import Derived.Maps.Range
import Derived.Test.YtonohjhmnlfakaaZ10
set_option linter.unusedVariables false
set_option linter.unusedSimpArgs false
set_option maxRecDepth 100000
namespace Go.Proofs.Ytonohjhmnlfakaa.H
open Go.RowKit
/-- Is its number among these? -/
def inS (S : List Int) (x : We) : Bool := S.contains (x.1.n : Int)
/-- Those whose numbers are not among these. -/
abbrev leftW (S : List Int) (we : List We) : List We := we.filter fun x => !inS S x
theorem left_next (S : List Int) {we : List We} {k : Nat} {x : We} (hx : we[k]? = some x) : leftW S (we.take (k + 1)) = leftW S (we.take k) ++ (if inS S x then [] else [x]) := by
  unfold leftW
  rw [List.take_add_one, hx, List.filter_append]
  congr 1
  cases h : inS S x <;> simp [h]
theorem fidx_first {α : Type} (p : α → Bool) : ∀ (l : List α) (k : Nat) (i : Nat), fidx p l k = (i : Int) → k ≤ i ∧ i - k < l.length ∧ (∀ x ∈ l.take (i - k), p x = false) ∧ ∀ x, l[i - k]? = some x → p x = true
  | [], k, i, h => by simp [fidx] at h
  | x :: r, k, i, h => by
    unfold fidx at h
    split at h
    · rename_i hp
      have e : i = k := by omega
      subst e
      refine ⟨Nat.le_refl _, by simp, by simp, fun y hy => ?_⟩
      simp at hy
      rw [← hy]
      exact hp
    · rename_i hp
      obtain ⟨h1, h2, h3, h4⟩ := fidx_first p r (k + 1) i h
      have e : i - k = (i - (k + 1)) + 1 := by omega
      rw [e]
      refine ⟨by omega, by simp only [List.length_cons]; omega, ?_, ?_⟩
      · intro y hy
        rw [List.take_succ_cons] at hy
        rcases List.mem_cons.1 hy with rfl | hy
        · simpa using hp
        · exact h3 y hy
      · intro y hy
        rw [List.getElem?_cons_succ] at hy
        exact h4 y hy
theorem cellsW_set {l : List We} {i : Nat} (x : We) (h : i < l.length) (rest : List Value) : (cellsW l ++ rest).take (i * 5) ++ We.cells x ++ (cellsW l ++ rest).drop (i * 5 + 5) = cellsW (l.set i x) ++ rest := by
  have hl := cellsW_length l
  have e1 : (cellsW l ++ rest).take (i * 5) = cellsW (l.take i) := by rw [List.take_append_of_le_length (by omega), cellsW_take]
  have e2 : (cellsW l ++ rest).drop (i * 5 + 5) = cellsW (l.drop (i + 1)) ++ rest := by
    rw [show i * 5 + 5 = (i + 1) * 5 by omega, List.drop_append_of_le_length (by omega), cellsW_drop]
  have e3 : l.set i x = l.take i ++ [x] ++ l.drop (i + 1) := by rw [List.set_eq_take_append_cons_drop, if_pos h, List.append_assoc]; rfl
  have e4 : cellsW [x] = We.cells x := by simp [cellsW]
  rw [e1, e2, e3, cellsW_app, cellsW_app, e4]
  simp only [List.append_assoc]
theorem cellsW_row {l : List We} {k : Nat} {x : We} (h : l[k]? = some x) (rest : List Value) : ((cellsW l ++ rest).toArray.toList.drop (k * 5)).take 5 = We.cells x := by
  obtain ⟨h1, h2⟩ := List.getElem?_eq_some_iff.1 h
  have hl := cellsW_length l
  show ((cellsW l ++ rest).drop (k * 5)).take 5 = We.cells x
  rw [List.drop_append_of_le_length (by omega), cellsW_drop, List.drop_eq_getElem_cons h1, h2]
  have e : cellsW (x :: l.drop (k + 1)) = We.cells x ++ cellsW (l.drop (k + 1)) := rfl
  have h5 : (We.cells x).length = 5 := rfl
  rw [e, List.append_assoc, List.take_append_of_le_length (by omega), List.take_of_length_le (by omega)]
section
variable (w : World) (L : List HP) (b : Nat) (sv : Value) (n : Nat) (S : List Int)
abbrev fL (b : Nat) (sv : Value) (L : List HP) : List HP := pts b (.cells #[sv] 34) :: L
theorem eflush1_c (x : Wt) (A2 : Option Addr) (c2 : Nat) {r : Bool} (hr : S.contains (x.n : Int) = r) (hn : n = S.length) (hO : Own w (fL b sv L)) (hs : ∀ w', Own w' L → Rd w' 1 sv n (zs S)) :
    Calls Try.prog 59 #[.agg #[.int .i64 x.n, .int .i64 x.p.blk, .int .i64 x.p.off, .string x.p.dat, .slice A2 x.beh.length c2], .pointer (some ⟨b, 0, none⟩)] w (Ret w (.bool r) (fL b sv L)) := by
  have HR := Lib.hid hr
  have HN := Lib.hid hn
  have HS := Lib.hid hs
  have hS := Same.refl w
  clear hr hn hs
  go_enter Try.func59, Try.ntmps59
  go_upto_region 1 with (first | (refine own_box_agg (x := .tmp 0) (cs := (We.cells (x, .slice A2 x.beh.length c2)).toArray) rfl rfl rfl hO ?_; clear hO; intro gx u hO hSn; replace hS := hS.trans hSn; clear hSn))
  go_wp2_with (first | (refine own_load1 (b := b) (off := 0) (cs := #[sv]) (t := 34) (v := sv) rfl rfl rfl row_zs (own_get 1 hO rfl) rfl ?_) | (refine own_load1 (b := gx) (off := 0) (cs := (We.cells (x, .slice A2 x.beh.length c2)).toArray) (t := 79) (v := .int .i64 x.n) rfl rfl rfl row_int (own_get 0 hO rfl) rfl ?_) | (go_at_call 55; (with_reducible refine Calls.mono (contains_i _ _ sv n S (x.n : Int) HN.out HR.out hO (fun w' h => HS.out w' (own_drop (own_drop h)))) ?_); clear hO; rintro e u ⟨rfl, hO, hSn⟩; replace hS := hS.trans hSn; clear hSn))
  go_ret
  exact ⟨rfl, own_drop hO, hS⟩
set_option maxHeartbeats 800000 in
theorem idxf_flush (v : Value) (m : Nat) (we : List We) (hm : m = we.length) (hb : ∀ x ∈ we, ∃ A2 c2, x.2 = .slice A2 x.1.beh.length c2) (hn : n = S.length) (hO : Own w (fL b sv L)) (hs : ∀ w', Own w' L → Rd w' 1 sv n (zs S)) (hr : ∀ w', Own w' (fL b sv L) → Rd w' 5 v m (cellsW we)) :
    Calls Try.prog 85 #[v, .func (.func 59) #[] #[.pointer (some ⟨b, 0, none⟩)]] w (Ret w (.int .i64 (fidx (inS S) we 0)) (fL b sv L)) := by
  subst hm
  have HR := Lib.hid hr
  have HSS := Lib.hid hs
  have HN := Lib.hid hn
  have HB := Lib.hid hb
  obtain ⟨A, c, rfl⟩ := (hr w hO).slice
  have hmx := (hr w hO).max
  clear hr hs hn hb
  go_enter Try.func85, Try.ntmps85
  go_wp2
  go_loopw [8] (fun i wr => ∃ k : Nat, k ≤ we.length ∧ i = .int .i64 k ∧ fidx (inS S) we 0 = fidx (inS S) (we.drop k) k ∧ Own wr (fL b sv L) ∧ Same w wr) (fun i _ => we.length - (intOf i).toNat)
  case atStart => exact ⟨0, Nat.zero_le _, rfl, rfl, hO, Same.refl _⟩
  case round =>
    clear hO
    obtain ⟨k, hk, rfl, hf, hO, hS⟩ := hrel
    have HF := Lib.hid hf
    clear hf
    by_cases hlt : k < we.length
    · obtain ⟨⟨x, xv⟩, hx⟩ : ∃ y, we[k]? = some y := ⟨_, List.getElem?_eq_getElem hlt⟩
      obtain ⟨A2, c2, e2⟩ := HB.out _ (List.mem_of_getElem? hx)
      have e2 : xv = .slice A2 x.beh.length c2 := e2
      subst e2
      obtain ⟨ad, rfl⟩ := (HR.out _ hO).addr (by rw [cellsW_length]; omega)
      have HC := Lib.hid (ent_cells (HR.out _ hO) hx)
      have hm1 : (k : Int) < we.length := by omega
      have HD := Lib.hid (fidx_drop (inS S) hx)
      clear hx
      obtain ⟨r, hrr⟩ : ∃ r, S.contains (x.n : Int) = r := ⟨_, rfl⟩
      have HRR := Lib.hid hrr
      cases r with
      | true =>
        have HX : Hid (fidx (inS S) we 0 = (k : Int)) := by show _ = _; rw [HF.out, HD.out, if_pos (show inS S (x, .slice A2 x.beh.length c2) = true from hrr)]
        clear hrr
        go_wp2_with (first | (refine own_loadrow_at (ad := ad.add (k * 5)) (vs := [.int .i64 x.n, .int .i64 x.p.blk, .int .i64 x.p.off, .string x.p.dat, .slice A2 x.beh.length c2]) rfl rfl rfl row_ent sz_ent rfl HC.out ?_) | (go_at_call 59; (with_reducible refine Calls.mono (eflush1_c _ _ b sv n S x A2 c2 (r := true) HRR.out HN.out hO HSS.out) ?_); clear hO; rintro e u ⟨rfl, hO, hSn⟩; replace hS := hS.trans hSn; clear hSn))
        go_ret
        exact ⟨by rw [HX.out]; rfl, hO, hS⟩
      | false =>
        have HX : Hid (fidx (inS S) we 0 = fidx (inS S) (we.drop (k + 1)) (k + 1)) := by show _ = _; rw [HF.out, HD.out, if_neg (ne_true_of_eq_false (show inS S (x, .slice A2 x.beh.length c2) = false from hrr))]
        clear hrr
        go_wp2_with (first | (refine own_loadrow_at (ad := ad.add (k * 5)) (vs := [.int .i64 x.n, .int .i64 x.p.blk, .int .i64 x.p.off, .string x.p.dat, .slice A2 x.beh.length c2]) rfl rfl rfl row_ent sz_ent rfl HC.out ?_) | (go_at_call 59; (with_reducible refine Calls.mono (eflush1_c _ _ b sv n S x A2 c2 (r := false) HRR.out HN.out hO HSS.out) ?_); clear hO; rintro e u ⟨rfl, hO, hSn⟩; replace hS := hS.trans hSn; clear hSn))
        go_roundw
        case rel => exact ⟨k + 1, by omega, by go_num, HX.out, hO, hS⟩
        case measure => simp [intOf]; omega
    · have hke : k = we.length := by omega
      subst hke
      have HX : Hid (fidx (inS S) we 0 = -1) := by show _ = _; rw [HF.out, fidx_end]
      go_wp2
      go_ret
      exact ⟨by rw [HX.out]; rfl, hO, hS⟩
set_option maxHeartbeats 3200000 in
theorem delf_flush (v : Value) (m : Nat) (we : List We) (hm : m = we.length) (hb : ∀ x ∈ we, ∃ A2 c2, x.2 = .slice A2 x.1.beh.length c2) (h200 : m ≤ 200) (hn : n = S.length) (hO : Own w (owns 79 5 v m (cellsW we) :: fL b sv L)) (hs : ∀ w', Own w' L → Rd w' 1 sv n (zs S)) :
    Calls Try.prog 57 #[v, .func (.func 59) #[] #[.pointer (some ⟨b, 0, none⟩)]] w (RetX w (fun v' : Value => v') (fun v' => owns 79 5 v' (leftW S we).length (cellsW (leftW S we)) :: fL b sv L)) := by
  have HSS := Lib.hid hs
  have HN := Lib.hid hn
  have HB := Lib.hid hb
  have HM := Lib.hid hm
  have hS := Same.refl w
  obtain ⟨z, hz⟩ : ∃ z, z = fidx (inS S) we 0 := ⟨_, rfl⟩
  have HI : Hid (∀ w', Own w' (owns 79 5 v m (cellsW we) :: fL b sv L) → Calls Try.prog 85 #[v, .func (.func 59) #[] #[.pointer (some ⟨b, 0, none⟩)]] w' (Ret w' (.int .i64 z) (owns 79 5 v m (cellsW we) :: fL b sv L))) := Lib.hid fun w' h => by
    rw [hz]
    refine (idxf_flush w' (owns 79 5 v m (cellsW we) :: L) b sv n S v m we hm hb hn (own_swap h) (fun w2 h2 => hs w2 (own_drop h2)) (fun w2 h2 => owns_rd (own_swap h2))).mono ?_
    rintro e u ⟨h1, h2, h3⟩
    exact ⟨h1, own_swap h2, h3⟩
  by_cases hneg : z = -1
  · subst hneg
    have HE : Hid (leftW S we = we) := by
      have h1 := fidx_any (inS S) we 0
      rw [← hz] at h1
      have h2 : we.any (inS S) = false := by rw [← h1]; rfl
      exact List.filter_eq_self.2 fun x hx => by rw [List.any_eq_false] at h2; simpa using h2 x hx
    clear hs hn hb hm hz
    go_enter Try.func57, Try.ntmps57
    go_wp2_with (first | (go_at_call 85; (with_reducible refine Calls.mono (HI.out _ hO) ?_); clear hO; rintro e u ⟨rfl, hO, hSn⟩; replace hS := hS.trans hSn; clear hSn))
    go_ret
    refine ⟨v, rfl, ?_, hS⟩
    rw [HE.out, ← HM.out]
    exact hO
  · obtain ⟨i0, hi0⟩ : ∃ i0 : Nat, z = (i0 : Int) := by
      rcases fidx_lt (inS S) we 0 with h | ⟨h1, _⟩
      · exact absurd (hz.trans h) hneg
      · exact ⟨z.toNat, by omega⟩
    subst hi0
    obtain ⟨_, hi1, hi2, hi3⟩ := fidx_first (inS S) we 0 i0 hz.symm
    simp only [Nat.sub_zero] at hi1 hi2 hi3
    have hne2 : ((i0 : Int) == -1) = false := by rw [beq_eq_false_iff_ne]; omega
    have HL0 : Hid (leftW S (we.take (i0 + 1)) = we.take i0) := by
      obtain ⟨x, hx⟩ : ∃ x, we[i0]? = some x := ⟨_, List.getElem?_eq_getElem hi1⟩
      show _ = _
      rw [left_next S hx, hi3 x hx, if_pos rfl, List.append_nil]
      exact List.filter_eq_self.2 fun x hx => by rw [hi2 x hx]; rfl
    obtain ⟨g, cap, rest, rfl, hk, hmax, hsz, hcl, _⟩ := owns_open hO (fun e => by
      have h := owns_row hO
      rw [e] at h
      rcases h.2 with ⟨_, h2⟩ | ⟨g, cap, cur, e1, _⟩
      · omega
      · cases e1)
    have HCAP : Hid (m ≤ cap ∧ cap ≤ maxLen ∧ m ≤ 200) := ⟨hk, hmax, h200⟩
    unfold maxLen at hmax
    have hi0m : i0 < m := by omega
    clear hs hn hb hz hneg hi1 hi2 hi3 hsz hcl
    go_enter Try.func57, Try.ntmps57
    clear hm
    go_upto_region 5 with (first | (go_at_call 85; (with_reducible refine Calls.mono (HI.out _ hO) ?_); clear hO; rintro e u ⟨rfl, hO, hSn⟩; replace hS := hS.trans hSn; clear hSn))
    obtain ⟨g2, cap2, rest, he, _, _, hsz, _, hO9⟩ := owns_open hO (by intro e; cases e)
    clear hO
    obtain ⟨rfl, rfl⟩ : g2 = g ∧ cap2 = cap := by cases he; exact ⟨rfl, rfl⟩
    have hO := hO9
    clear he hO9
    have HSZ : Hid (rest.length + m * 5 = cap2 * 5) := by
      show _ = _
      rw [List.length_append, cellsW_length, ← HM.out] at hsz
      omega
    clear hsz
    go_loopw [5, 6] (fun iv jv wr => ∃ (i j : Nat) (wl : List We), i < j ∧ j ≤ m ∧ iv = .int .i64 i ∧ jv = .int .i64 j ∧ Hid (wl.length = m ∧ wl.take i = leftW S (we.take j) ∧ wl.drop j = we.drop j) ∧ Own wr (pts g2 (.cells (cellsW wl ++ rest).toArray 79) :: fL b sv L) ∧ Same w wr) (fun _ jv _ => m - (intOf jv).toNat)
    case atStart => exact ⟨i0, i0 + 1, we, by omega, by omega, rfl, by go_num, Lib.hid ⟨HM.out.symm, HL0.out.symm, rfl⟩, hO, hS⟩
    case round =>
      clear hO hS HL0
      obtain ⟨i, j, wl, hij, hjm, rfl, rfl, HW, hO, hS⟩ := hrel
      have HIJ := Lib.hid hij
      by_cases hlt : j < m
      · obtain ⟨⟨x, xv⟩, hx⟩ : ∃ y, we[j]? = some y := ⟨_, List.getElem?_eq_getElem (by rw [← HM.out]; exact hlt)⟩
        obtain ⟨A2, c2, e2⟩ := HB.out _ (List.mem_of_getElem? hx)
        have e2 : xv = .slice A2 x.beh.length c2 := e2
        subst e2
        have hxl : wl[j]? = some (x, .slice A2 x.beh.length c2) := by
          have h1 : (wl.drop j)[0]? = (we.drop j)[0]? := by rw [HW.out.2.2]
          rw [List.getElem?_drop, List.getElem?_drop, Nat.add_zero] at h1
          rw [h1]; exact hx
        have HROW := Lib.hid (cellsW_row hxl rest)
        have HFIT : Hid (j * 5 + 5 ≤ (cellsW wl ++ rest).toArray.size ∧ i * 5 + 5 ≤ (cellsW wl ++ rest).toArray.size) := by
          have h1 := HW.out.1
          have h2 := HSZ.out
          rw [List.size_toArray, List.length_append, cellsW_length, h1]
          exact ⟨by omega, by omega⟩
        have HNX := Lib.hid (left_next S hx)
        have HSET := Lib.hid (cellsW_set (l := wl) (i := i) (x, .slice A2 x.beh.length c2) (by have := HW.out.1; omega) rest)
        have hm1 : (j : Int) < m := by omega
        have hm2 : (i : Int) < m := by omega
        clear hx hxl
        obtain ⟨r, hrr⟩ : ∃ r, S.contains (x.n : Int) = r := ⟨_, rfl⟩
        have HRR := Lib.hid hrr
        cases r with
        | true =>
          have HIN : Hid (inS S (x, .slice A2 x.beh.length c2) = true) := hrr
          clear hrr
          go_upto_region 8 with (first | (refine own_loadrow (b := g2) (off := j * 5) (cs := (cellsW wl ++ rest).toArray) (t := 79) (vs := (We.cells (x, .slice A2 x.beh.length c2))) rfl rfl rfl row_ent sz_ent (own_get 0 hO rfl) HFIT.out.1 HROW.out ?_) | (refine own_alloc (T := 79) rfl rfl zero_ent rfl hO ?_; clear hO; intro gx u hO hSn; replace hS := hS.trans hSn; clear hSn) | (apply own_store_all (k := 0) rfl rfl rfl rfl sz_ent hO rfl; (focus rfl); (focus rfl); (focus rfl); clear hO; intro u hO hSn; replace hS := hS.trans hSn; clear hSn; simp only [List.set_cons_zero, List.set_cons_succ] at hO) | (refine own_loadrow (b := gx) (off := 0) (cs := (We.cells (x, .slice A2 x.beh.length c2)).toArray) (t := 79) (vs := [.int .i64 x.n, .int .i64 x.p.blk, .int .i64 x.p.off, .string x.p.dat, .slice A2 x.beh.length c2]) rfl rfl rfl row_ent sz_ent (own_get 0 hO rfl) (by show 5 ≤ 5; decide) rfl ?_))
          have hO : Own _ (fL b sv (_ :: _ :: L)) := own_at hO (k := 2) rfl
          go_wp2_with (first | (refine own_loadrow (b := gx) (off := 0) (cs := (We.cells (x, .slice A2 x.beh.length c2)).toArray) (t := 79) (vs := [.int .i64 x.n, .int .i64 x.p.blk, .int .i64 x.p.off, .string x.p.dat, .slice A2 x.beh.length c2]) rfl rfl rfl row_ent sz_ent (own_get 1 hO rfl) (by show 5 ≤ 5; decide) rfl ?_) | (go_at_call 59; (with_reducible refine Calls.mono (eflush1_c _ _ b sv n S x A2 c2 (r := true) HRR.out HN.out hO (fun w' h => HSS.out w' (own_drop (own_drop h)))) ?_); clear hO; rintro e u ⟨rfl, hO, hSn⟩; replace hS := hS.trans hSn; clear hSn))
          go_roundw
          case rel =>
            refine ⟨i, j + 1, wl, by omega, by omega, rfl, by go_num, Lib.hid ⟨HW.out.1, ?_, ?_⟩, own_at (own_drop (own_at hO (k := 1) rfl)) (k := 1) rfl, hS⟩
            · rw [HNX.out, HIN.out, if_pos rfl, List.append_nil]; exact HW.out.2.1
            · rw [← List.drop_drop, ← List.drop_drop, HW.out.2.2]
          case measure => simp [intOf]; omega
        | false =>
          have HIN : Hid (inS S (x, .slice A2 x.beh.length c2) = false) := hrr
          clear hrr
          go_upto_region 8 with (first | (refine own_loadrow (b := g2) (off := j * 5) (cs := (cellsW wl ++ rest).toArray) (t := 79) (vs := (We.cells (x, .slice A2 x.beh.length c2))) rfl rfl rfl row_ent sz_ent (own_get 0 hO rfl) HFIT.out.1 HROW.out ?_) | (refine own_alloc (T := 79) rfl rfl zero_ent rfl hO ?_; clear hO; intro gx u hO hSn; replace hS := hS.trans hSn; clear hSn) | (apply own_store_all (k := 0) rfl rfl rfl rfl sz_ent hO rfl; (focus rfl); (focus rfl); (focus rfl); clear hO; intro u hO hSn; replace hS := hS.trans hSn; clear hSn; simp only [List.set_cons_zero, List.set_cons_succ] at hO) | (refine own_loadrow (b := gx) (off := 0) (cs := (We.cells (x, .slice A2 x.beh.length c2)).toArray) (t := 79) (vs := [.int .i64 x.n, .int .i64 x.p.blk, .int .i64 x.p.off, .string x.p.dat, .slice A2 x.beh.length c2]) rfl rfl rfl row_ent sz_ent (own_get 0 hO rfl) (by show 5 ≤ 5; decide) rfl ?_))
          have hO : Own _ (fL b sv (_ :: _ :: L)) := own_at hO (k := 2) rfl
          go_wp2_with (first | (refine own_loadrow (b := gx) (off := 0) (cs := (We.cells (x, .slice A2 x.beh.length c2)).toArray) (t := 79) (vs := [.int .i64 x.n, .int .i64 x.p.blk, .int .i64 x.p.off, .string x.p.dat, .slice A2 x.beh.length c2]) rfl rfl rfl row_ent sz_ent (own_get 1 hO rfl) (by show 5 ≤ 5; decide) rfl ?_) | (go_at_call 59; (with_reducible refine Calls.mono (eflush1_c _ _ b sv n S x A2 c2 (r := false) HRR.out HN.out hO (fun w' h => HSS.out w' (own_drop (own_drop h)))) ?_); clear hO; rintro e u ⟨rfl, hO, hSn⟩; replace hS := hS.trans hSn; clear hSn) | (refine own_store (k := 2) (b := g2) (off := i * 5) (n := 5) (v := .agg #[.int .i64 x.n, .int .i64 x.p.blk, .int .i64 x.p.off, .string x.p.dat, .slice A2 x.beh.length c2]) (vs := (We.cells (x, .slice A2 x.beh.length c2))) rfl rfl rfl rfl sz_ent hO rfl rfl rfl (by intro u hu; simp [We.cells] at hu; rcases hu with rfl | rfl | rfl | rfl | rfl <;> rfl) HFIT.out.2 HSET.out ?_; clear hO; intro u hO hSn; replace hS := hS.trans hSn; clear hSn; simp only [List.set_cons_zero, List.set_cons_succ] at hO))
          go_roundw
          case rel =>
            refine ⟨i + 1, j + 1, wl.set i (x, .slice A2 x.beh.length c2), by omega, by omega, by go_num, by go_num, Lib.hid ⟨by rw [List.length_set]; exact HW.out.1, ?_, ?_⟩, own_at (own_drop (own_at hO (k := 1) rfl)) (k := 1) rfl, hS⟩
            · rw [HNX.out, HIN.out, if_neg (by decide), ← HW.out.2.1]
              have hi : i < wl.length := by have := HW.out.1; omega
              rw [List.take_add_one, List.getElem?_set, if_pos rfl, if_pos hi, List.take_set_of_le (Nat.le_refl _)]
              rfl
            · rw [List.drop_set_of_lt (by omega), ← List.drop_drop, ← List.drop_drop, HW.out.2.2]
          case measure => simp [intOf]; omega
      · have hke : j = m := by omega
        subst hke
        obtain ⟨r, hr⟩ : ∃ r, j - i = r + 1 := ⟨j - i - 1, by omega⟩
        have hle1 : i ≤ j := by omega
        have hle2 : j ≤ cap2 := HCAP.out.1
        have q5 : (cap2 = i) = False := by simp; omega
        have q6 : (j = i) = False := by simp; omega
        have HCS : Hid (i * 5 + (r + 1) * 5 ≤ (cellsW wl ++ rest).toArray.size ∧ (cellsW wl ++ rest).toArray.size = cap2 * 5) := by
          have h1 := HW.out.1
          have h2 := HSZ.out
          rw [List.size_toArray, List.length_append, cellsW_length, h1]
          exact ⟨by omega, by omega⟩
        have HRI : Hid (j = i + (r + 1)) := by show _ = _; omega
        go_wp2_with (first | (refine own_clearZ (n := r) (k := 0) (g := g2) (lo := i * 5) (sz := 5) (cur := (cellsW wl ++ rest).toArray) rfl rfl rfl Try.underlying65 zero_entv rfl (by intro u hu; simp [Value.cells] at hu; rcases hu with rfl | rfl | rfl <;> rfl) (by decide) hO rfl HCS.out.1 ?_; clear hO; intro zl w7 hzl hO hS7; simp only [List.set_cons_zero] at hO; replace hzl := Lib.hid hzl))
        go_ret
        refine ⟨.slice (some ⟨g2, 0, none⟩) i cap2, rfl, ?_, hS.trans hS7⟩
        have hlw : (cellsW wl).take (i * 5) = cellsW (leftW S we) := by
          rw [cellsW_take, HW.out.2.1, HM.out, List.take_length]
        have hll : (leftW S we).length = i := by
          have h1 := HW.out.2.1
          rw [HM.out, List.take_length] at h1
          rw [← h1, List.length_take, HW.out.1]
          have := HRI.out
          omega
        rw [hll]
        have h5 := cellsW_length wl
        have h1 := HW.out.1
        refine owns_of_pts hO ?_ (by have := HCAP.out; have := HRI.out; omega) HCAP.out.2.1 ?_
        · have h2 := hzl.out
          have h3 := HCS.out
          rw [List.size_toArray] at h3 ⊢
          simp only [List.length_append, List.length_take, List.length_drop, h2] at h3 ⊢
          omega
        · have l2 : ((cellsW wl ++ rest).take (i * 5)).length = i * 5 := by rw [List.length_take, List.length_append]; have := HRI.out; omega
          show (((cellsW wl ++ rest).take (i * 5) ++ zl ++ (cellsW wl ++ rest).drop (i * 5 + (r + 1) * 5))).take (i * 5) = _
          rw [List.append_assoc, List.take_append_of_le_length (by rw [l2]; exact Nat.le_refl _), List.take_of_length_le (by rw [l2]; exact Nat.le_refl _), List.take_append_of_le_length (by have := HRI.out; omega), hlw]
end
end Go.Proofs.Ytonohjhmnlfakaa.H
set_option linter.unusedVariables false
set_option linter.unusedSimpArgs false
set_option maxRecDepth 100000
namespace Go.Proofs.Ytonohjhmnlfakaa.H
open Go.RowKit
/-- A sector of one byte. -/
abbrev sec (c : UInt8) : Sec := List.replicate 32 c
theorem row_arr : isRowB Try.prog 46 = some true := by kernel_rfl
theorem sz_arr3 : (Try.prog.info? 46).map (·.size) = some 32 := by kernel_rfl
theorem zero_arr : (Try.prog.info? 46).map (·.zero) = some (some (.agg (Array.replicate 32 (.int .u8 0)))) := by kernel_rfl
theorem sz_u83 : (Try.prog.info? 5).map (·.size) = some 1 := by kernel_rfl
def half (c : UInt8) (k : Nat) : Sec := List.replicate k c ++ List.replicate (32 - k) 0
theorem half_len (c : UInt8) {k : Nat} (h : k ≤ 32) : (half c k).length = 32 := by simp [half]; omega
theorem half_set (c : UInt8) {k : Nat} (h : k < 32) : (bcs (half c k)).toArray.setIfInBounds k (.int .u8 (c.toNat : Int)) = (bcs (half c (k + 1))).toArray := by
  have e : (half c k).set k c = half c (k + 1) := by
    unfold half
    rw [List.set_append_right _ _ (by simp), List.length_replicate, Nat.sub_self, show 32 - k = (32 - (k + 1)) + 1 by omega, List.replicate_succ, List.set_cons_zero, List.replicate_succ', List.append_assoc]
    rfl
  rw [← e]
  apply Array.ext'
  simp [bcs, List.map_set]
theorem half_zero (c : UInt8) : (Value.agg (Array.replicate 32 (Value.int .u8 0))).cells = (bcs (half c 0)).toArray := by
  apply Array.ext'
  simp [Value.cells, half, bcs]
end Go.Proofs.Ytonohjhmnlfakaa.H
set_option linter.unusedVariables false
set_option linter.unusedSimpArgs false
set_option maxRecDepth 100000
namespace Go.Proofs.Ytonohjhmnlfakaa.H
open Go.RowKit
abbrev lv0 : List Blk := fresh (List.replicate 2 sec0)
abbrev lv1 : List Blk := [⟨sec0, [sec 1], false⟩, ⟨sec0, [], false⟩]
abbrev lv2 : List Blk := [⟨sec0, [sec 1, sec 2], false⟩, ⟨sec0, [], false⟩]
abbrev lv3 : List Blk := [⟨sec 1, [], false⟩, ⟨sec0, [], false⟩]
theorem row_u8D : isRowB Try.prog 5 = some false := by kernel_rfl
section
variable (w : World) (L : List HP) (d : Nat)
theorem live_new (hO : Own w L) : Calls Try.prog 7 #[.int .i64 2] w (RetX w (fun d : Nat => .pointer (some ⟨d, 0, none⟩)) (fun d => diskP d lv0 :: L)) := new_ok w L 2 hO (by decide) (by decide)
theorem live_w1 (hO : Own w (diskP d lv0 :: L)) : Calls Try.prog 56 #[.pointer (some ⟨d, 0, none⟩), .int .i64 0, secV (sec 1)] w (Ret w (.int .i64 0) (diskP d lv1 :: L)) := write_ok w L d lv0 0 ⟨sec0, [], false⟩ (sec 1) hO rfl rfl rfl (by decide)
theorem live_w2 (hO : Own w (diskP d lv1 :: L)) : Calls Try.prog 56 #[.pointer (some ⟨d, 0, none⟩), .int .i64 0, secV (sec 2)] w (Ret w (.int .i64 0) (diskP d lv2 :: L)) := write_ok w L d lv1 0 ⟨sec0, [sec 1], false⟩ (sec 2) hO rfl rfl rfl (by decide)
theorem live_c (g : Nat) (hO : Own w (diskP d lv2 :: L)) (hg : ∀ w', Own w' L → Rd w' 1 (.slice (some ⟨g, 0, none⟩) 1 1) 1 [.int .i64 1]) : Calls Try.prog 60 #[.pointer (some ⟨d, 0, none⟩), .slice (some ⟨g, 0, none⟩) 1 1] w (Ret w (.int .i64 0) (diskP d lv3 :: L)) := crash_c w L d lv2 _ [1] hO (by decide) (fun b hb => by simp at hb; rcases hb with rfl | rfl <;> simp) hg
theorem live_z (hO : Own w (diskP d lv3 :: L)) : Calls Try.prog 37 #[.pointer (some ⟨d, 0, none⟩)] w (Ret w (.int .i64 2) (diskP d lv3 :: L)) := size_c w L d lv3 hO
end
end Go.Proofs.Ytonohjhmnlfakaa.H
set_option linter.unusedVariables false
set_option linter.unusedSimpArgs false
set_option maxRecDepth 100000
namespace Go.Proofs.Ytonohjhmnlfakaa.H
open Go.RowKit
theorem fork_nil (w : World) (L : List HP) (hO : Own w L) : Calls Try.prog 31 #[.pointer none] w (Ret w (.pointer none) L) := by
  go_enter Try.func31, Try.ntmps31
  go_wp2
  go_ret
  exact ⟨rfl, hO, Same.refl _⟩
end Go.Proofs.Ytonohjhmnlfakaa.H
set_option linter.unusedVariables false
set_option linter.unusedSimpArgs false
set_option maxRecDepth 100000
namespace Go.Proofs.Ytonohjhmnlfakaa.H
open Go.RowKit
open Go.ChangeMaps (setBlock)
theorem own_setBlock {w w1 : World} {L : List HP} {r : Nat} {o o' : Obj} (hO : Own w (pts r o :: L)) (h1 : w1 = w ∨ w1 = w.drew) : Own (setBlock w1 r o') (pts r o' :: L) := by
  have hr := own_pts hO
  have hlt := (Array.getElem?_eq_some_iff.1 hr).1
  have hh : w1.heap = w.heap := by rcases h1 with rfl | rfl <;> rfl
  refine own_put hO (fun i hi x hx => ?_) ?_
  · show (w1.heap.setIfInBounds r o')[i]? = some x
    rw [hh, Array.getElem?_setIfInBounds, if_neg (fun e => hi e.symm)]
    exact hx
  · show (w1.heap.setIfInBounds r o')[r]? = some o'
    rw [hh, Array.getElem?_setIfInBounds, if_pos rfl, if_pos hlt]
theorem same_setBlock {w w1 : World} {r : Nat} {o' : Obj} (h1 : w1 = w ∨ w1 = w.drew) : Same w (setBlock w1 r o') := by
  have h : Same w w1 := by
    rcases h1 with rfl | rfl
    · exact Same.refl _
    · exact Same.drew _
  exact h.trans ⟨rfl, rfl, rfl, by simp [setBlock]⟩
section
variable {P : Program} {ops : Array Oper} {rest : List Oper} {o : Oper} {a : Act} {Q : Exit → Act → World → Prop} {w : World} {L : List HP}
theorem own_range {T K E : TypeId} {x : Operand} {b i clock : Nat} {es : Array MapEntry} (hw : Region.wanted o (yielded ops a.tmps) = true) (ho : o.op = .range T x) (hx : a.eval x = .map (some b)) (hT : P.underlying T = some (.map K E)) (hO : Own w L) (hi : L[i]? = some (pts b (.map es clock)))
    (h : ∀ r w', Own w' (pts r (.mapIter (some b) clock #[] clock) :: L) → Same w w' → wpList P ops Q rest (a.put o.dst (.pointer (some ⟨r, 0, none⟩))) w') : wpList P ops Q (o :: rest) a w := by
  have hb := own_pts (own_at hO hi)
  refine ev hw ?_ (h _ _ (own_alloc_new hO (.mapIter (some b) clock #[] clock)) (Same.alloc _ _))
  simp only [execOp, ho, hx, Sem.run_bind]
  simp [Instr.range, run_underlying hT, MapKept.run_getObj_map hb, Result.andThen, newObj, Sem.run_bind]
  rfl
theorem own_next {x : Operand} {r b i j since c0 clock : Nat} {seen : Array Nat} {es : Array MapEntry} (hw : Region.wanted o (yielded ops a.tmps) = true) (ho : o.op = .next x false) (hx : a.eval x = .pointer (some ⟨r, 0, none⟩)) (hO : Own w L) (hi : L[i]? = some (pts r (.mapIter (some b) since seen c0))) (hj : L[j]? = some (pts b (.map es clock)))
    (hold : ∀ x ∈ es.toList, x.born < since) (hsc : since ≤ c0)
    (hDone : (leftOf es seen).size = 0 → wpList P ops Q rest (a.put o.dst (.tuple #[.bool false])) w)
    (hMore : ∀ (key val : Value) (born : Nat) w', (⟨key, val, born⟩ : MapEntry) ∈ (leftOf es seen).toList → Own w' (L.set i (pts r (.mapIter (some b) since (seen.push born) clock))) → Same w w' → wpList P ops Q rest (a.put o.dst (.tuple #[.bool true, key, val])) w') : wpList P ops Q (o :: rest) a w := by
  have hb := own_pts (own_at hO hj)
  have hr := own_pts (own_at hO hi)
  rcases run_next_at (P := P) w o.type r b since c0 seen es clock hr hb hold hsc with ⟨h0, hrun⟩ | ⟨e, he, w1, hw1, hrun⟩
  · refine ev hw ?_ (hDone h0)
    simp only [execOp, ho, hx]
    simp [hrun, Sem.run_bind, Result.andThen]
  · obtain ⟨key, val, born⟩ := e
    refine ev hw ?_ (hMore key val born (setBlock w1 r (.mapIter (some b) since (seen.push born) clock)) he (own_back (own_setBlock (own_at hO hi) hw1) (List.getElem?_eq_some_iff.1 hi).1) (same_setBlock hw1))
    simp only [execOp, ho, hx]
    simp [hrun, Sem.run_bind, Result.andThen]
theorem own_entry {x : Operand} {r b i j since clock : Nat} {seen : Array Nat} {es : Array MapEntry} {key val : Value} {born : Nat} (hw : Region.wanted o (yielded ops a.tmps) = true) (ho : o.op = .entry x) (hx : a.eval x = .pointer (some ⟨r, 0, none⟩)) (hO : Own w L) (hi : L[i]? = some (pts r (.mapIter (some b) since (seen.push born) clock))) (hj : L[j]? = some (pts b (.map es clock)))
    (he : (⟨key, val, born⟩ : MapEntry) ∈ es.toList) (hn : (es.toList.map (·.born)).Nodup) (h : wpList P ops Q rest (a.put o.dst (.tuple #[key, val])) w) : wpList P ops Q (o :: rest) a w := by
  have hb := own_pts (own_at hO hj)
  have hr := own_pts (own_at hO hi)
  have hrun := run_entry_at (P := P) w r b since seen es clock ⟨key, val, born⟩ hr hb he hn
  refine ev hw ?_ h
  simp only [execOp, ho, hx]
  simp [hrun, Sem.run_bind, Result.andThen]
end
theorem left_toList (es : Array MapEntry) (seen : Array Nat) : (leftOf es seen).toList = es.toList.filter fun e => !seen.contains e.born := by
  unfold leftOf
  rw [Array.toList_filter]
theorem left_size (es : Array MapEntry) (seen : Array Nat) : (leftOf es seen).size = (es.toList.filter fun e => !seen.contains e.born).length := by
  rw [← left_toList, Array.length_toList]
theorem left_less {es : Array MapEntry} {seen : Array Nat} {e : MapEntry} (he : e ∈ (leftOf es seen).toList) : (leftOf es (seen.push e.born)).size < (leftOf es seen).size := by
  rw [left_toList] at he
  rw [left_size, left_size]
  have h1 : es.toList.filter (fun x => !(seen.push e.born).contains x.born) = (es.toList.filter fun x => !seen.contains x.born).filter fun x => !(x.born == e.born) := by
    rw [List.filter_filter]
    refine List.filter_congr (fun x _ => ?_)
    simp only [Array.contains_push]
    cases seen.contains x.born <;> cases x.born == e.born <;> rfl
  rw [h1]
  exact List.length_filter_lt_length_iff_exists.2 ⟨e, he, by simp⟩
theorem left_mem {es : Array MapEntry} {seen : Array Nat} {e : MapEntry} (he : e ∈ (leftOf es seen).toList) : e ∈ es.toList ∧ seen.contains e.born = false := by
  unfold leftOf at he
  rw [Array.toList_filter, List.mem_filter] at he
  exact ⟨he.1, by simpa using he.2⟩
theorem left_none {es : Array MapEntry} {seen : Array Nat} (h : (leftOf es seen).size = 0) : ∀ x ∈ es.toList, seen.contains x.born = true := fun x hx => by
  cases hc : seen.contains x.born with
  | true => rfl
  | false =>
    have : x ∈ (leftOf es seen).toList := by
      unfold leftOf
      rw [Array.toList_filter, List.mem_filter]
      exact ⟨hx, by simpa using hc⟩
    rw [← Array.length_toList, List.length_eq_zero_iff] at h
    rw [h] at this
    cases this
/-- maps.Clone at the map of bools. -/
theorem mclone_c (w : World) (L : List HP) (k b : Nat) (f : List (Int × Value)) (hO : Own w L) (hk : L[k]? = some (mapP b f)) : Calls Try.prog 70 #[.map (some b)] w (RetX w (fun v : Value => v) (fun v => (ex fun g => sep (pur (v = .map (some g))) (mapP g f)) :: L)) := by
  obtain ⟨es, clock, hM, hO2⟩ := mapP_open.1 (own_at hO hk)
  have hc := AnyW.maps_Clone Try.cloneB b es clock w (own_pts hO2)
  refine hc.mono ?_
  rintro e w' ⟨rfl, rfl⟩
  refine ⟨_, rfl, own_ex.2 ⟨_, own_sep.2 (own_pur.2 ⟨rfl, mapP_open.2 ⟨es, clock, hM, own_alloc_new hO _⟩⟩)⟩, Same.alloc _ _⟩
end Go.Proofs.Ytonohjhmnlfakaa.H
set_option linter.unusedVariables false
set_option linter.unusedSimpArgs false
namespace Go.Proofs.Ytonohjhmnlfakaa.H
open Go.RowKit
/-- What is owned: bA till t is done, then bB; and what is handed over. -/
def stB (t : Nat) (bA : List HP) (bB : (Nat → Value) → List HP) (cs : List Ent) (D : Nat → Bool) (x : Nat → Value) : List HP := (if D t then bB x else bA) ++ owL cs D x
theorem stB_no {t : Nat} {bA : List HP} {bB : (Nat → Value) → List HP} {cs : List Ent} {D : Nat → Bool} {x : Nat → Value} (h : D t = false) : stB t bA bB cs D x = bA ++ owL cs D x := by unfold stB; rw [h]; rfl
theorem stB_yes {t : Nat} {bA : List HP} {bB : (Nat → Value) → List HP} {cs : List Ent} {D : Nat → Bool} {x : Nat → Value} (h : D t = true) : stB t bA bB cs D x = bB x ++ owL cs D x := by unfold stB; rw [h]; rfl
theorem owL_till {cs : List Ent} {D : Nat → Bool} {x : Nat → Value} {t : Nat} (hD : ∀ i, i < t → D i = true) (ht : D t = false) (hb : cs.all (fun c => decide (c.1 < t) && (match c.2.1 with | none => true | some j => decide (j ≤ t))) = true) : owL cs D x = (cs.filter fun c => c.2.1.isNone || c.2.1 == some t).map fun c => c.2.2 (x c.1) := by
  induction cs with
  | nil => rfl
  | cons c cs ih =>
    simp only [List.all_cons, Bool.and_eq_true, decide_eq_true_eq] at hb
    rw [owL_cons, ih hb.2]
    obtain ⟨i, con, A⟩ := c
    have h1 := hD i hb.1.1
    cases con with
    | none => simp [live, h1, mk]
    | some j =>
      have hj : j ≤ t := by simpa using hb.1.2
      by_cases e : j = t
      · subst e; simp [live, h1, ht, mk]
      · have h2 := hD j (by omega)
        simp [live, h1, h2, mk, e]
section
variable {P : Program} {Q : Exit → Act → World → Prop}
theorem fs_lift {l : List Oper} {a : Act} {vs : (Nat → Value) → List Value} {bA : List HP} {bB : (Nat → Value) → List HP} {cs : List Ent} {w0 : World} {i : Nat} {o : Oper} (t : Nat) (hne : t ≠ i) (hb : (behL l i).getD t false = true)
    (h : FS P l Q a vs (fun D x => bA ++ owL cs D x) w0 i o) : FS P l Q a vs (stB t bA bB cs) w0 i o := by
  intro D x w hD hcl hp hO hS
  have ht : D t = false := behL_ok hcl hD hb
  have ht2 : upd D i t = false := by unfold upd; rw [if_neg hne]; exact ht
  rw [stB_no ht] at hO
  have := h D x w hD hcl hp hO hS
  simp only [stB_no ht2]
  exact this
theorem fs_end {l : List Oper} {a : Act} {vs : (Nat → Value) → List Value} {bA : List HP} {bB : (Nat → Value) → List HP} {cs : List Ent} {w0 : World} {t : Nat} {o : Oper} (ho : l.toArray[t]? = some o) (hd : o.dst = none) (hall : (List.range t).all (fun j => (behL l j).getD t false) = true) (hb : cs.all (fun c => decide (c.1 < t) && (match c.2.1 with | none => true | some j => decide (j ≤ t))) = true)
    (hc : ∀ x w, Own w (bA ++ (cs.filter fun c => c.2.1.isNone || c.2.1 == some t).map fun c => c.2.2 (x c.1)) → Same w0 w → ∀ N : Exit → Act → World → Prop,
      (∀ (a' : Act) w', a'.defers = a.defers → Own w' (bB x ++ (cs.filter fun c => c.2.1.isNone).map fun c => c.2.2 (x c.1)) → Same w w' → wpList P l.toArray N [] a' w') → wpList P l.toArray N [o] (putO a l (vs x)) w) :
    FS P l Q a vs (stB t bA bB cs) w0 t o := by
  intro D x w hD hcl hp hO hS
  have hall' : ∀ j, j < t → D j = true := fun j hj => by
    have := List.all_eq_true.1 hall j (List.mem_range.2 hj)
    exact ahead_yes ho hcl hp (by omega) this
  rw [stB_no hD, owL_till hall' hD hb] at hO
  refine hc x w hO hS _ (fun a' w' hdf hO' hS' => ?_)
  refine wpList_nil ⟨hdf, x, fun _ _ => rfl, fun d hd' _ => (by rw [hd] at hd'; cases hd'), ?_, hS.trans hS'⟩
  have ht2 : upd D t t = true := by simp [upd]
  have h2 : ∀ j, j < t + 1 → upd D t j = true := fun j hj => by
    unfold upd
    by_cases e : j = t
    · rw [if_pos e]
    · rw [if_neg e]; exact hall' j (by omega)
  rw [stB_yes ht2, owL_end h2 (by
    rw [List.all_eq_true] at hb ⊢
    intro c hcm
    have := hb c hcm
    simp only [Bool.and_eq_true, decide_eq_true_eq] at this ⊢
    refine ⟨by omega, ?_⟩
    cases hcc : c.2.1 with
    | none => rfl
    | some j =>
      have h3 := this.2
      rw [hcc] at h3
      simp only [decide_eq_true_eq] at h3
      simp only [decide_eq_true_eq]
      omega)]
  exact hO'
/-- The same with nothing handed over; some operations may come behind the store. -/
def st0 (t : Nat) (bA bB : List HP) (D : Nat → Bool) (_ : Unit) : List HP := if D t then bB else bA
theorem fs_lift0 {l : List Oper} {a : Act} {vs : Unit → List Value} {bA bB : List HP} {w0 : World} {i : Nat} {o : Oper} (t : Nat) (hne : t ≠ i) (hb : (behL l i).getD t false = true)
    (h : FS P l Q a vs (fun _ _ => bA) w0 i o) : FS P l Q a vs (st0 t bA bB) w0 i o := by
  intro D x w hD hcl hp hO hS
  have ht : D t = false := behL_ok hcl hD hb
  have ht2 : upd D i t = false := by unfold upd; rw [if_neg hne]; exact ht
  have e1 : st0 t bA bB D x = bA := by unfold st0; rw [ht]; rfl
  have e2 : st0 t bA bB (upd D i) = fun _ => bA := funext fun x' => by unfold st0; rw [ht2]; rfl
  rw [e1] at hO
  have := h D x w hD hcl hp hO hS
  rw [e2]
  exact this
theorem fs_free0 {l : List Oper} {a : Act} {vs : Unit → List Value} {bA bB : List HP} {w0 : World} {i : Nat} {o : Oper} (t : Nat) (hne : t ≠ i)
    (hy : ∀ D x, D i = false → (∀ (j : Nat) (oj : Oper), l.toArray[j]? = some oj → D j = true → ∀ e ∈ oj.after, Region.binds .any e = true → D e.on = true) → (∀ e ∈ o.after, Region.binds .any e = true → D e.on = true) → YieldsIn P l.toArray (Cls w0 (st0 t bA bB D x)) o ((vs x).getD i undef) (putO a l (vs x))) : FS P l Q a vs (st0 t bA bB) w0 i o :=
  fs_pure (fun D x => by
    have : upd D i t = D t := by unfold upd; rw [if_neg hne]
    unfold st0
    rw [this]) hy
theorem fs_end0 {l : List Oper} {a : Act} {vs : Unit → List Value} {bA bB : List HP} {w0 : World} {t : Nat} {o : Oper} (hd : o.dst = none)
    (hc : ∀ w, Own w bA → Same w0 w → ∀ N : Exit → Act → World → Prop,
      (∀ (a' : Act) w', a'.defers = a.defers → Own w' bB → Same w w' → wpList P l.toArray N [] a' w') → wpList P l.toArray N [o] (putO a l (vs ())) w) :
    FS P l Q a vs (st0 t bA bB) w0 t o := by
  intro D x w hD hcl hp hO hS
  have e1 : st0 t bA bB D x = bA := by unfold st0; rw [hD]; rfl
  rw [e1] at hO
  refine hc w hO hS _ (fun a' w' hdf hO' hS' => ?_)
  refine wpList_nil ⟨hdf, x, fun _ _ => rfl, fun d hd' _ => (by rw [hd] at hd'; cases hd'), ?_, hS.trans hS'⟩
  have ht2 : upd D t t = true := by simp [upd]
  have e2 : st0 t bA bB (upd D t) x = bB := by unfold st0; rw [ht2]; rfl
  rw [e2]
  exact hO'
end
end Go.Proofs.Ytonohjhmnlfakaa.H
