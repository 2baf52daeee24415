/- Contracts of Under, Waiting, Needs. -/
import Derived.Test.YtdcbfdepkbplbaaS3
set_option linter.unusedVariables false
set_option linter.unusedSimpArgs false
set_option maxRecDepth 100000
namespace Go.Proofs.Ytdcbfdepkbplbaa.H
open Go.RowKit
theorem row_ptr : isRowB Try.prog 68 = some false := by kernel_rfl
theorem nums_take {cs : List Cl} {k : Nat} {d : Cl} (hd : cs[k]? = some d) : ((cs.take k).map fun c => Value.int .i64 c.n) ++ [Value.int .i64 d.n] = (cs.take (k + 1)).map fun c => Value.int .i64 c.n := by
  obtain ⟨h1, h2⟩ := List.getElem?_eq_some_iff.1 hd
  rw [List.take_succ_eq_append_getElem h1, List.map_append, h2]; rfl
/-- The numbers of those that meet one. -/
def meetNums (cs : List Cl) (p : Pat) : List Nat := (cs.filter fun c => meetB c.p p).map Cl.n
def numV (l : List Nat) : List Value := l.map fun n : Nat => Value.int .i64 (n : Int)
theorem meet_yes {cs : List Cl} {k : Nat} {d : Cl} {p : Pat} (hd : cs[k]? = some d) (h : meetB d.p p = true) : numV (meetNums (cs.take k) p) ++ [Value.int .i64 d.n] = numV (meetNums (cs.take (k + 1)) p) := by
  obtain ⟨h1, h2⟩ := List.getElem?_eq_some_iff.1 hd
  rw [List.take_succ_eq_append_getElem h1, h2]
  simp [meetNums, numV, h]
theorem meet_no {cs : List Cl} {k : Nat} {d : Cl} {p : Pat} (hd : cs[k]? = some d) (h : meetB d.p p = false) : meetNums (cs.take (k + 1)) p = meetNums (cs.take k) p := by
  obtain ⟨h1, h2⟩ := List.getElem?_eq_some_iff.1 hd
  rw [List.take_succ_eq_append_getElem h1, h2]
  simp [meetNums, h]
theorem meets_v (w : World) (L : List HP) (c d : Cl) (b : Bool) (hb : meetB c.p d.p = b) (hO : Own w L) (hc : ∀ w', Own w' L → w'.heap[c.a]? = some (.cells c.row 67)) (hR : rightB c.p = true) (hd : ∀ w', Own w' L → w'.heap[d.a]? = some (.cells d.row 67)) (hR2 : rightB d.p = true) :
    Calls Try.prog 35 #[.pointer (some ⟨c.a, 0, none⟩), .pointer (some ⟨d.a, 0, none⟩)] w (Ret w (.bool b) L) := by
  subst hb
  exact meets_c w L c d hO hc hR hd hR2
section
variable (w : World) (L : List HP) (p : Nat) (v : Value) (cs : List Cl) (byt : List UInt8) (next : Nat)
theorem under_yes (n : Int) (i : Nat) (c : Cl) (hO : Own w L) (hr : ∀ w', Own w' L → StkAt w' p v cs byt next) (hk : CsOk cs byt) (hn : i64 n) (hc : cs[i]? = some c) (hcn : (c.n : Int) = n) :
    Calls Try.prog 26 #[.pointer (some ⟨p, 0, none⟩), .int .i64 n] w (Ret w (.tuple #[.string (bstr c.und), .int .i64 0]) L) := by
  have HR := Lib.hid hr
  have HK := Lib.hid hk
  have HC := Lib.hid hc
  have HN : Hid (i64 n) := hn
  have HCN : Hid ((c.n : Int) = n) := hcn
  obtain ⟨A, cap, rfl⟩ := (hr w hO).rd.slice
  obtain ⟨ad, rfl⟩ := (hr w hO).rd.addr (by rw [List.length_map]; have := (List.getElem?_eq_some_iff.1 hc).1; omega)
  have hm := (hr w hO).rd.max
  have hi : (i : Int) < cs.length := by have := (List.getElem?_eq_some_iff.1 hc).1; omega
  clear hr hk hc hn hcn
  go_enter Try.func26, Try.ntmps26
  go_wp2_with (first | (go_at_call 34; refine (place_v _ _ p _ cs byt next n i c hO HR.out HK.out HN.out HC.out HCN.out).mono ?_; clear hO; rintro e w5 ⟨rfl, hO, hS5⟩; have hcell := ptr_cell (HR.out _ hO).rd HC.out) | (refine own_load1 (b := p) (cs := srow byt _ next) (t := 72) (off := 32) rfl rfl rfl row_cells (HR.out _ hO).blk (srow_v _ _ _ HK.out.byt) ?_) | (refine own_load1 (b := c.a) (off := 4) (cs := c.row) (t := 67) (v := c.u) rfl rfl rfl row_bys ((HR.out _ hO).cell _ _ HC.out) rfl ?_) | (refine own_string (n := c.und.length) (bs := c.und) rfl rfl rfl Try.underlying22 Try.underlying5 Try.underlying9 rfl ((HR.out _ hO).und _ _ HC.out) ?_))
  go_ret2
  exact ⟨rfl, hO, hS5⟩
theorem under_no (n : Int) (hO : Own w L) (hr : ∀ w', Own w' L → StkAt w' p v cs byt next) (hk : CsOk cs byt) (hn : i64 n) (hno : ∀ c ∈ cs, (c.n : Int) ≠ n) :
    Calls Try.prog 26 #[.pointer (some ⟨p, 0, none⟩), .int .i64 n] w (Ret w (.tuple #[.string ⟨#[]⟩, .int .i64 5]) L) := by
  have HR := Lib.hid hr
  have HK := Lib.hid hk
  have HN : Hid (i64 n) := hn
  have HNO := Lib.hid hno
  clear hr hk hn hno
  go_enter Try.func26, Try.ntmps26
  go_wp2_with (go_at_call 34; refine (place_n _ _ p v cs byt next n hO HR.out HK.out HN.out HNO.out).mono ?_; clear hO; rintro e w5 ⟨rfl, hO, hS5⟩)
  go_ret2
  exact ⟨rfl, hO, hS5⟩
set_option maxHeartbeats 800000 in
theorem waiting_c (hO : Own w L) (hr : ∀ w', Own w' L → StkAt w' p v cs byt next) (hk : CsOk cs byt) :
    Calls Try.prog 18 #[.pointer (some ⟨p, 0, none⟩)] w (RetX w (fun x => x) (fun x => owns 3 1 x cs.length (cs.map fun c => .int .i64 c.n) :: L)) := by
  have HR := Lib.hid hr
  have HK := Lib.hid hk
  obtain ⟨A, cap, rfl⟩ := (hr w hO).rd.slice
  have hm := (hr w hO).rd.max
  clear hr hk
  go_enter Try.func18, Try.ntmps18
  go_wp2_with (refine own_load1 (b := p) (cs := srow byt _ next) (t := 72) (off := 32) rfl rfl rfl row_cells (HR.out _ hO).blk (srow_v _ _ _ HK.out.byt) ?_)
  go_loopw [3, 13] (fun o i wr => ∃ k : Nat, k ≤ cs.length ∧ i = .int .i64 k ∧ Own wr (owns 3 1 o k ((cs.take k).map fun c => Value.int .i64 c.n) :: L) ∧ Same w wr) (fun _ i _ => cs.length - (intOf i).toNat)
  case atStart => exact ⟨0, Nat.zero_le _, rfl, owns_nil hO, Same.refl _⟩
  case round =>
    clear hO
    obtain ⟨k, hk, rfl, hO, hS⟩ := hrel
    by_cases hlt : k < cs.length
    · obtain ⟨d, hd⟩ : ∃ d, cs[k]? = some d := ⟨_, List.getElem?_eq_getElem hlt⟩
      obtain ⟨ad, rfl⟩ := (HR.out _ (own_drop hO)).rd.addr (by rw [List.length_map]; omega)
      have hcell := ptr_cell (HR.out _ (own_drop hO)).rd hd
      have hm1 : (k : Int) < cs.length := by omega
      have HD := Lib.hid hd
      clear hd
      go_wp2_with (first | (refine own_load1 (b := d.a) (off := 3) (cs := d.row) (t := 67) (v := .int .i64 d.n) rfl rfl rfl row_int ((HR.out _ (own_drop hO)).cell _ _ HD.out) rfl ?_; clear hcell) | (refine own_append (m := 1) (n := k) (xs := ((cs.take k).map fun c => Value.int .i64 c.n)) (news := [.int .i64 d.n]) rfl rfl rfl rfl Try.underlying24 info_int3 rfl (by decide) (own_perm (own_alloc_new hO (.cells #[.int .i64 d.n] 3)) (List.Perm.swap _ _ _)) ?_ (int_one _) ?_ ?_ ?_; (exact rd_block (own_get 1 (own_perm (own_alloc_new hO (.cells #[.int .i64 d.n] 3)) (List.Perm.swap _ _ _)) rfl) rfl (by simp) (by simp) (by simp)); (have := HK.out.len; unfold maxLen; omega); (have := HK.out.len; omega); clear hO; intro v' w9 hO hS9 hv'))
      go_roundw
      case rel => exact ⟨k + 1, by omega, by go_num, by rw [← nums_take HD.out]; exact own_skip hO, hS.trans ((Same.alloc _ _).trans hS9)⟩
      case measure => simp [intOf]; omega
    · have hke : k = cs.length := by omega
      subst hke
      go_wp2
      go_ret
      refine ⟨_, rfl, ?_, hS⟩
      rw [List.take_length] at hO
      exact hO
theorem needs_no (n : Int) (hO : Own w L) (hr : ∀ w', Own w' L → StkAt w' p v cs byt next) (hk : CsOk cs byt) (hn : i64 n) (hno : ∀ c ∈ cs, (c.n : Int) ≠ n) :
    Calls Try.prog 15 #[.pointer (some ⟨p, 0, none⟩), .int .i64 n] w (Ret w (.slice none 0 0) L) := by
  have HR := Lib.hid hr
  have HK := Lib.hid hk
  have HN : Hid (i64 n) := hn
  have HNO := Lib.hid hno
  clear hr hk hn hno
  go_enter Try.func15, Try.ntmps15
  go_wp2_with (go_at_call 34; refine (place_n _ _ p v cs byt next n hO HR.out HK.out HN.out HNO.out).mono ?_; clear hO; rintro e w5 ⟨rfl, hO, hS5⟩)
  go_ret
  exact ⟨rfl, hO, hS5⟩
set_option maxHeartbeats 1600000 in
theorem needs_yes (n : Int) (i : Nat) (c : Cl) (hO : Own w L) (hr : ∀ w', Own w' L → StkAt w' p v cs byt next) (hk : CsOk cs byt) (hn : i64 n) (hc : cs[i]? = some c) (hcn : (c.n : Int) = n) :
    Calls Try.prog 15 #[.pointer (some ⟨p, 0, none⟩), .int .i64 n] w (RetX w (fun x => x) (fun x => owns 3 1 x (meetNums (cs.take i) c.p).length (numV (meetNums (cs.take i) c.p)) :: L)) := by
  have HR := Lib.hid hr
  have HK := Lib.hid hk
  have HC := Lib.hid hc
  have HN : Hid (i64 n) := hn
  have HCN : Hid ((c.n : Int) = n) := hcn
  obtain ⟨A, cap, rfl⟩ := (hr w hO).rd.slice
  obtain ⟨ad, rfl⟩ := (hr w hO).rd.addr (by rw [List.length_map]; have := (List.getElem?_eq_some_iff.1 hc).1; omega)
  have hm := (hr w hO).rd.max
  have hil : i < cs.length := (List.getElem?_eq_some_iff.1 hc).1
  have hi : (i : Int) < cs.length := by omega
  have hcap : i ≤ cap := by omega
  clear hr hk hc hn hcn
  go_enter Try.func15, Try.ntmps15
  go_wp2_with (first | (go_at_call 34; refine (place_v _ _ p _ cs byt next n i c hO HR.out HK.out HN.out HC.out HCN.out).mono ?_; clear hO; rintro e w5 ⟨rfl, hO, hS5⟩) | (refine own_load1 (b := p) (cs := srow byt _ next) (t := 72) (off := 32) rfl rfl rfl row_cells (HR.out _ hO).blk (srow_v _ _ _ HK.out.byt) ?_))
  go_loopw [6, 21] (fun o i' wr => ∃ k : Nat, k ≤ i ∧ i' = .int .i64 k ∧ Own wr (owns 3 1 o (meetNums (cs.take k) c.p).length (numV (meetNums (cs.take k) c.p)) :: L) ∧ Same w wr) (fun _ i' _ => i - (intOf i').toNat)
  case atStart => exact ⟨0, Nat.zero_le _, rfl, by rw [List.take_zero]; exact owns_nil hO, hS5⟩
  case round =>
    clear hO hS5
    obtain ⟨k, hk, rfl, hO, hS⟩ := hrel
    by_cases hlt : k < i
    · obtain ⟨d, hd⟩ : ∃ d, cs[k]? = some d := ⟨_, List.getElem?_eq_getElem (by omega)⟩
      have hcell := ptr_cell (HR.out _ (own_drop hO)).rd hd
      have hcell2 := ptr_cell (HR.out _ (own_drop hO)).rd HC.out
      have hm1 : (k : Int) < i := by omega
      have hm2 : (k : Int) < cs.length := by omega
      have HD := Lib.hid hd
      have HLE : Hid ((meetNums (cs.take k) c.p).length ≤ 200) := by
        have := HK.out.len
        show _ ≤ _
        unfold meetNums
        rw [List.length_map]
        have h1 := List.length_filter_le (fun c' : Cl => meetB c'.p c.p) (cs.take k)
        rw [List.length_take] at h1
        omega
      clear hd
      cases hmt : meetB d.p c.p with
      | true =>
        have HMT := Lib.hid hmt
        clear hmt
        go_wp2_with (first | (refine own_load1 (b := p) (cs := srow byt _ next) (t := 72) (off := 32) rfl rfl rfl row_cells (HR.out _ (own_drop hO)).blk (srow_v _ _ _ HK.out.byt) ?_) | (go_at_call 35; refine (meets_v _ _ d c true HMT.out hO (fun w' h => (HR.out w' (own_drop h)).cell _ _ HD.out) (HK.out.right _ (List.mem_of_getElem? HD.out)) (fun w' h => (HR.out w' (own_drop h)).cell _ _ HC.out) (HK.out.right _ (List.mem_of_getElem? HC.out))).mono ?_; clear hO hcell hcell2; rintro e w6 ⟨rfl, hO, hS6⟩) | (refine own_load1 (b := d.a) (off := 3) (cs := d.row) (t := 67) (v := .int .i64 d.n) rfl rfl rfl row_int ((HR.out _ (own_drop hO)).cell _ _ HD.out) rfl ?_) | (refine own_append (m := 1) (n := (meetNums (cs.take k) c.p).length) (xs := (numV (meetNums (cs.take k) c.p))) (news := [.int .i64 d.n]) rfl rfl rfl rfl Try.underlying24 info_int3 rfl (by decide) (own_perm (own_alloc_new hO (.cells #[.int .i64 d.n] 3)) (List.Perm.swap _ _ _)) ?_ (int_one _) ?_ ?_ ?_; (exact rd_block (own_get 1 (own_perm (own_alloc_new hO (.cells #[.int .i64 d.n] 3)) (List.Perm.swap _ _ _)) rfl) rfl (by simp) (by simp) (by simp)); (have := HLE.out; unfold maxLen; omega); (have := HLE.out; omega); clear hO; intro v' w9 hO hS9 hv'))
        go_roundw
        case rel => exact ⟨k + 1, by omega, by go_num, by
          have e := meet_yes HD.out HMT.out
          have e2 : (meetNums (cs.take (k + 1)) c.p).length = (meetNums (cs.take k) c.p).length + 1 := by
            have := congrArg List.length e
            simpa [numV] using this.symm
          rw [← e, e2]
          exact own_skip hO, hS.trans (hS6.trans ((Same.alloc _ _).trans hS9))⟩
        case measure => simp [intOf]; omega
      | false =>
        have HMT := Lib.hid hmt
        clear hmt
        go_wp2_with (first | (refine own_load1 (b := p) (cs := srow byt _ next) (t := 72) (off := 32) rfl rfl rfl row_cells (HR.out _ (own_drop hO)).blk (srow_v _ _ _ HK.out.byt) ?_) | (go_at_call 35; refine (meets_v _ _ d c false HMT.out hO (fun w' h => (HR.out w' (own_drop h)).cell _ _ HD.out) (HK.out.right _ (List.mem_of_getElem? HD.out)) (fun w' h => (HR.out w' (own_drop h)).cell _ _ HC.out) (HK.out.right _ (List.mem_of_getElem? HC.out))).mono ?_; clear hO hcell hcell2; rintro e w6 ⟨rfl, hO, hS6⟩))
        go_roundw
        case rel => exact ⟨k + 1, by omega, by go_num, by rw [meet_no HD.out HMT.out]; exact hO, hS.trans hS6⟩
        case measure => simp [intOf]; omega
    · have hke : k = i := by omega
      subst hke
      go_wp2
      go_ret
      exact ⟨_, rfl, hO, hS⟩
end
end Go.Proofs.Ytdcbfdepkbplbaa.H
