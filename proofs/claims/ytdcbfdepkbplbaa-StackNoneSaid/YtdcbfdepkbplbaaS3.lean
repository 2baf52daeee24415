/- Contracts of what is only read of a stack. -/
import Derived.Test.YtdcbfdepkbplbaaS2
import Derived.Lib.SliceRun
set_option linter.unusedVariables false
set_option linter.unusedSimpArgs false
set_option maxRecDepth 100000
namespace Go.Proofs.Ytdcbfdepkbplbaa.H
open Go.RowKit
theorem info_int3 : (Try.prog.info? 3).map (fun i => (i.zero, i.size, i.bytes)) = some (some (.int .i64 0), 1, 8) := by kernel_rfl
theorem info_u83 : (Try.prog.info? 5).map (fun i => (i.zero, i.size, i.bytes)) = some (some (.int .u8 0), 1, 1) := by kernel_rfl
theorem info_u8s : (Try.prog.info? 5).map (·.size) = some 1 := by kernel_rfl
theorem int_one (x : Int) : ∀ u ∈ [Value.int .i64 x], u.oneCell' = true := by
  intro u hu
  simp at hu
  subst hu
  rfl
/-- What is asked of the cells. -/
structure CsOk (cs : List Cl) (byt : List UInt8) : Prop where
  asc : cs.Pairwise fun a b => a.n < b.n
  lim : ∀ c ∈ cs, c.n ≤ 1000000
  len : cs.length ≤ 200
  byt : byt.length = 32
  right : ∀ c ∈ cs, rightB c.p = true
def i64 (n : Int) : Prop := -9223372036854775808 ≤ n ∧ n ≤ 9223372036854775807
theorem place_at {cs : List Cl} (hasc : cs.Pairwise fun a b => a.n < b.n) {n : Int} {i : Nat} {c : Cl} (hc : cs[i]? = some c) (hn : (c.n : Int) = n) : placeOf cs n = i :=
  place_found hasc ⟨Nat.le_of_lt (List.getElem?_eq_some_iff.1 hc).1, fun _ => ⟨c, hc, hn⟩, fun h => Bool.noConfusion h⟩
theorem place_none {cs : List Cl} {n : Int} (h : ∀ c ∈ cs, (c.n : Int) ≠ n) : placeOf cs n = -1 :=
  place_not (i := 0) ⟨Nat.zero_le _, fun h => Bool.noConfusion h, fun _ t c hc => h c (List.mem_of_getElem? hc)⟩
set_option maxHeartbeats 400000 in
theorem clone_c (w : World) (L : List HP) (ad : Addr) (n c : Nat) (bs : List UInt8) (hO : Own w L) (hr : ∀ w', Own w' L → RdB w' (.slice (some ad) n c) bs) (hle : bs.length ≤ 1000) :
    Calls Try.prog 39 #[.slice (some ad) n c] w (RetX w (fun x => x) (fun x => owns 5 1 x bs.length (bcs bs) :: L)) := by
  have HR := Lib.hid hr
  have heq := Lib.run_eql_slice_nil (P := Try.prog) w 22 5 (some ad) n c 0 0 Try.underlying22
  clear hr
  go_enter Try.func39, Try.ntmps39
  go_wp2_with (first | (refine own_lit0 rfl rfl Try.underlying22 info_u8s hO ?_; clear hO; intro b w3 hO hS3) | (refine own_append (m := bs.length) (news := bcs bs) rfl rfl rfl rfl Try.underlying22 info_u83 rfl (by decide) hO ?_ (bcs_one bs) ?_ ?_ ?_; exact HR.out _ (own_drop hO); (unfold maxLen; omega); omega; clear hO; intro v' w9 hO hS9 hv'))
  go_ret
  refine ⟨v', rfl, ?_, hS3.trans hS9⟩
  rw [Nat.zero_add, List.nil_append] at hO
  exact hO
theorem srow_bytes {w : World} {p : Nat} {byt : List UInt8} {v : Value} {next : Nat} (h : w.heap[p]? = some (.cells (srow byt v next) 72)) (hb : byt.length = 32) : RdB w (.slice (some ⟨p, 0, none⟩) 32 32) byt := by
  have h2 := rd_block (w := w) (b := p) (size := 1) (n := 32) (c := 32) (xs := bcs byt) h (by
    simp only [srow, Nat.mul_one]
    rw [List.take_append_of_le_length (by rw [bcs_length]; omega), List.take_of_length_le (by rw [bcs_length]; omega)]) (by simp [srow, bcs_length]; omega) (by omega) (by omega)
  rw [← hb] at h2
  exact hb ▸ h2
section
variable (w : World) (L : List HP) (p : Nat) (v : Value) (cs : List Cl) (byt : List UInt8) (next : Nat)
theorem place_v (n : Int) (i : Nat) (c : Cl) (hO : Own w L) (hr : ∀ w', Own w' L → StkAt w' p v cs byt next) (hk : CsOk cs byt) (hn : i64 n) (hc : cs[i]? = some c) (hcn : (c.n : Int) = n) :
    Calls Try.prog 34 #[.pointer (some ⟨p, 0, none⟩), .int .i64 n] w (Ret w (.int .i64 i) L) := by
  have h := place_c w L p v cs byt next n hO hr hk.asc hk.lim hk.len hk.byt hn
  rwa [place_at hk.asc hc hcn] at h
theorem place_n (n : Int) (hO : Own w L) (hr : ∀ w', Own w' L → StkAt w' p v cs byt next) (hk : CsOk cs byt) (hn : i64 n) (hno : ∀ c ∈ cs, (c.n : Int) ≠ n) :
    Calls Try.prog 34 #[.pointer (some ⟨p, 0, none⟩), .int .i64 n] w (Ret w (.int .i64 (-1)) L) := by
  have h := place_c w L p v cs byt next n hO hr hk.asc hk.lim hk.len hk.byt hn
  rwa [place_none hno] at h
theorem bytes_c (hO : Own w L) (hr : ∀ w', Own w' L → StkAt w' p v cs byt next) (hb : byt.length = 32) :
    Calls Try.prog 19 #[.pointer (some ⟨p, 0, none⟩)] w (RetX w (fun x => x) (fun x => owns 5 1 x byt.length (bcs byt) :: L)) := by
  have HR := Lib.hid hr
  have HB : Hid (byt.length = 32) := hb
  clear hr hb
  go_enter Try.func19, Try.ntmps19
  go_wp2_with (go_at_call 39; refine (clone_c _ _ _ _ _ byt hO (fun w' h => srow_bytes (HR.out w' h).blk HB.out) (by rw [HB.out]; omega)).mono ?_; clear hO; rintro e w5 ⟨x, rfl, hO, hS5⟩)
  go_ret
  exact ⟨x, rfl, hO, hS5⟩
theorem get_yes (n : Int) (i : Nat) (c : Cl) (hO : Own w L) (hr : ∀ w', Own w' L → StkAt w' p v cs byt next) (hk : CsOk cs byt) (hn : i64 n) (hc : cs[i]? = some c) (hcn : (c.n : Int) = n) :
    Calls Try.prog 14 #[.pointer (some ⟨p, 0, none⟩), .int .i64 n] w (Ret w (.tuple #[.agg #[.int .i64 c.p.blk, .int .i64 c.p.off, .string c.p.dat], .bool true]) L) := by
  have HR := Lib.hid hr
  have HK := Lib.hid hk
  have HC := Lib.hid hc
  have HN : Hid (i64 n) := hn
  have HCN : Hid ((c.n : Int) = n) := hcn
  obtain ⟨A, cap, rfl⟩ := (hr w hO).rd.slice
  obtain ⟨ad, rfl⟩ := (hr w hO).rd.addr (by rw [List.length_map]; have := (List.getElem?_eq_some_iff.1 hc).1; omega)
  have hm := (hr w hO).rd.max
  have hi : (i : Int) < cs.length := by have := (List.getElem?_eq_some_iff.1 hc).1; omega
  clear hr hk hc hn hcn
  go_enter Try.func14, Try.ntmps14
  go_wp2_with (first | (refine own_alloc rfl rfl zero_pat rfl hO ?_; clear hO; intro g w2 hO hS2) | (go_at_call 34; refine (place_v _ _ p _ cs byt next n i c hO (fun w' h => HR.out w' (own_drop h)) HK.out HN.out HC.out HCN.out).mono ?_; clear hO; rintro e w5 ⟨rfl, hO, hS5⟩; have hcell := ptr_cell (HR.out _ (own_drop hO)).rd HC.out) | (refine own_load1 (b := p) (cs := srow byt _ next) (t := 72) (off := 32) rfl rfl rfl row_cells (HR.out _ (own_drop hO)).blk (srow_v _ _ _ HK.out.byt) ?_) | (refine own_loadrow (b := c.a) (off := 0) (cs := c.row) (t := 67) (vs := [.int .i64 c.p.blk, .int .i64 c.p.off, .string c.p.dat]) rfl rfl rfl row_pat sz_pat ((HR.out _ (own_drop hO)).cell _ _ HC.out) (by simp [Cl.row]) rfl ?_) | (refine own_store_all (k := 0) rfl rfl rfl rfl sz_pat hO rfl rfl rfl rfl ?_; clear hO hcell; intro w6 hO hS6; simp only [List.set_cons_zero] at hO))
  exact bodyPost_ret (results_cell_tmp rfl rfl (own_get 0 hO rfl) row_pat sz_pat) rfl ⟨rfl, own_drop hO, hS2.trans (hS5.trans hS6)⟩
theorem get_no (n : Int) (hO : Own w L) (hr : ∀ w', Own w' L → StkAt w' p v cs byt next) (hk : CsOk cs byt) (hn : i64 n) (hno : ∀ c ∈ cs, (c.n : Int) ≠ n) :
    Calls Try.prog 14 #[.pointer (some ⟨p, 0, none⟩), .int .i64 n] w (Ret w (.tuple #[.agg #[.int .i64 0, .int .i64 0, .string ⟨#[]⟩], .bool false]) L) := by
  have HR := Lib.hid hr
  have HK := Lib.hid hk
  have HN : Hid (i64 n) := hn
  have HNO := Lib.hid hno
  clear hr hk hn hno
  go_enter Try.func14, Try.ntmps14
  go_wp2_with (first | (refine own_alloc rfl rfl zero_pat rfl hO ?_; clear hO; intro g w2 hO hS2) | (go_at_call 34; refine (place_n _ _ p v cs byt next n hO (fun w' h => HR.out w' (own_drop h)) HK.out HN.out HNO.out).mono ?_; clear hO; rintro e w5 ⟨rfl, hO, hS5⟩) | (refine own_store_all (k := 0) rfl rfl rfl rfl sz_pat hO rfl rfl rfl rfl ?_; clear hO; intro w6 hO hS6; simp only [List.set_cons_zero] at hO))
  exact bodyPost_ret (results_cell_tmp rfl rfl (own_get 0 hO rfl) row_pat sz_pat) rfl ⟨rfl, own_drop hO, hS2.trans (hS5.trans hS6)⟩
end
end Go.Proofs.Ytdcbfdepkbplbaa.H
