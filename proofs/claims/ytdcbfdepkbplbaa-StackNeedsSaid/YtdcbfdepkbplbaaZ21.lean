/- Squash's refusals. (Printed by wip/mk/s22.py.) -/
import Derived.Test.YtdcbfdepkbplbaaZ14
set_option linter.unusedVariables false
set_option linter.unusedSimpArgs false
set_option maxRecDepth 100000
namespace Go.Proofs.Ytdcbfdepkbplbaa.H
open Go.RowKit
section
variable (w : World) (L : List HP) (p : Nat) (m : Stk)
set_option maxHeartbeats 2400000 in
theorem squash_range (i k : Nat) (a b : On) (hO : Own w (stk p m :: L)) (hk : m.Ok) (hi : m.l[i]? = some a) (hkb : m.l[k]? = some b) (hik : k ≤ i) :
    Calls Try.prog 21 #[.pointer (some ⟨p, 0, none⟩), .int .i64 a.n, .int .i64 b.n] w (Ret w (.int .i64 2) (stk p m :: L)) := by
  obtain ⟨v, cs, hrep, hO⟩ := stk_open.1 hO
  have hkl : k < cs.length := by rw [hrep.length]; exact (List.getElem?_eq_some_iff.1 hkb).1
  have hgc : ∀ (t : Nat) (o : On), m.l[t]? = some o → ∃ c, cs[t]? = some c ∧ c.on = o := fun t o ho => by
    rw [← hrep.on, List.getElem?_map, Option.map_eq_some_iff] at ho
    exact ho
  obtain ⟨c, hc, rfl⟩ := hgc i a hi
  obtain ⟨d, hd, rfl⟩ := hgc k b hkb
  have hcs := hrep.csok hk
  have HREP := Lib.hid hrep
  have HK := Lib.hid hcs
  have HPP := Lib.hid (hrep.piled hk)
  have HBY := Lib.hid hrep.bytes
  have HC := Lib.hid hc
  have HD := Lib.hid hd
  have HPI : Hid (placeOf cs (c.n : Int) = (i : Nat)) := place_at hcs.asc hc rfl
  have HPK : Hid (placeOf cs (d.n : Int) = (k : Nat)) := place_at hcs.asc hd rfl
  have lc := hcs.lim c (List.mem_of_getElem? hc)
  have ld := hcs.lim d (List.mem_of_getElem? hd)
  have HNI : Hid (i64 (c.n : Int)) := by show _ ∧ _; omega
  have HNK : Hid (i64 (d.n : Int)) := by show _ ∧ _; omega
  have hlen := hcs.len
  obtain ⟨A, cap, rfl⟩ := (stkAt_of hO).rd.slice
  have hmx := (stkAt_of hO).rd.max
  obtain ⟨ad, rfl⟩ := (stkAt_of hO).rd.addr (by rw [List.length_map]; omega)
  show Calls _ _ #[.pointer (some ⟨p, 0, none⟩), .int .i64 (c.n : Int), .int .i64 (d.n : Int)] _ _
  have f1 : decide ((i : Int) < 0) = false := by simp
  have f2 : decide ((k : Int) < 0) = false := by simp
  have f3 : decide (k ≤ i) = true := by simp; omega
  have hmf : ∀ (fn : Fn) (first cap : Array Value) (w : World), (Instr.makeFunc fn first cap).run Try.prog w = .ok (.func fn first cap) w := fun _ _ _ _ => rfl
  have HMF := Lib.hid hmf
  have HCI : Hid (∀ w' S, Own w' (stkL p (.slice (some ad) cs.length cap) cs m.bytes m.next ++ S) → w'.cell? (ad.add i) = some (.pointer (some ⟨c.a, 0, none⟩)) ∧ w'.cell? (ad.add k) = some (.pointer (some ⟨d.a, 0, none⟩)) ∧ ∀ t e, cs[t]? = some e → w'.cell? (ad.add t) = some (.pointer (some ⟨e.a, 0, none⟩)) ∧ w'.heap[e.a]? = some (.cells e.row 67)) := fun w' S h => by
    have h1 := stkAt_of h
    exact ⟨ptr_cell h1.rd hc, ptr_cell h1.rd hd, fun t e he => ⟨ptr_cell h1.rd he, h1.cell t e he⟩⟩
  have HB : Hid (m.bytes.length = 32) := hcs.byt
  have HRT : Hid (∀ e ∈ cs, rightB e.p = true) := hcs.right
  have hil := (List.getElem?_eq_some_iff.1 hc).1
  have hi1 : (i : Int) < cs.length := by omega
  have hk1 : (k : Int) < cs.length := by omega
  clear hrep hk hi hkb hgc hc hd hcs lc ld hmf
  go_enter Try.func21, Try.ntmps21
  go_upto_region 3 with (first | (refine own_box (x := .tmp 0) (cs := #[.pointer (some ⟨p, 0, none⟩)]) rfl rfl rfl rfl hO ?_; clear hO; intro bs w1 hO hS1) | (refine own_load1 (b := bs) (off := 0) (cs := #[.pointer (some ⟨p, 0, none⟩)]) (t := 25) (v := .pointer (some ⟨p, 0, none⟩)) rfl rfl rfl row_sptr (own_get 0 hO rfl) rfl ?_))
  have HSUB : Hid (∀ (k' b : Nat) w', Own w' (sqL (pts bs (.cells #[.pointer (some ⟨p, 0, none⟩)] 25) :: (stkL p (.slice (some ad) cs.length cap) cs m.bytes m.next ++ L)) k k' b) → Own w' (pts bs (.cells #[.pointer (some ⟨p, 0, none⟩)] 25) :: (stkL p (.slice (some ad) cs.length cap) cs m.bytes m.next ++ L))) := fun k' b w' h => sqL_sub h
  refine wp_region_mixS (α := Nat) (fun kq xq => Cls w1 ((sqL (pts bs (.cells #[.pointer (some ⟨p, 0, none⟩)] 25) :: (stkL p (.slice (some ad) cs.length cap) cs m.bytes m.next ++ L)) k) kq xq)) 0 6 96 (List.range 6) mixed (by kernel_rfl) rfl (cls_drew hO) (fun _ _ _ _ hd h => ⟨hd ▸ h.1, h.2⟩) ?_
  simp only [List.append_eq, List.cons_append, List.nil_append, List.take_succ_cons, List.take_zero]
  repeat (first
    | (refine ms_free rfl (fun kk xx => y_skip rfl) ?_; simp only [Act.put, List.setIfInBounds_toArray, List.set_cons_zero, List.set_cons_succ])
    | (refine ms_free rfl (fun kk xx => y_load1 (b := bs) (cs := #[.pointer (some ⟨p, 0, none⟩)]) (t := 25) (v := .pointer (some ⟨p, 0, none⟩)) rfl rfl rfl row_sptr (fun w h => own_get 0 (HSUB.out _ _ _ h.1) rfl) rfl) ?_; simp only [Act.put, List.setIfInBounds_toArray, List.set_cons_zero, List.set_cons_succ])
    | (refine ms_free rfl (fun kk xx => y_run rfl (by intro w h; go_simp; first | done | rfl)) ?_; simp only [Act.put, List.setIfInBounds_toArray, List.set_cons_zero, List.set_cons_succ])
    | (refine ms_free rfl (fun kk xx => y_call rfl (by intro w h; go_simp; first | done | exact ⟨rfl, rfl⟩) (by intro w h; apply cls_call h; (first | exact place_x _ _ p _ cs m.bytes m.next c.n i HPI.out h.1 (fun w' h => stkAt_of (own_drop (HSUB.out _ _ _ h))) HK.out HNI.out _ rfl | exact place_x _ _ p _ cs m.bytes m.next d.n k HPK.out h.1 (fun w' h => stkAt_of (own_drop (HSUB.out _ _ _ h))) HK.out HNK.out _ rfl))) ?_; simp only [Act.put, List.setIfInBounds_toArray, List.set_cons_zero, List.set_cons_succ]))
  refine ms_nil ?_
  simp only [List.drop_succ_cons, List.drop_zero]
  intro w5 h5
  refine own_alloc (T := 3) (cs := #[.int .i64 0]) rfl rfl zero_i64 rfl h5.1 ?_
  intro bk w6 hO6 hS6
  refine wpList_nil ⟨bk, ⟨hO6, h5.2.trans hS6⟩, ?_⟩
  clear hO hO6 hS6 h5
  simp only [Act.put, List.setIfInBounds_toArray, List.set_cons_zero, List.set_cons_succ]
  intro w7 h7
  refine ev (v := .int .i64 i) (w1 := w7) rfl (by go_simp; first | done | exact ⟨rfl, rfl⟩ | rfl) ?_
  refine wpList_nil ⟨bk, h7, ?_⟩
  clear h7
  simp only [Act.put, List.setIfInBounds_toArray, List.set_cons_zero, List.set_cons_succ]
  intro w8 h8
  refine own_store1 (k := 0) (b := bk) (off := 0) (cs := #[.int .i64 0]) (cs' := #[.int .i64 k]) rfl rfl rfl rfl sz_i64 h8.1 rfl rfl (by simp) rfl ?_
  intro w9 hO9 hS9
  refine wpList_nil ⟨bk, ⟨hO9, h8.2.trans hS9⟩, ?_⟩
  clear hO9 hS9 h8
  simp only [Act.put, List.setIfInBounds_toArray, List.set_cons_zero, List.set_cons_succ]
  intro w10 ⟨hO, hS10⟩
  have hO : Own w10 (pts bk (.cells #[.int .i64 k] 3) :: pts bs (.cells #[.pointer (some ⟨p, 0, none⟩)] 25) :: (stkL p (.slice (some ad) cs.length cap) cs m.bytes m.next ++ L)) := hO
  simp only [Exit.then]
  clear HSUB
  go_wp2_with (first | (refine own_load1 (b := bk) (off := 0) (cs := #[.int .i64 k]) (t := 3) (v := .int .i64 k) rfl rfl rfl row_int (own_get 0 hO rfl) rfl ?_))
  go_ret
  exact ⟨rfl, stk_open.2 ⟨_, cs, HREP.out, own_drop (own_drop hO)⟩, hS1.trans hS10⟩
set_option maxHeartbeats 2400000 in
theorem squash_busy (i k t0 : Nat) (a b o0 : On) (hO : Own w (stk p m :: L)) (hk : m.Ok) (hi : m.l[i]? = some a) (hkb : m.l[k]? = some b) (h0i : i < t0) (h0k : t0 < k) (ht0 : m.l[t0]? = some o0)
    (hmid : ∀ (t : Nat) (c : On), i < t → t < t0 → m.l[t]? = some c → meetB c.p a.p = false ∧ meetB c.p b.p = false) (hm0 : meetB o0.p a.p = true ∨ (meetB o0.p a.p = false ∧ meetB o0.p b.p = true)) :
    Calls Try.prog 21 #[.pointer (some ⟨p, 0, none⟩), .int .i64 a.n, .int .i64 b.n] w (Ret w (.int .i64 12) (stk p m :: L)) := by
  have hik : i < k := by omega
  obtain ⟨v, cs, hrep, hO⟩ := stk_open.1 hO
  have hkl : k < cs.length := by rw [hrep.length]; exact (List.getElem?_eq_some_iff.1 hkb).1
  have hgc : ∀ (t : Nat) (o : On), m.l[t]? = some o → ∃ c, cs[t]? = some c ∧ c.on = o := fun t o ho => by
    rw [← hrep.on, List.getElem?_map, Option.map_eq_some_iff] at ho
    exact ho
  obtain ⟨c, hc, rfl⟩ := hgc i a hi
  obtain ⟨d, hd, rfl⟩ := hgc k b hkb
  obtain ⟨c0, hc0, rfl⟩ := hgc t0 o0 ht0
  have hcs := hrep.csok hk
  have HREP := Lib.hid hrep
  have HK := Lib.hid hcs
  have HPP := Lib.hid (hrep.piled hk)
  have HBY := Lib.hid hrep.bytes
  have HC := Lib.hid hc
  have HD := Lib.hid hd
  have HPI : Hid (placeOf cs (c.n : Int) = (i : Nat)) := place_at hcs.asc hc rfl
  have HPK : Hid (placeOf cs (d.n : Int) = (k : Nat)) := place_at hcs.asc hd rfl
  have lc := hcs.lim c (List.mem_of_getElem? hc)
  have ld := hcs.lim d (List.mem_of_getElem? hd)
  have HNI : Hid (i64 (c.n : Int)) := by show _ ∧ _; omega
  have HNK : Hid (i64 (d.n : Int)) := by show _ ∧ _; omega
  have HMID : Hid (∀ (t : Nat) (e : Cl), i < t → t < t0 → cs[t]? = some e → meetB e.p c.p = false ∧ meetB e.p d.p = false) := fun t e h1 h2 he => hmid t e.on h1 h2 (by rw [← hrep.on, List.getElem?_map, he]; rfl)
  have HC0 := Lib.hid hc0
  have HM0 := Lib.hid hm0
  have HT0 : Hid (i < t0 ∧ t0 < k) := ⟨h0i, h0k⟩
  have hlen := hcs.len
  obtain ⟨A, cap, rfl⟩ := (stkAt_of hO).rd.slice
  have hmx := (stkAt_of hO).rd.max
  obtain ⟨ad, rfl⟩ := (stkAt_of hO).rd.addr (by rw [List.length_map]; omega)
  show Calls _ _ #[.pointer (some ⟨p, 0, none⟩), .int .i64 (c.n : Int), .int .i64 (d.n : Int)] _ _
  have f1 : decide ((i : Int) < 0) = false := by simp
  have f2 : decide ((k : Int) < 0) = false := by simp
  have f3 : decide (k ≤ i) = false := by simp; omega
  have hmf : ∀ (fn : Fn) (first cap : Array Value) (w : World), (Instr.makeFunc fn first cap).run Try.prog w = .ok (.func fn first cap) w := fun _ _ _ _ => rfl
  have HMF := Lib.hid hmf
  have HIK : Hid (i < k ∧ k < cs.length ∧ cs.length ≤ 200 ∧ cs.length ≤ cap ∧ cap ≤ 9223372036854775807) := ⟨hik, hkl, hlen, hmx.1, hmx.2⟩
  have HCI : Hid (∀ w' S, Own w' (stkL p (.slice (some ad) cs.length cap) cs m.bytes m.next ++ S) → w'.cell? (ad.add i) = some (.pointer (some ⟨c.a, 0, none⟩)) ∧ w'.cell? (ad.add k) = some (.pointer (some ⟨d.a, 0, none⟩)) ∧ ∀ t e, cs[t]? = some e → w'.cell? (ad.add t) = some (.pointer (some ⟨e.a, 0, none⟩)) ∧ w'.heap[e.a]? = some (.cells e.row 67)) := fun w' S h => by
    have h1 := stkAt_of h
    exact ⟨ptr_cell h1.rd hc, ptr_cell h1.rd hd, fun t e he => ⟨ptr_cell h1.rd he, h1.cell t e he⟩⟩
  have HB : Hid (m.bytes.length = 32) := hcs.byt
  have HRT : Hid (∀ e ∈ cs, rightB e.p = true) := hcs.right
  have hi1 : (i : Int) < cs.length := by omega
  have hk1 : (k : Int) < cs.length := by omega
  obtain ⟨i1, hi1e⟩ : ∃ i1, i1 = i + 1 := ⟨_, rfl⟩
  have HI1 : Hid (i1 = i + 1) := hi1e
  have hiw : IntKind.i64.wrap ((i : Int) + 1) = (i1 : Int) := by rw [IntKind.wrap_i64] <;> omega
  obtain ⟨r, hr⟩ : ∃ r, k - i1 = r := ⟨_, rfl⟩
  obtain ⟨c', hc'⟩ : ∃ c', cap - i1 = c' := ⟨_, rfl⟩
  obtain ⟨A', hA'⟩ : ∃ A', (if cap = i1 then some ad else (some ad).map (·.add i1)) = A' := ⟨_, rfl⟩
  have HRR := Lib.hid hr
  have HCC := Lib.hid hc'
  have HAA := Lib.hid hA'
  have HL1 : Hid (i1 ≤ k ∧ k ≤ cap) := by show _ ∧ _; omega
  have hr200 : r ≤ 200 := by omega
  clear hi1e hr hc' hA'
  clear hrep hk hi hkb ht0 hc0 hm0 hmid hgc hc hd hcs lc ld hmf
  go_enter Try.func21, Try.ntmps21
  go_upto_region 3 with (first | (refine own_box (x := .tmp 0) (cs := #[.pointer (some ⟨p, 0, none⟩)]) rfl rfl rfl rfl hO ?_; clear hO; intro bs w1 hO hS1) | (refine own_load1 (b := bs) (off := 0) (cs := #[.pointer (some ⟨p, 0, none⟩)]) (t := 25) (v := .pointer (some ⟨p, 0, none⟩)) rfl rfl rfl row_sptr (own_get 0 hO rfl) rfl ?_))
  have HSUB : Hid (∀ (k' b : Nat) w', Own w' (sqL (pts bs (.cells #[.pointer (some ⟨p, 0, none⟩)] 25) :: (stkL p (.slice (some ad) cs.length cap) cs m.bytes m.next ++ L)) k k' b) → Own w' (pts bs (.cells #[.pointer (some ⟨p, 0, none⟩)] 25) :: (stkL p (.slice (some ad) cs.length cap) cs m.bytes m.next ++ L))) := fun k' b w' h => sqL_sub h
  refine wp_region_mixS (α := Nat) (fun kq xq => Cls w1 ((sqL (pts bs (.cells #[.pointer (some ⟨p, 0, none⟩)] 25) :: (stkL p (.slice (some ad) cs.length cap) cs m.bytes m.next ++ L)) k) kq xq)) 0 6 96 (List.range 6) mixed (by kernel_rfl) rfl (cls_drew hO) (fun _ _ _ _ hd h => ⟨hd ▸ h.1, h.2⟩) ?_
  simp only [List.append_eq, List.cons_append, List.nil_append, List.take_succ_cons, List.take_zero]
  repeat (first
    | (refine ms_free rfl (fun kk xx => y_skip rfl) ?_; simp only [Act.put, List.setIfInBounds_toArray, List.set_cons_zero, List.set_cons_succ])
    | (refine ms_free rfl (fun kk xx => y_load1 (b := bs) (cs := #[.pointer (some ⟨p, 0, none⟩)]) (t := 25) (v := .pointer (some ⟨p, 0, none⟩)) rfl rfl rfl row_sptr (fun w h => own_get 0 (HSUB.out _ _ _ h.1) rfl) rfl) ?_; simp only [Act.put, List.setIfInBounds_toArray, List.set_cons_zero, List.set_cons_succ])
    | (refine ms_free rfl (fun kk xx => y_run rfl (by intro w h; go_simp; first | done | rfl)) ?_; simp only [Act.put, List.setIfInBounds_toArray, List.set_cons_zero, List.set_cons_succ])
    | (refine ms_free rfl (fun kk xx => y_call rfl (by intro w h; go_simp; first | done | exact ⟨rfl, rfl⟩) (by intro w h; apply cls_call h; (first | exact place_x _ _ p _ cs m.bytes m.next c.n i HPI.out h.1 (fun w' h => stkAt_of (own_drop (HSUB.out _ _ _ h))) HK.out HNI.out _ rfl | exact place_x _ _ p _ cs m.bytes m.next d.n k HPK.out h.1 (fun w' h => stkAt_of (own_drop (HSUB.out _ _ _ h))) HK.out HNK.out _ rfl))) ?_; simp only [Act.put, List.setIfInBounds_toArray, List.set_cons_zero, List.set_cons_succ]))
  refine ms_nil ?_
  simp only [List.drop_succ_cons, List.drop_zero]
  intro w5 h5
  refine own_alloc (T := 3) (cs := #[.int .i64 0]) rfl rfl zero_i64 rfl h5.1 ?_
  intro bk w6 hO6 hS6
  refine wpList_nil ⟨bk, ⟨hO6, h5.2.trans hS6⟩, ?_⟩
  clear hO hO6 hS6 h5
  simp only [Act.put, List.setIfInBounds_toArray, List.set_cons_zero, List.set_cons_succ]
  intro w7 h7
  refine ev (v := .int .i64 i) (w1 := w7) rfl (by go_simp; first | done | exact ⟨rfl, rfl⟩ | rfl) ?_
  refine wpList_nil ⟨bk, h7, ?_⟩
  clear h7
  simp only [Act.put, List.setIfInBounds_toArray, List.set_cons_zero, List.set_cons_succ]
  intro w8 h8
  refine own_store1 (k := 0) (b := bk) (off := 0) (cs := #[.int .i64 0]) (cs' := #[.int .i64 k]) rfl rfl rfl rfl sz_i64 h8.1 rfl rfl (by simp) rfl ?_
  intro w9 hO9 hS9
  refine wpList_nil ⟨bk, ⟨hO9, h8.2.trans hS9⟩, ?_⟩
  clear hO9 hS9 h8
  simp only [Act.put, List.setIfInBounds_toArray, List.set_cons_zero, List.set_cons_succ]
  intro w10 ⟨hO, hS10⟩
  have hO : Own w10 (pts bk (.cells #[.int .i64 k] 3) :: pts bs (.cells #[.pointer (some ⟨p, 0, none⟩)] 25) :: (stkL p (.slice (some ad) cs.length cap) cs m.bytes m.next ++ L)) := hO
  simp only [Exit.then]
  clear HSUB
  go_upto_region 8 with (first | (refine own_load1 (b := bk) (off := 0) (cs := #[.int .i64 k]) (t := 3) (v := .int .i64 k) rfl rfl rfl row_int (own_get 0 hO rfl) rfl ?_))
  clear f1 f2 f3 hik hkl
  have HSUB : Hid (∀ (kq b : Nat) w', Own w' (nwL (pts bk (.cells #[.int .i64 k] 3) :: pts bs (.cells #[.pointer (some ⟨p, 0, none⟩)] 25) :: (stkL p (.slice (some ad) cs.length cap) cs m.bytes m.next ++ L)) 68 #[.pointer none] #[.pointer (some ⟨c.a, 0, none⟩)] kq b) → Own w' (pts bk (.cells #[.int .i64 k] 3) :: pts bs (.cells #[.pointer (some ⟨p, 0, none⟩)] 25) :: (stkL p (.slice (some ad) cs.length cap) cs m.bytes m.next ++ L))) := fun kq b w' h => nwL_sub h
  refine wp_region_mixS (α := Nat) (fun kq xq => Cls w10 ((nwL (pts bk (.cells #[.int .i64 k] 3) :: pts bs (.cells #[.pointer (some ⟨p, 0, none⟩)] 25) :: (stkL p (.slice (some ad) cs.length cap) cs m.bytes m.next ++ L)) 68 #[.pointer none] #[.pointer (some ⟨c.a, 0, none⟩)]) kq xq)) 0 14 96 (List.range 14) mixed (by kernel_rfl) rfl (cls_drew hO) (fun _ _ _ _ hd h => ⟨hd ▸ h.1, h.2⟩) ?_
  simp only [List.append_eq, List.cons_append, List.nil_append, List.take_succ_cons, List.take_zero]
  repeat (first
    | (refine ms_free rfl (fun kk xx => y_skip rfl) ?_; simp only [Act.put, List.setIfInBounds_toArray, List.set_cons_zero, List.set_cons_succ])
    | (refine ms_free rfl (fun kk xx => y_load1 (b := bs) (off := 0) (cs := #[.pointer (some ⟨p, 0, none⟩)]) (t := 25) (v := .pointer (some ⟨p, 0, none⟩)) rfl rfl rfl row_sptr (fun w h => own_get 1 (HSUB.out _ _ _ h.1) rfl) rfl) ?_; simp only [Act.put, List.setIfInBounds_toArray, List.set_cons_zero, List.set_cons_succ])
    | (refine ms_free rfl (fun kk xx => y_load1 (b := p) (off := 32) (cs := srow m.bytes (.slice (some ad) cs.length cap) m.next) (t := 72) (v := .slice (some ad) cs.length cap) rfl rfl rfl row_cells (fun w h => own_get 2 (HSUB.out _ _ _ h.1) rfl) (srow_v _ _ _ HB.out)) ?_; simp only [Act.put, List.setIfInBounds_toArray, List.set_cons_zero, List.set_cons_succ])
    | (refine ms_free rfl (fun kk xx => y_load1 (b := bk) (off := 0) (cs := #[.int .i64 k]) (t := 3) (v := .int .i64 k) rfl rfl rfl row_int (fun w h => own_get 0 (HSUB.out _ _ _ h.1) rfl) rfl) ?_; simp only [Act.put, List.setIfInBounds_toArray, List.set_cons_zero, List.set_cons_succ])
    | (refine ms_free rfl (fun kk xx => y_load1_at (ad := ad.add i) rfl rfl rfl row_ptr (fun w h => (HCI.out _ _ (own_drop (own_drop (HSUB.out _ _ _ h.1)))).1)) ?_; simp only [Act.put, List.setIfInBounds_toArray, List.set_cons_zero, List.set_cons_succ])
    | (refine ms_free rfl (fun kk xx => y_load1_at (ad := ad.add k) rfl rfl rfl row_ptr (fun w h => (HCI.out _ _ (own_drop (own_drop (HSUB.out _ _ _ h.1)))).2.1)) ?_; simp only [Act.put, List.setIfInBounds_toArray, List.set_cons_zero, List.set_cons_succ])
    | (refine ms_free rfl (fun kk xx => y_run rfl (by intro w h; go_simp; first | done | rfl)) ?_; simp only [Act.put, List.setIfInBounds_toArray, List.set_cons_zero, List.set_cons_succ])
    | (refine ms_free rfl (fun kk xx => y_call rfl (by intro w h; go_simp; first | done | exact ⟨rfl, rfl⟩) (by intro w h; apply cls_call h; fail)) ?_; simp only [Act.put, List.setIfInBounds_toArray, List.set_cons_zero, List.set_cons_succ]))
  refine ms_nil ?_
  simp only [List.drop_succ_cons, List.drop_zero]
  intro w11 h11
  refine own_alloc (T := 68) (cs := #[.pointer none]) rfl rfl zero_cptr rfl h11.1 ?_
  intro bl w12 hO12 hS12
  refine wpList_nil ⟨bl, ⟨hO12, h11.2.trans hS12⟩, ?_⟩
  clear hO hO12 hS12 h11
  simp only [Act.put, List.setIfInBounds_toArray, List.set_cons_zero, List.set_cons_succ]
  intro w13 h13
  refine own_store1 (k := 0) (b := bl) (off := 0) (cs := #[.pointer none]) (cs' := #[.pointer (some ⟨c.a, 0, none⟩)]) rfl rfl rfl rfl sz_ptr h13.1 rfl rfl (by simp) rfl ?_
  intro w14 hO14 hS14
  refine wpList_nil ⟨bl, ⟨hO14, h13.2.trans hS14⟩, ?_⟩
  clear hO14 hS14 h13
  simp only [Act.put, List.setIfInBounds_toArray, List.set_cons_zero, List.set_cons_succ]
  intro w15 h15
  refine ev (v := .pointer (some ⟨d.a, 0, none⟩)) (w1 := w15) rfl (by go_simp; first | done | exact ⟨rfl, rfl⟩ | rfl) ?_
  refine wpList_nil ⟨bl, h15, ?_⟩
  clear h15
  simp only [Act.put, List.setIfInBounds_toArray, List.set_cons_zero, List.set_cons_succ]
  intro w16 ⟨hO, hS16⟩
  have hO : Own w16 (pts bl (.cells #[.pointer (some ⟨c.a, 0, none⟩)] 68) :: pts bk (.cells #[.int .i64 k] 3) :: pts bs (.cells #[.pointer (some ⟨p, 0, none⟩)] 25) :: (stkL p (.slice (some ad) cs.length cap) cs m.bytes m.next ++ L)) := hO
  simp only [Exit.then]
  clear HSUB
  go_upto_region 9 with fail
  refine wp_region_seq (Cls w16 (pts bl (.cells #[.pointer (some ⟨c.a, 0, none⟩)] 68) :: pts bk (.cells #[.int .i64 k] 3) :: pts bs (.cells #[.pointer (some ⟨p, 0, none⟩)] 25) :: (stkL p (.slice (some ad) cs.length cap) cs m.bytes m.next ++ L))) 10 96 mixed (by kernel_rfl) rfl (cls_drew hO) ?_
  simp only [List.append_eq, List.cons_append, List.nil_append, List.take_succ_cons, List.take_zero]
  repeat (first
    | (apply wv_skip rfl; simp only [Act.put, List.setIfInBounds_toArray, List.set_cons_zero, List.set_cons_succ])
    | (refine wv_load1 (b := bs) (cs := #[.pointer (some ⟨p, 0, none⟩)]) (t := 25) (v := .pointer (some ⟨p, 0, none⟩)) rfl rfl rfl row_sptr (fun w h => own_get 2 h.1 rfl) rfl ?_; simp only [Act.put, List.setIfInBounds_toArray, List.set_cons_zero, List.set_cons_succ])
    | (refine wv_load1 (b := p) (cs := srow m.bytes (.slice (some ad) cs.length cap) m.next) (t := 72) (off := 32) (v := .slice (some ad) cs.length cap) rfl rfl rfl row_cells (fun w h => own_get 3 h.1 rfl) (srow_v _ _ _ HB.out) ?_; simp only [Act.put, List.setIfInBounds_toArray, List.set_cons_zero, List.set_cons_succ])
    | (refine wv_load1 (b := bk) (cs := #[.int .i64 k]) (t := 3) (v := .int .i64 k) rfl rfl rfl row_int (fun w h => own_get 1 h.1 rfl) rfl ?_; simp only [Act.put, List.setIfInBounds_toArray, List.set_cons_zero, List.set_cons_succ])
    | (refine wv_slice_mid rfl rfl rfl rfl rfl Try.underlying70 sz_ptr HL1.out.1 HL1.out.2 HAA.out HRR.out HCC.out ?_; simp only [Act.put, List.setIfInBounds_toArray, List.set_cons_zero, List.set_cons_succ])
    | (apply wv_load1 rfl rfl rfl; (first | exact row_int | exact row_str | exact row_bool | exact row_u8 | exact row_bys | exact row_pats | exact row_err); (intro w h; (first | exact own_get 0 h.1 rfl | exact own_get 1 h.1 rfl | exact own_get 2 h.1 rfl | exact own_get 3 h.1 rfl | exact own_get 4 h.1 rfl | exact own_get 5 h.1 rfl | exact own_get 6 h.1 rfl | exact own_get 7 h.1 rfl)); (first | (simp only [List.getElem?_toArray, List.getElem?_cons_succ, List.getElem?_cons_zero]; rfl) | rfl); simp only [Act.put, List.setIfInBounds_toArray, List.set_cons_zero, List.set_cons_succ])
    | (apply wv_loadrow rfl rfl rfl; (first | exact row_pat); exact sz_pat; (intro w h; (first | exact own_get 0 h.1 rfl | exact own_get 1 h.1 rfl | exact own_get 2 h.1 rfl | exact own_get 3 h.1 rfl | exact own_get 4 h.1 rfl | exact own_get 5 h.1 rfl | exact own_get 6 h.1 rfl | exact own_get 7 h.1 rfl)); (focus (simp; done)); (first | (simp only [List.drop_zero, List.drop_succ_cons, List.take_succ_cons, List.take_zero]; rfl) | rfl); simp only [Act.put, List.setIfInBounds_toArray, List.set_cons_zero, List.set_cons_succ])
    | (apply wv_run rfl; (focus (intro w h; go_simp; first | done | rfl)); simp only [Act.put, List.setIfInBounds_toArray, List.set_cons_zero, List.set_cons_succ])
    | (apply wv_call rfl; (focus (intro w; go_simp; first | done | exact ⟨rfl, rfl⟩)); (focus (intro w h; apply cls_call h; fail)); simp only [Act.put, List.setIfInBounds_toArray, List.set_cons_zero, List.set_cons_succ]))
  refine wv_nil ?_
  simp only [List.drop_succ_cons, List.drop_zero]
  intro w17 ⟨hO17, hS17⟩
  clear hO
  go_wp2
  go_loopw [58] (fun j' wr => ∃ j : Nat, i1 + j ≤ t0 ∧ j' = .int .i64 j ∧ Own wr (pts bl (.cells #[.pointer (some ⟨c.a, 0, none⟩)] 68) :: pts bk (.cells #[.int .i64 k] 3) :: pts bs (.cells #[.pointer (some ⟨p, 0, none⟩)] 25) :: (stkL p (.slice (some ad) cs.length cap) cs m.bytes m.next ++ L)) ∧ Same w16 wr) (fun j' _ => r - (intOf j').toNat)
  case atStart => exact ⟨0, by have := HI1.out; have := HT0.out; omega, rfl, hO17, hS17⟩
  case round =>
    clear hO17 hS17
    obtain ⟨j, hj, rfl, hO, hS⟩ := hrel
    by_cases hlt : i1 + j < t0
    · obtain ⟨e, he⟩ : ∃ e, cs[i1 + j]? = some e := ⟨_, List.getElem?_eq_getElem (by have := HIK.out; have := HRR.out; have := HT0.out; omega)⟩
      have HE := Lib.hid he
      have hA2 : A' = some (ad.add i1) := by
        rw [← HAA.out, if_neg (by have := HIK.out; have := HRR.out; have := HT0.out; omega)]; rfl
      subst hA2
      have hcell : wr.cell? ((ad.add i1).add j) = some (.pointer (some ⟨e.a, 0, none⟩)) := by
        rw [addr_add]
        exact ((HCI.out _ _ (own_drop (own_drop (own_drop hO)))).2.2 _ e he).1
      have HMM := Lib.hid (HMID.out (i1 + j) e (by have := HI1.out; omega) (by omega) he)
      have hj1 : (j : Int) < r := by have := HRR.out; have := HT0.out; omega
      clear he
      go_wp2_with (first | (refine own_load1 (b := bl) (off := 0) (cs := #[.pointer (some ⟨c.a, 0, none⟩)]) (t := 68) (v := .pointer (some ⟨c.a, 0, none⟩)) rfl rfl rfl row_ptr (own_get 0 hO rfl) rfl ?_) | (go_at_call 35; (with_reducible refine (meets_v _ _ e c false HMM.out.1 hO ?_ ?_ ?_ ?_).mono ?_); (exact fun w' h => ((HCI.out _ _ (own_drop (own_drop (own_drop h)))).2.2 _ _ HE.out).2); (exact HRT.out _ (List.mem_of_getElem? HE.out)); (exact fun w' h => ((HCI.out _ _ (own_drop (own_drop (own_drop h)))).2.2 _ _ HC.out).2); (exact HRT.out _ (List.mem_of_getElem? HC.out)); clear hO hcell; rintro e6 w18 ⟨rfl, hO, hS18⟩) | (go_at_call 35; (with_reducible refine (meets_v _ _ e d false HMM.out.2 hO ?_ ?_ ?_ ?_).mono ?_); (exact fun w' h => ((HCI.out _ _ (own_drop (own_drop (own_drop h)))).2.2 _ _ HE.out).2); (exact HRT.out _ (List.mem_of_getElem? HE.out)); (exact fun w' h => ((HCI.out _ _ (own_drop (own_drop (own_drop h)))).2.2 _ _ HD.out).2); (exact HRT.out _ (List.mem_of_getElem? HD.out)); clear hO; rintro e7 w19 ⟨rfl, hO, hS19⟩))
      go_roundw
      case rel => exact ⟨j + 1, by omega, by go_num, hO, hS.trans (hS18.trans hS19)⟩
      case measure => have := HRR.out; have := HT0.out; simp [intOf]; omega
    · have hje : i1 + j = t0 := by omega
      have HE : Hid (cs[i1 + j]? = some c0) := by show _ = _; rw [hje]; exact HC0.out
      have hA2 : A' = some (ad.add i1) := by
        rw [← HAA.out, if_neg (by have := HIK.out; have := HRR.out; have := HT0.out; omega)]; rfl
      subst hA2
      have hcell : wr.cell? ((ad.add i1).add j) = some (.pointer (some ⟨c0.a, 0, none⟩)) := by
        rw [addr_add]
        exact ((HCI.out _ _ (own_drop (own_drop (own_drop hO)))).2.2 _ c0 HE.out).1
      have hj1 : (j : Int) < r := by have := HRR.out; have := HT0.out; omega
      rcases HM0.out with hm | hm
      · have HM : Hid (meetB c0.p c.p = true) := hm
        clear hm hje
        go_wp2_with (first | (refine own_load1 (b := bl) (off := 0) (cs := #[.pointer (some ⟨c.a, 0, none⟩)]) (t := 68) (v := .pointer (some ⟨c.a, 0, none⟩)) rfl rfl rfl row_ptr (own_get 0 hO rfl) rfl ?_) | (go_at_call 35; (with_reducible refine (meets_v _ _ c0 c true HM.out hO ?_ ?_ ?_ ?_).mono ?_); (exact fun w' h => ((HCI.out _ _ (own_drop (own_drop (own_drop h)))).2.2 _ _ HE.out).2); (exact HRT.out _ (List.mem_of_getElem? HE.out)); (exact fun w' h => ((HCI.out _ _ (own_drop (own_drop (own_drop h)))).2.2 _ _ HC.out).2); (exact HRT.out _ (List.mem_of_getElem? HC.out)); clear hO hcell; rintro e6 w18 ⟨rfl, hO, hS18⟩) | (go_at_call 35; (with_reducible refine (meets_v _ _ c0 d false HMM.out.2 hO ?_ ?_ ?_ ?_).mono ?_); (exact fun w' h => ((HCI.out _ _ (own_drop (own_drop (own_drop h)))).2.2 _ _ HE.out).2); (exact HRT.out _ (List.mem_of_getElem? HE.out)); (exact fun w' h => ((HCI.out _ _ (own_drop (own_drop (own_drop h)))).2.2 _ _ HD.out).2); (exact HRT.out _ (List.mem_of_getElem? HD.out)); clear hO; rintro e7 w19 ⟨rfl, hO, hS19⟩))
        go_ret
        exact ⟨rfl, stk_open.2 ⟨_, cs, HREP.out, own_drop (own_drop (own_drop hO))⟩, hS1.trans (hS10.trans (hS16.trans (hS.trans hS18)))⟩
      · have HM : Hid (meetB c0.p c.p = false ∧ meetB c0.p d.p = true) := hm
        clear hm hje
        go_wp2_with (first | (refine own_load1 (b := bl) (off := 0) (cs := #[.pointer (some ⟨c.a, 0, none⟩)]) (t := 68) (v := .pointer (some ⟨c.a, 0, none⟩)) rfl rfl rfl row_ptr (own_get 0 hO rfl) rfl ?_) | (go_at_call 35; (with_reducible refine (meets_v _ _ c0 c false HM.out.1 hO ?_ ?_ ?_ ?_).mono ?_); (exact fun w' h => ((HCI.out _ _ (own_drop (own_drop (own_drop h)))).2.2 _ _ HE.out).2); (exact HRT.out _ (List.mem_of_getElem? HE.out)); (exact fun w' h => ((HCI.out _ _ (own_drop (own_drop (own_drop h)))).2.2 _ _ HC.out).2); (exact HRT.out _ (List.mem_of_getElem? HC.out)); clear hO hcell; rintro e6 w18 ⟨rfl, hO, hS18⟩) | (go_at_call 35; (with_reducible refine (meets_v _ _ c0 d true HM.out.2 hO ?_ ?_ ?_ ?_).mono ?_); (exact fun w' h => ((HCI.out _ _ (own_drop (own_drop (own_drop h)))).2.2 _ _ HE.out).2); (exact HRT.out _ (List.mem_of_getElem? HE.out)); (exact fun w' h => ((HCI.out _ _ (own_drop (own_drop (own_drop h)))).2.2 _ _ HD.out).2); (exact HRT.out _ (List.mem_of_getElem? HD.out)); clear hO; rintro e7 w19 ⟨rfl, hO, hS19⟩))
        go_ret
        exact ⟨rfl, stk_open.2 ⟨_, cs, HREP.out, own_drop (own_drop (own_drop hO))⟩, hS1.trans (hS10.trans (hS16.trans (hS.trans (hS18.trans hS19))))⟩
set_option maxHeartbeats 2400000 in
theorem squash_form (i k : Nat) (a b : On) (hO : Own w (stk p m :: L)) (hk : m.Ok) (hi : m.l[i]? = some a) (hkb : m.l[k]? = some b) (hik : i < k)
    (hmid : ∀ (t : Nat) (c : On), i < t → t < k → m.l[t]? = some c → meetB c.p a.p = false ∧ meetB c.p b.p = false) (hj : joinB a.p ⟨a.p.blk, b.p.off, b.p.dat⟩ = false) :
    Calls Try.prog 21 #[.pointer (some ⟨p, 0, none⟩), .int .i64 a.n, .int .i64 b.n] w (Ret w (.int .i64 3) (stk p m :: L)) := by
  obtain ⟨v, cs, hrep, hO⟩ := stk_open.1 hO
  have hkl : k < cs.length := by rw [hrep.length]; exact (List.getElem?_eq_some_iff.1 hkb).1
  have hgc : ∀ (t : Nat) (o : On), m.l[t]? = some o → ∃ c, cs[t]? = some c ∧ c.on = o := fun t o ho => by
    rw [← hrep.on, List.getElem?_map, Option.map_eq_some_iff] at ho
    exact ho
  obtain ⟨c, hc, rfl⟩ := hgc i a hi
  obtain ⟨d, hd, rfl⟩ := hgc k b hkb
  have hcs := hrep.csok hk
  have HREP := Lib.hid hrep
  have HK := Lib.hid hcs
  have HPP := Lib.hid (hrep.piled hk)
  have HBY := Lib.hid hrep.bytes
  have HC := Lib.hid hc
  have HD := Lib.hid hd
  have HPI : Hid (placeOf cs (c.n : Int) = (i : Nat)) := place_at hcs.asc hc rfl
  have HPK : Hid (placeOf cs (d.n : Int) = (k : Nat)) := place_at hcs.asc hd rfl
  have lc := hcs.lim c (List.mem_of_getElem? hc)
  have ld := hcs.lim d (List.mem_of_getElem? hd)
  have HNI : Hid (i64 (c.n : Int)) := by show _ ∧ _; omega
  have HNK : Hid (i64 (d.n : Int)) := by show _ ∧ _; omega
  have HMID : Hid (∀ (t : Nat) (e : Cl), i < t → t < k → cs[t]? = some e → meetB e.p c.p = false ∧ meetB e.p d.p = false) := fun t e h1 h2 he => hmid t e.on h1 h2 (by rw [← hrep.on, List.getElem?_map, he]; rfl)
  have HJ := Lib.hid hj
  have hlen := hcs.len
  obtain ⟨A, cap, rfl⟩ := (stkAt_of hO).rd.slice
  have hmx := (stkAt_of hO).rd.max
  obtain ⟨ad, rfl⟩ := (stkAt_of hO).rd.addr (by rw [List.length_map]; omega)
  show Calls _ _ #[.pointer (some ⟨p, 0, none⟩), .int .i64 (c.n : Int), .int .i64 (d.n : Int)] _ _
  have f1 : decide ((i : Int) < 0) = false := by simp
  have f2 : decide ((k : Int) < 0) = false := by simp
  have f3 : decide (k ≤ i) = false := by simp; omega
  have hmf : ∀ (fn : Fn) (first cap : Array Value) (w : World), (Instr.makeFunc fn first cap).run Try.prog w = .ok (.func fn first cap) w := fun _ _ _ _ => rfl
  have HMF := Lib.hid hmf
  have HIK : Hid (i < k ∧ k < cs.length ∧ cs.length ≤ 200 ∧ cs.length ≤ cap ∧ cap ≤ 9223372036854775807) := ⟨hik, hkl, hlen, hmx.1, hmx.2⟩
  have HCI : Hid (∀ w' S, Own w' (stkL p (.slice (some ad) cs.length cap) cs m.bytes m.next ++ S) → w'.cell? (ad.add i) = some (.pointer (some ⟨c.a, 0, none⟩)) ∧ w'.cell? (ad.add k) = some (.pointer (some ⟨d.a, 0, none⟩)) ∧ ∀ t e, cs[t]? = some e → w'.cell? (ad.add t) = some (.pointer (some ⟨e.a, 0, none⟩)) ∧ w'.heap[e.a]? = some (.cells e.row 67)) := fun w' S h => by
    have h1 := stkAt_of h
    exact ⟨ptr_cell h1.rd hc, ptr_cell h1.rd hd, fun t e he => ⟨ptr_cell h1.rd he, h1.cell t e he⟩⟩
  have HB : Hid (m.bytes.length = 32) := hcs.byt
  have HRT : Hid (∀ e ∈ cs, rightB e.p = true) := hcs.right
  have hi1 : (i : Int) < cs.length := by omega
  have hk1 : (k : Int) < cs.length := by omega
  obtain ⟨i1, hi1e⟩ : ∃ i1, i1 = i + 1 := ⟨_, rfl⟩
  have HI1 : Hid (i1 = i + 1) := hi1e
  have hiw : IntKind.i64.wrap ((i : Int) + 1) = (i1 : Int) := by rw [IntKind.wrap_i64] <;> omega
  obtain ⟨r, hr⟩ : ∃ r, k - i1 = r := ⟨_, rfl⟩
  obtain ⟨c', hc'⟩ : ∃ c', cap - i1 = c' := ⟨_, rfl⟩
  obtain ⟨A', hA'⟩ : ∃ A', (if cap = i1 then some ad else (some ad).map (·.add i1)) = A' := ⟨_, rfl⟩
  have HRR := Lib.hid hr
  have HCC := Lib.hid hc'
  have HAA := Lib.hid hA'
  have HL1 : Hid (i1 ≤ k ∧ k ≤ cap) := by show _ ∧ _; omega
  have hr200 : r ≤ 200 := by omega
  clear hi1e hr hc' hA'
  clear hrep hk hi hkb hmid hj hgc hc hd hcs lc ld hmf
  go_enter Try.func21, Try.ntmps21
  go_upto_region 3 with (first | (refine own_box (x := .tmp 0) (cs := #[.pointer (some ⟨p, 0, none⟩)]) rfl rfl rfl rfl hO ?_; clear hO; intro bs w1 hO hS1) | (refine own_load1 (b := bs) (off := 0) (cs := #[.pointer (some ⟨p, 0, none⟩)]) (t := 25) (v := .pointer (some ⟨p, 0, none⟩)) rfl rfl rfl row_sptr (own_get 0 hO rfl) rfl ?_))
  have HSUB : Hid (∀ (k' b : Nat) w', Own w' (sqL (pts bs (.cells #[.pointer (some ⟨p, 0, none⟩)] 25) :: (stkL p (.slice (some ad) cs.length cap) cs m.bytes m.next ++ L)) k k' b) → Own w' (pts bs (.cells #[.pointer (some ⟨p, 0, none⟩)] 25) :: (stkL p (.slice (some ad) cs.length cap) cs m.bytes m.next ++ L))) := fun k' b w' h => sqL_sub h
  refine wp_region_mixS (α := Nat) (fun kq xq => Cls w1 ((sqL (pts bs (.cells #[.pointer (some ⟨p, 0, none⟩)] 25) :: (stkL p (.slice (some ad) cs.length cap) cs m.bytes m.next ++ L)) k) kq xq)) 0 6 96 (List.range 6) mixed (by kernel_rfl) rfl (cls_drew hO) (fun _ _ _ _ hd h => ⟨hd ▸ h.1, h.2⟩) ?_
  simp only [List.append_eq, List.cons_append, List.nil_append, List.take_succ_cons, List.take_zero]
  repeat (first
    | (refine ms_free rfl (fun kk xx => y_skip rfl) ?_; simp only [Act.put, List.setIfInBounds_toArray, List.set_cons_zero, List.set_cons_succ])
    | (refine ms_free rfl (fun kk xx => y_load1 (b := bs) (cs := #[.pointer (some ⟨p, 0, none⟩)]) (t := 25) (v := .pointer (some ⟨p, 0, none⟩)) rfl rfl rfl row_sptr (fun w h => own_get 0 (HSUB.out _ _ _ h.1) rfl) rfl) ?_; simp only [Act.put, List.setIfInBounds_toArray, List.set_cons_zero, List.set_cons_succ])
    | (refine ms_free rfl (fun kk xx => y_run rfl (by intro w h; go_simp; first | done | rfl)) ?_; simp only [Act.put, List.setIfInBounds_toArray, List.set_cons_zero, List.set_cons_succ])
    | (refine ms_free rfl (fun kk xx => y_call rfl (by intro w h; go_simp; first | done | exact ⟨rfl, rfl⟩) (by intro w h; apply cls_call h; (first | exact place_x _ _ p _ cs m.bytes m.next c.n i HPI.out h.1 (fun w' h => stkAt_of (own_drop (HSUB.out _ _ _ h))) HK.out HNI.out _ rfl | exact place_x _ _ p _ cs m.bytes m.next d.n k HPK.out h.1 (fun w' h => stkAt_of (own_drop (HSUB.out _ _ _ h))) HK.out HNK.out _ rfl))) ?_; simp only [Act.put, List.setIfInBounds_toArray, List.set_cons_zero, List.set_cons_succ]))
  refine ms_nil ?_
  simp only [List.drop_succ_cons, List.drop_zero]
  intro w5 h5
  refine own_alloc (T := 3) (cs := #[.int .i64 0]) rfl rfl zero_i64 rfl h5.1 ?_
  intro bk w6 hO6 hS6
  refine wpList_nil ⟨bk, ⟨hO6, h5.2.trans hS6⟩, ?_⟩
  clear hO hO6 hS6 h5
  simp only [Act.put, List.setIfInBounds_toArray, List.set_cons_zero, List.set_cons_succ]
  intro w7 h7
  refine ev (v := .int .i64 i) (w1 := w7) rfl (by go_simp; first | done | exact ⟨rfl, rfl⟩ | rfl) ?_
  refine wpList_nil ⟨bk, h7, ?_⟩
  clear h7
  simp only [Act.put, List.setIfInBounds_toArray, List.set_cons_zero, List.set_cons_succ]
  intro w8 h8
  refine own_store1 (k := 0) (b := bk) (off := 0) (cs := #[.int .i64 0]) (cs' := #[.int .i64 k]) rfl rfl rfl rfl sz_i64 h8.1 rfl rfl (by simp) rfl ?_
  intro w9 hO9 hS9
  refine wpList_nil ⟨bk, ⟨hO9, h8.2.trans hS9⟩, ?_⟩
  clear hO9 hS9 h8
  simp only [Act.put, List.setIfInBounds_toArray, List.set_cons_zero, List.set_cons_succ]
  intro w10 ⟨hO, hS10⟩
  have hO : Own w10 (pts bk (.cells #[.int .i64 k] 3) :: pts bs (.cells #[.pointer (some ⟨p, 0, none⟩)] 25) :: (stkL p (.slice (some ad) cs.length cap) cs m.bytes m.next ++ L)) := hO
  simp only [Exit.then]
  clear HSUB
  go_upto_region 8 with (first | (refine own_load1 (b := bk) (off := 0) (cs := #[.int .i64 k]) (t := 3) (v := .int .i64 k) rfl rfl rfl row_int (own_get 0 hO rfl) rfl ?_))
  clear f1 f2 f3 hik hkl
  have HSUB : Hid (∀ (kq b : Nat) w', Own w' (nwL (pts bk (.cells #[.int .i64 k] 3) :: pts bs (.cells #[.pointer (some ⟨p, 0, none⟩)] 25) :: (stkL p (.slice (some ad) cs.length cap) cs m.bytes m.next ++ L)) 68 #[.pointer none] #[.pointer (some ⟨c.a, 0, none⟩)] kq b) → Own w' (pts bk (.cells #[.int .i64 k] 3) :: pts bs (.cells #[.pointer (some ⟨p, 0, none⟩)] 25) :: (stkL p (.slice (some ad) cs.length cap) cs m.bytes m.next ++ L))) := fun kq b w' h => nwL_sub h
  refine wp_region_mixS (α := Nat) (fun kq xq => Cls w10 ((nwL (pts bk (.cells #[.int .i64 k] 3) :: pts bs (.cells #[.pointer (some ⟨p, 0, none⟩)] 25) :: (stkL p (.slice (some ad) cs.length cap) cs m.bytes m.next ++ L)) 68 #[.pointer none] #[.pointer (some ⟨c.a, 0, none⟩)]) kq xq)) 0 14 96 (List.range 14) mixed (by kernel_rfl) rfl (cls_drew hO) (fun _ _ _ _ hd h => ⟨hd ▸ h.1, h.2⟩) ?_
  simp only [List.append_eq, List.cons_append, List.nil_append, List.take_succ_cons, List.take_zero]
  repeat (first
    | (refine ms_free rfl (fun kk xx => y_skip rfl) ?_; simp only [Act.put, List.setIfInBounds_toArray, List.set_cons_zero, List.set_cons_succ])
    | (refine ms_free rfl (fun kk xx => y_load1 (b := bs) (off := 0) (cs := #[.pointer (some ⟨p, 0, none⟩)]) (t := 25) (v := .pointer (some ⟨p, 0, none⟩)) rfl rfl rfl row_sptr (fun w h => own_get 1 (HSUB.out _ _ _ h.1) rfl) rfl) ?_; simp only [Act.put, List.setIfInBounds_toArray, List.set_cons_zero, List.set_cons_succ])
    | (refine ms_free rfl (fun kk xx => y_load1 (b := p) (off := 32) (cs := srow m.bytes (.slice (some ad) cs.length cap) m.next) (t := 72) (v := .slice (some ad) cs.length cap) rfl rfl rfl row_cells (fun w h => own_get 2 (HSUB.out _ _ _ h.1) rfl) (srow_v _ _ _ HB.out)) ?_; simp only [Act.put, List.setIfInBounds_toArray, List.set_cons_zero, List.set_cons_succ])
    | (refine ms_free rfl (fun kk xx => y_load1 (b := bk) (off := 0) (cs := #[.int .i64 k]) (t := 3) (v := .int .i64 k) rfl rfl rfl row_int (fun w h => own_get 0 (HSUB.out _ _ _ h.1) rfl) rfl) ?_; simp only [Act.put, List.setIfInBounds_toArray, List.set_cons_zero, List.set_cons_succ])
    | (refine ms_free rfl (fun kk xx => y_load1_at (ad := ad.add i) rfl rfl rfl row_ptr (fun w h => (HCI.out _ _ (own_drop (own_drop (HSUB.out _ _ _ h.1)))).1)) ?_; simp only [Act.put, List.setIfInBounds_toArray, List.set_cons_zero, List.set_cons_succ])
    | (refine ms_free rfl (fun kk xx => y_load1_at (ad := ad.add k) rfl rfl rfl row_ptr (fun w h => (HCI.out _ _ (own_drop (own_drop (HSUB.out _ _ _ h.1)))).2.1)) ?_; simp only [Act.put, List.setIfInBounds_toArray, List.set_cons_zero, List.set_cons_succ])
    | (refine ms_free rfl (fun kk xx => y_run rfl (by intro w h; go_simp; first | done | rfl)) ?_; simp only [Act.put, List.setIfInBounds_toArray, List.set_cons_zero, List.set_cons_succ])
    | (refine ms_free rfl (fun kk xx => y_call rfl (by intro w h; go_simp; first | done | exact ⟨rfl, rfl⟩) (by intro w h; apply cls_call h; fail)) ?_; simp only [Act.put, List.setIfInBounds_toArray, List.set_cons_zero, List.set_cons_succ]))
  refine ms_nil ?_
  simp only [List.drop_succ_cons, List.drop_zero]
  intro w11 h11
  refine own_alloc (T := 68) (cs := #[.pointer none]) rfl rfl zero_cptr rfl h11.1 ?_
  intro bl w12 hO12 hS12
  refine wpList_nil ⟨bl, ⟨hO12, h11.2.trans hS12⟩, ?_⟩
  clear hO hO12 hS12 h11
  simp only [Act.put, List.setIfInBounds_toArray, List.set_cons_zero, List.set_cons_succ]
  intro w13 h13
  refine own_store1 (k := 0) (b := bl) (off := 0) (cs := #[.pointer none]) (cs' := #[.pointer (some ⟨c.a, 0, none⟩)]) rfl rfl rfl rfl sz_ptr h13.1 rfl rfl (by simp) rfl ?_
  intro w14 hO14 hS14
  refine wpList_nil ⟨bl, ⟨hO14, h13.2.trans hS14⟩, ?_⟩
  clear hO14 hS14 h13
  simp only [Act.put, List.setIfInBounds_toArray, List.set_cons_zero, List.set_cons_succ]
  intro w15 h15
  refine ev (v := .pointer (some ⟨d.a, 0, none⟩)) (w1 := w15) rfl (by go_simp; first | done | exact ⟨rfl, rfl⟩ | rfl) ?_
  refine wpList_nil ⟨bl, h15, ?_⟩
  clear h15
  simp only [Act.put, List.setIfInBounds_toArray, List.set_cons_zero, List.set_cons_succ]
  intro w16 ⟨hO, hS16⟩
  have hO : Own w16 (pts bl (.cells #[.pointer (some ⟨c.a, 0, none⟩)] 68) :: pts bk (.cells #[.int .i64 k] 3) :: pts bs (.cells #[.pointer (some ⟨p, 0, none⟩)] 25) :: (stkL p (.slice (some ad) cs.length cap) cs m.bytes m.next ++ L)) := hO
  simp only [Exit.then]
  clear HSUB
  go_upto_region 9 with fail
  refine wp_region_seq (Cls w16 (pts bl (.cells #[.pointer (some ⟨c.a, 0, none⟩)] 68) :: pts bk (.cells #[.int .i64 k] 3) :: pts bs (.cells #[.pointer (some ⟨p, 0, none⟩)] 25) :: (stkL p (.slice (some ad) cs.length cap) cs m.bytes m.next ++ L))) 10 96 mixed (by kernel_rfl) rfl (cls_drew hO) ?_
  simp only [List.append_eq, List.cons_append, List.nil_append, List.take_succ_cons, List.take_zero]
  repeat (first
    | (apply wv_skip rfl; simp only [Act.put, List.setIfInBounds_toArray, List.set_cons_zero, List.set_cons_succ])
    | (refine wv_load1 (b := bs) (cs := #[.pointer (some ⟨p, 0, none⟩)]) (t := 25) (v := .pointer (some ⟨p, 0, none⟩)) rfl rfl rfl row_sptr (fun w h => own_get 2 h.1 rfl) rfl ?_; simp only [Act.put, List.setIfInBounds_toArray, List.set_cons_zero, List.set_cons_succ])
    | (refine wv_load1 (b := p) (cs := srow m.bytes (.slice (some ad) cs.length cap) m.next) (t := 72) (off := 32) (v := .slice (some ad) cs.length cap) rfl rfl rfl row_cells (fun w h => own_get 3 h.1 rfl) (srow_v _ _ _ HB.out) ?_; simp only [Act.put, List.setIfInBounds_toArray, List.set_cons_zero, List.set_cons_succ])
    | (refine wv_load1 (b := bk) (cs := #[.int .i64 k]) (t := 3) (v := .int .i64 k) rfl rfl rfl row_int (fun w h => own_get 1 h.1 rfl) rfl ?_; simp only [Act.put, List.setIfInBounds_toArray, List.set_cons_zero, List.set_cons_succ])
    | (refine wv_slice_mid rfl rfl rfl rfl rfl Try.underlying70 sz_ptr HL1.out.1 HL1.out.2 HAA.out HRR.out HCC.out ?_; simp only [Act.put, List.setIfInBounds_toArray, List.set_cons_zero, List.set_cons_succ])
    | (apply wv_load1 rfl rfl rfl; (first | exact row_int | exact row_str | exact row_bool | exact row_u8 | exact row_bys | exact row_pats | exact row_err); (intro w h; (first | exact own_get 0 h.1 rfl | exact own_get 1 h.1 rfl | exact own_get 2 h.1 rfl | exact own_get 3 h.1 rfl | exact own_get 4 h.1 rfl | exact own_get 5 h.1 rfl | exact own_get 6 h.1 rfl | exact own_get 7 h.1 rfl)); (first | (simp only [List.getElem?_toArray, List.getElem?_cons_succ, List.getElem?_cons_zero]; rfl) | rfl); simp only [Act.put, List.setIfInBounds_toArray, List.set_cons_zero, List.set_cons_succ])
    | (apply wv_loadrow rfl rfl rfl; (first | exact row_pat); exact sz_pat; (intro w h; (first | exact own_get 0 h.1 rfl | exact own_get 1 h.1 rfl | exact own_get 2 h.1 rfl | exact own_get 3 h.1 rfl | exact own_get 4 h.1 rfl | exact own_get 5 h.1 rfl | exact own_get 6 h.1 rfl | exact own_get 7 h.1 rfl)); (focus (simp; done)); (first | (simp only [List.drop_zero, List.drop_succ_cons, List.take_succ_cons, List.take_zero]; rfl) | rfl); simp only [Act.put, List.setIfInBounds_toArray, List.set_cons_zero, List.set_cons_succ])
    | (apply wv_run rfl; (focus (intro w h; go_simp; first | done | rfl)); simp only [Act.put, List.setIfInBounds_toArray, List.set_cons_zero, List.set_cons_succ])
    | (apply wv_call rfl; (focus (intro w; go_simp; first | done | exact ⟨rfl, rfl⟩)); (focus (intro w h; apply cls_call h; fail)); simp only [Act.put, List.setIfInBounds_toArray, List.set_cons_zero, List.set_cons_succ]))
  refine wv_nil ?_
  simp only [List.drop_succ_cons, List.drop_zero]
  intro w17 ⟨hO17, hS17⟩
  clear hO
  go_wp2
  go_loopw [58] (fun j' wr => ∃ j : Nat, j ≤ r ∧ j' = .int .i64 j ∧ Own wr (pts bl (.cells #[.pointer (some ⟨c.a, 0, none⟩)] 68) :: pts bk (.cells #[.int .i64 k] 3) :: pts bs (.cells #[.pointer (some ⟨p, 0, none⟩)] 25) :: (stkL p (.slice (some ad) cs.length cap) cs m.bytes m.next ++ L)) ∧ Same w16 wr) (fun j' _ => r - (intOf j').toNat)
  case atStart => exact ⟨0, Nat.zero_le _, rfl, hO17, hS17⟩
  case round =>
    clear hO17 hS17
    obtain ⟨j, hj, rfl, hO, hS⟩ := hrel
    by_cases hlt : j < r
    · obtain ⟨e, he⟩ : ∃ e, cs[i1 + j]? = some e := ⟨_, List.getElem?_eq_getElem (by have := HIK.out; have := HRR.out; omega)⟩
      have HE := Lib.hid he
      have hA2 : A' = some (ad.add i1) := by
        rw [← HAA.out, if_neg (by have := HIK.out; have := HRR.out; omega)]; rfl
      subst hA2
      have hcell : wr.cell? ((ad.add i1).add j) = some (.pointer (some ⟨e.a, 0, none⟩)) := by
        rw [addr_add]
        exact ((HCI.out _ _ (own_drop (own_drop (own_drop hO)))).2.2 _ e he).1
      have HMM := Lib.hid (HMID.out (i1 + j) e (by have := HI1.out; omega) (by have := HRR.out; omega) he)
      have hj1 : (j : Int) < r := by omega
      clear he
      go_wp2_with (first | (refine own_load1 (b := bl) (off := 0) (cs := #[.pointer (some ⟨c.a, 0, none⟩)]) (t := 68) (v := .pointer (some ⟨c.a, 0, none⟩)) rfl rfl rfl row_ptr (own_get 0 hO rfl) rfl ?_) | (go_at_call 35; (with_reducible refine (meets_v _ _ e c false HMM.out.1 hO ?_ ?_ ?_ ?_).mono ?_); (exact fun w' h => ((HCI.out _ _ (own_drop (own_drop (own_drop h)))).2.2 _ _ HE.out).2); (exact HRT.out _ (List.mem_of_getElem? HE.out)); (exact fun w' h => ((HCI.out _ _ (own_drop (own_drop (own_drop h)))).2.2 _ _ HC.out).2); (exact HRT.out _ (List.mem_of_getElem? HC.out)); clear hO hcell; rintro e6 w18 ⟨rfl, hO, hS18⟩) | (go_at_call 35; (with_reducible refine (meets_v _ _ e d false HMM.out.2 hO ?_ ?_ ?_ ?_).mono ?_); (exact fun w' h => ((HCI.out _ _ (own_drop (own_drop (own_drop h)))).2.2 _ _ HE.out).2); (exact HRT.out _ (List.mem_of_getElem? HE.out)); (exact fun w' h => ((HCI.out _ _ (own_drop (own_drop (own_drop h)))).2.2 _ _ HD.out).2); (exact HRT.out _ (List.mem_of_getElem? HD.out)); clear hO; rintro e7 w19 ⟨rfl, hO, hS19⟩))
      go_roundw
      case rel => exact ⟨j + 1, by omega, by go_num, hO, hS.trans (hS18.trans hS19)⟩
      case measure => simp [intOf]; omega
    · have hje : j = r := by omega
      subst hje
      go_upto_region 17 with (first | (refine own_loadrow (b := d.a) (off := 0) (cs := d.row) (t := 67) (vs := [.int .i64 d.p.blk, .int .i64 d.p.off, .string d.p.dat]) rfl rfl rfl row_pat sz_pat ((HCI.out _ _ (own_drop (own_drop (own_drop hO)))).2.2 _ _ HD.out).2 (by simp [Cl.row]) rfl ?_) | (refine own_alloc (T := 33) rfl rfl zero_pat rfl hO ?_; clear hO; intro bp w20 hO hS20) | (refine own_store_all (k := 0) rfl rfl rfl rfl sz_pat hO rfl rfl rfl rfl ?_; clear hO; intro w21 hO hS21; simp only [List.set_cons_zero] at hO) | (refine own_load1 (b := bl) (off := 0) (cs := #[.pointer (some ⟨c.a, 0, none⟩)]) (t := 68) (v := .pointer (some ⟨c.a, 0, none⟩)) rfl rfl rfl row_ptr (own_get 1 hO rfl) rfl ?_) | (refine own_load1 (b := c.a) (off := 0) (cs := c.row) (t := 67) (v := .int .i64 c.p.blk) rfl rfl rfl row_int ((HCI.out _ _ (own_drop (own_drop (own_drop (own_drop hO))))).2.2 _ _ HC.out).2 rfl ?_) | (refine own_store1 (k := 0) (b := bp) (off := 0) (cs' := patV ⟨c.p.blk, d.p.off, d.p.dat⟩) rfl rfl rfl rfl sz_i64 hO rfl rfl (by simp) rfl ?_; clear hO; intro w22 hO hS22; simp only [List.set_cons_zero] at hO))
      have hO : Own w22 (pts bp (.cells (patV ⟨c.p.blk, d.p.off, d.p.dat⟩) 33) :: pts bl (.cells #[.pointer (some ⟨c.a, 0, none⟩)] 68) :: pts bk (.cells #[.int .i64 k] 3) :: pts bs (.cells #[.pointer (some ⟨p, 0, none⟩)] 25) :: (stkL p (.slice (some ad) cs.length cap) cs m.bytes m.next ++ L)) := hO
      have HSUB : Hid (∀ (kq b : Nat) w', Own w' (nwL (pts bp (.cells (patV ⟨c.p.blk, d.p.off, d.p.dat⟩) 33) :: pts bl (.cells #[.pointer (some ⟨c.a, 0, none⟩)] 68) :: pts bk (.cells #[.int .i64 k] 3) :: pts bs (.cells #[.pointer (some ⟨p, 0, none⟩)] 25) :: (stkL p (.slice (some ad) cs.length cap) cs m.bytes m.next ++ L)) 33 (patV ⟨0, 0, ⟨#[]⟩⟩) (patV ⟨0, 0, ⟨#[]⟩⟩) kq b) → Own w' (pts bp (.cells (patV ⟨c.p.blk, d.p.off, d.p.dat⟩) 33) :: pts bl (.cells #[.pointer (some ⟨c.a, 0, none⟩)] 68) :: pts bk (.cells #[.int .i64 k] 3) :: pts bs (.cells #[.pointer (some ⟨p, 0, none⟩)] 25) :: (stkL p (.slice (some ad) cs.length cap) cs m.bytes m.next ++ L))) := fun kq b w' h => nwL_sub h
      refine wp_region_mixS (α := Nat) (fun kq xq => Cls w22 ((nwL (pts bp (.cells (patV ⟨c.p.blk, d.p.off, d.p.dat⟩) 33) :: pts bl (.cells #[.pointer (some ⟨c.a, 0, none⟩)] 68) :: pts bk (.cells #[.int .i64 k] 3) :: pts bs (.cells #[.pointer (some ⟨p, 0, none⟩)] 25) :: (stkL p (.slice (some ad) cs.length cap) cs m.bytes m.next ++ L)) 33 (patV ⟨0, 0, ⟨#[]⟩⟩) (patV ⟨0, 0, ⟨#[]⟩⟩)) kq xq)) 0 9 96 (List.range 9) mixed (by kernel_rfl) rfl (cls_drew hO) (fun _ _ _ _ hd h => ⟨hd ▸ h.1, h.2⟩) ?_
      simp only [List.append_eq, List.cons_append, List.nil_append, List.take_succ_cons, List.take_zero]
      repeat (first
        | (refine ms_free rfl (fun kk xx => y_skip rfl) ?_; simp only [Act.put, List.setIfInBounds_toArray, List.set_cons_zero, List.set_cons_succ])
        | (refine ms_free rfl (fun kk xx => y_load1 (b := bl) (off := 0) (cs := #[.pointer (some ⟨c.a, 0, none⟩)]) (t := 68) (v := .pointer (some ⟨c.a, 0, none⟩)) rfl rfl rfl row_ptr (fun w h => own_get 1 (HSUB.out _ _ _ h.1) rfl) rfl) ?_; simp only [Act.put, List.setIfInBounds_toArray, List.set_cons_zero, List.set_cons_succ])
        | (refine ms_free rfl (fun kk xx => y_loadrow (b := c.a) (off := 0) (cs := c.row) (t := 67) (vs := [.int .i64 c.p.blk, .int .i64 c.p.off, .string c.p.dat]) rfl rfl rfl row_pat sz_pat (fun w h => ((HCI.out _ _ (own_drop (own_drop (own_drop (own_drop (HSUB.out _ _ _ h.1)))))).2.2 _ _ HC.out).2) (by simp [Cl.row]) rfl) ?_; simp only [Act.put, List.setIfInBounds_toArray, List.set_cons_zero, List.set_cons_succ])
        | (refine ms_free rfl (fun kk xx => y_loadrow (b := bp) (off := 0) (cs := patV ⟨c.p.blk, d.p.off, d.p.dat⟩) (t := 33) (vs := [.int .i64 c.p.blk, .int .i64 d.p.off, .string d.p.dat]) rfl rfl rfl row_pat sz_pat (fun w h => own_get 0 (HSUB.out _ _ _ h.1) rfl) (by simp [patV]) rfl) ?_; simp only [Act.put, List.setIfInBounds_toArray, List.set_cons_zero, List.set_cons_succ])
        | (refine ms_free rfl (fun kk xx => y_run rfl (by intro w h; go_simp; first | done | rfl)) ?_; simp only [Act.put, List.setIfInBounds_toArray, List.set_cons_zero, List.set_cons_succ])
        | (refine ms_free rfl (fun kk xx => y_call rfl (by intro w h; go_simp; first | done | exact ⟨rfl, rfl⟩) (by intro w h; apply cls_call h; exact join_no _ _ c.p.blk c.p.off c.p.blk d.p.off c.p.dat d.p.dat h.1 HJ.out)) ?_; simp only [Act.put, List.setIfInBounds_toArray, List.set_cons_zero, List.set_cons_succ]))
      refine ms_nil ?_
      simp only [List.drop_succ_cons, List.drop_zero]
      intro w23 h23
      refine own_alloc (T := 33) (cs := patV ⟨0, 0, ⟨#[]⟩⟩) rfl rfl zero_pat rfl h23.1 ?_
      intro bj w24 hO24 hS24
      refine wpList_nil ⟨bj, ⟨hO24, h23.2.trans hS24⟩, ?_⟩
      clear hO hO24 hS24 h23
      simp only [Act.put, List.setIfInBounds_toArray, List.set_cons_zero, List.set_cons_succ]
      intro w25 h25
      refine own_store_all (k := 0) (b := bj) (cs := patV ⟨0, 0, ⟨#[]⟩⟩) (vs := patV ⟨0, 0, ⟨#[]⟩⟩) rfl rfl rfl rfl sz_pat h25.1 rfl rfl rfl rfl ?_
      intro w26 hO26 hS26
      refine wpList_nil ⟨bj, ⟨hO26, h25.2.trans hS26⟩, ?_⟩
      clear hO26 hS26 h25
      simp only [Act.put, List.setIfInBounds_toArray, List.set_cons_zero, List.set_cons_succ]
      intro w27 h27
      refine ev (v := .bool false) (w1 := w27) rfl (by go_simp; first | done | exact ⟨rfl, rfl⟩ | rfl) ?_
      refine wpList_nil ⟨bj, h27, ?_⟩
      clear h27
      simp only [Act.put, List.setIfInBounds_toArray, List.set_cons_zero, List.set_cons_succ]
      intro w28 ⟨hO, hS28⟩
      have hO : Own w28 (pts bj (.cells (patV ⟨0, 0, ⟨#[]⟩⟩) 33) :: pts bp (.cells (patV ⟨c.p.blk, d.p.off, d.p.dat⟩) 33) :: pts bl (.cells #[.pointer (some ⟨c.a, 0, none⟩)] 68) :: pts bk (.cells #[.int .i64 k] 3) :: pts bs (.cells #[.pointer (some ⟨p, 0, none⟩)] 25) :: (stkL p (.slice (some ad) cs.length cap) cs m.bytes m.next ++ L)) := hO
      simp only [Exit.then]
      clear HSUB
      go_wp2
      go_ret
      exact ⟨rfl, stk_open.2 ⟨_, cs, HREP.out, own_drop (own_drop (own_drop (own_drop (own_drop hO))))⟩, hS1.trans (hS10.trans (hS16.trans (hS.trans (hS20.trans (hS21.trans (hS22.trans hS28))))))⟩
end
end Go.Proofs.Ytdcbfdepkbplbaa.H
