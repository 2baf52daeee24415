/- Contract of Squash, at two that may be one. What is read of a stack, on what it means; live. live, of the statements on stacks. A list of operations under way, its next n walked by what they yield. -/
import Derived.Test.YtdcbfdepkbplbaaZ13
set_option linter.unusedVariables false
set_option linter.unusedSimpArgs false
set_option maxRecDepth 100000
namespace Go.Proofs.Ytdcbfdepkbplbaa.H
open Go.RowKit
theorem y_load1_at {P : Program} {ops : Array Oper} {C : World → Prop} {aF : Act} {o : Oper} {T : TypeId} {x : Operand} {ad : Addr} {v : Value} (hw : Region.wanted o (yielded ops aF.tmps) = true) (ho : o.op = .load T x) (hx : aF.eval x = .pointer (some ad))
    (hT : isRowB P T = some false) (hc : ∀ w, C w → w.cell? ad = some v) : YieldsIn P ops C o v aF := by
  refine y_run hw (fun w hC => ?_)
  simp only [execOp, ho, hx, Sem.run_bind, run_load1_at hT (hc w hC)]
  rfl
/-- What is owned while a new block is laid and filled. -/
def nwL (L : List HP) (T : TypeId) (z x : Array Value) (k b : Nat) : List HP := match k with
  | 0 => L
  | 1 => pts b (.cells z T) :: L
  | _ => pts b (.cells x T) :: L
theorem nwL_sub {w : World} {L : List HP} {T : TypeId} {z x : Array Value} {k b : Nat} (h : Own w (nwL L T z x k b)) : Own w L := by
  unfold nwL at h
  split at h
  · exact h
  · exact own_drop h
  · exact own_drop h
theorem zero_cptr : (Try.prog.info? 68).map (·.zero) = some (some (.pointer none)) := by kernel_rfl
theorem meets_x (w : World) (L : List HP) (c d : Cl) (b : Bool) (x y : Value) (hx : x = .pointer (some ⟨c.a, 0, none⟩)) (hy : y = .pointer (some ⟨d.a, 0, none⟩)) (hb : meetB c.p d.p = b) (hO : Own w L) (hc : ∀ w', Own w' L → w'.heap[c.a]? = some (.cells c.row 67)) (hR : rightB c.p = true) (hd : ∀ w', Own w' L → w'.heap[d.a]? = some (.cells d.row 67)) (hR2 : rightB d.p = true) :
    Calls Try.prog 35 #[x, y] w (Ret w (.bool b) L) := by
  subst hx hy
  exact meets_v w L c d b hb hO hc hR hd hR2
section
variable {P : Program} {ops : Array Oper} {o : Oper} {a : Act} {C : World → Prop} {N : Act → Prop}
theorem wv_slice_mid {ol : List Oper} {T e : TypeId} {x lo hi : Operand} {A A' : Option Addr} {n c m j r c' : Nat} (hw : Region.wanted o (yielded ops a.tmps) = true) (ho : o.op = .slice T x (some lo) (some hi) none) (hx : a.eval x = .slice A n c) (hlo : a.eval lo = .int .i64 m) (hhi : a.eval hi = .int .i64 j)
    (ht : P.underlying T = some (.slice e)) (hs : (P.info? e).map (·.size) = some 1) (hm : m ≤ j) (hj : j ≤ c) (hA : (if c = m then A else A.map (·.add m)) = A') (hr : j - m = r) (hc' : c - m = c') (h : wpVals P ops C N ol (a.put o.dst (.slice A' r c'))) : wpVals P ops C N (o :: ol) a := by
  subst hr hc' hA
  refine wv_run hw (fun w hC => ?_) h
  obtain ⟨i, hi', hz⟩ := Option.map_eq_some_iff.1 hs
  have h0 : (0 : Int) ≤ m := by omega
  have h1 : (m : Int) ≤ j := by omega
  have h2 : (j : Int) ≤ c := by omega
  have h3 : (0 : Int) ≤ j := by omega
  have hr : (Instr.slice T (.slice A n c) (some (.int .i64 m)) (some (.int .i64 j)) none).run P w = .ok (.slice (if c = m then A else A.map (·.add m)) (j - m) (c - m)) w := by
    simp [Instr.slice, run_underlying ht, Instr.sliceBounds, run_sliceBound, sizeOf, typeInfo, hi', hz, h0, h1, h2, h3]
  simp only [execOp, ho, hx, hlo, hhi]
  simp [run_sliceAt_slice, hlo, hhi, hr, Instr.sliceAt, run_underlying ht]
end
def Stk.squashed (m : Stk) (i k : Nat) (n : Nat) (q : Pat) : Stk := ⟨m.base, (m.l.set i ⟨n, q⟩).eraseIdx k, m.next⟩
theorem sq_perm {J P B K S : HP} {X L : List HP} : (J :: P :: B :: K :: S :: (X ++ L)).Perm (X ++ (J :: B :: S :: K :: P :: L)) :=
  perm_count fun x => by simp only [List.count_append, List.count_cons]; omega
theorem sq_sub {w : World} {J P B K S : HP} {X L : List HP} (h : Own w (J :: P :: B :: K :: S :: (X ++ L))) : Own w (X ++ (J :: B :: S :: K :: L)) :=
  own_sub (own_perm h sq_perm) (List.Sublist.append (List.Sublist.refl _) (.cons_cons _ (.cons_cons _ (.cons_cons _ (.cons_cons _ (.cons _ (List.Sublist.refl _)))))))
theorem joinM_blk (p q : Pat) : (joinM p q).blk = p.blk := rfl
theorem squash_bare (w : World) (L : List HP) (p bj bl bs bk i k : Nat) (v : Value) (cs : List Cl) (base : List UInt8) (next : Nat) (q : Pat) (c : Cl) (hP : Piled base cs) (hc : cs[i]? = some c) (hik : i < k) (hk : k < cs.length) (hq : rightB q = true)
    (hO : Own w (stkL p v cs (appAll base (cs.map Cl.p)) next ++ (pts bj (.cells (patV q) 33) :: pts bl (.cells #[.pointer (some ⟨c.a, 0, none⟩)] 68) :: pts bs (.cells #[.pointer (some ⟨p, 0, none⟩)] 25) :: pts bk (.cells #[.int .i64 k] 3) :: L))) :
    Calls Try.prog 37 #[.pointer (some ⟨p, 0, none⟩), .int .i64 i, .func (.func 41) #[] #[.pointer (some ⟨bj, 0, none⟩), .pointer (some ⟨bl, 0, none⟩), .pointer (some ⟨bs, 0, none⟩), .pointer (some ⟨bk, 0, none⟩)]] w
      (RetX w (fun _ => .tuple #[]) (fun y : Value × List Cl => pur (y.2.map Cl.on = ((cs.set i (c.with q)).eraseIdx k).map Cl.on ∧ y.2.map Cl.und = unders base (((cs.set i (c.with q)).eraseIdx k).map Cl.p)) :: (stkL p y.1 y.2 (appAll base (((cs.set i (c.with q)).eraseIdx k).map Cl.p)) next ++ L))) := by
  obtain ⟨ds, hds⟩ : ∃ ds, ds = (cs.set i (c.with q)).eraseIdx k := ⟨_, rfl⟩
  have hil : i < cs.length := by omega
  have hdl : ds.length = cs.length - 1 := by rw [hds, List.length_eraseIdx_of_lt (by simpa using hk), List.length_set]
  have hmin : min i ds.length = i := by omega
  have hlow : ds.take i = cs.take i := by
    rw [hds, List.eraseIdx_eq_take_drop_succ, List.take_append_of_le_length (by rw [List.length_take, List.length_set]; omega), List.take_take, Nat.min_eq_left (by omega), List.take_set_of_le (Nat.le_refl _)]
  have hright : ∀ e ∈ ds, rightB e.p = true := fun e he => by
    rw [hds] at he
    have h1 := List.mem_of_mem_eraseIdx he
    rcases List.mem_or_eq_of_mem_set h1 with h2 | h2
    · exact hP.right e h2
    · rw [h2]; exact hq
  have hb := bare_c (α := Value) (fun v' => v') (fun _ => ds) (fun _ => appAll base ((cs.take i).map Cl.p)) (fun _ => pts bj (.cells (patV q) 33) :: pts bl (.cells #[.pointer (some ⟨c.a, 0, none⟩)] 68) :: pts bs (.cells #[.pointer (some ⟨p, 0, none⟩)] 25) :: pts bk (.cells #[.int .i64 k] 3) :: L) w (pts bj (.cells (patV q) 33) :: pts bl (.cells #[.pointer (some ⟨c.a, 0, none⟩)] 68) :: pts bs (.cells #[.pointer (some ⟨p, 0, none⟩)] 25) :: pts bk (.cells #[.int .i64 k] 3) :: L) p i v cs base next 41 #[.pointer (some ⟨bj, 0, none⟩), .pointer (some ⟨bl, 0, none⟩), .pointer (some ⟨bs, 0, none⟩), .pointer (some ⟨bk, 0, none⟩)] hO (by omega) hP
    (fun w' F h' => by rw [hds]; exact squash1_c w' (L ++ F) p bj bl bs bk i k v cs _ next q c h' hc hk (hP.low i) hP.len) (fun w' => by simp [go_sem, callFunc]; rfl) (fun _ _ _ _ => ⟨hP.low i, hright, by have := hP.len; omega⟩)
  refine hb.mono ?_
  rintro e w' ⟨⟨v', cs'⟩, rfl, hO', hS⟩
  rw [own_pur] at hO'
  obtain ⟨hre, hO'⟩ := hO'
  simp only [hmin] at hre hO'
  rw [← hds]
  have hl' := hre.length
  have hund := hre.und
  rw [List.take_of_length_le (l := cs'.drop i) (by rw [List.length_drop]; omega), List.take_of_length_le (l := ds.drop i) (by rw [List.length_drop]; omega)] at hund
  have hpm : ds.map Cl.p = (cs.take i).map Cl.p ++ (ds.drop i).map Cl.p := by rw [← List.map_append, ← hlow, List.take_append_drop]
  refine ⟨(v', cs'), rfl, own_pur.2 ⟨⟨hre.on, ?_⟩, ?_⟩, hS⟩
  · rw [hpm, unders_append, ← hund]
    have h1 : cs'.map Cl.und = (cs'.take i).map Cl.und ++ (cs'.drop i).map Cl.und := by rw [← List.map_append, List.take_append_drop]
    rw [h1, hre.low, hlow]
    congr 1
    rw [List.map_take, List.map_take, hP.und]
    have h2 : cs.map Cl.p = (cs.map Cl.p).take i ++ (cs.map Cl.p).drop i := (List.take_append_drop _ _).symm
    conv => lhs; rw [h2, unders_append]
    rw [List.take_append_of_le_length (by rw [unders_length, List.length_take, List.length_map]; omega), List.take_of_length_le (by rw [unders_length, List.length_take, List.length_map]; omega)]
  · rw [hpm, appAll_append]
    exact own_drop (own_drop (own_drop (own_drop (own_four.1 hO'))))
section
variable (w : World) (L : List HP) (p : Nat) (m : Stk)
set_option maxHeartbeats 2400000 in
theorem squash_ok (i k : Nat) (a b : On) (hO : Own w (stk p m :: L)) (hk : m.Ok) (hi : m.l[i]? = some a) (hkb : m.l[k]? = some b) (hik : i < k)
    (hmid : ∀ (t : Nat) (c : On), i < t → t < k → m.l[t]? = some c → meetB c.p a.p = false ∧ meetB c.p b.p = false) (hj : joinB a.p ⟨a.p.blk, b.p.off, b.p.dat⟩ = true) :
    Calls Try.prog 21 #[.pointer (some ⟨p, 0, none⟩), .int .i64 a.n, .int .i64 b.n] w (Ret w (.int .i64 0) (stk p (m.squashed i k a.n (joinM a.p ⟨a.p.blk, b.p.off, b.p.dat⟩)) :: L)) := by
  obtain ⟨v, cs, hrep, hO⟩ := stk_open.1 hO
  have hkl : k < cs.length := by rw [hrep.length]; exact (List.getElem?_eq_some_iff.1 hkb).1
  have hgc : ∀ (t : Nat) (o : On), m.l[t]? = some o → ∃ c, cs[t]? = some c ∧ c.on = o := fun t o ho => by
    rw [← hrep.on, List.getElem?_map, Option.map_eq_some_iff] at ho
    exact ho
  obtain ⟨c, hc, rfl⟩ := hgc i a hi
  obtain ⟨d, hd, rfl⟩ := hgc k b hkb
  have hcs := hrep.csok hk
  have HREP := Lib.hid hrep
  have HK := Lib.hid hcs
  have HPP := Lib.hid (hrep.piled hk)
  have HBY := Lib.hid hrep.bytes
  have HC := Lib.hid hc
  have HD := Lib.hid hd
  have HPI : Hid (placeOf cs (c.n : Int) = (i : Nat)) := place_at hcs.asc hc rfl
  have HPK : Hid (placeOf cs (d.n : Int) = (k : Nat)) := place_at hcs.asc hd rfl
  have lc := hcs.lim c (List.mem_of_getElem? hc)
  have ld := hcs.lim d (List.mem_of_getElem? hd)
  have HNI : Hid (i64 (c.n : Int)) := by show _ ∧ _; omega
  have HNK : Hid (i64 (d.n : Int)) := by show _ ∧ _; omega
  have HMID : Hid (∀ (t : Nat) (e : Cl), i < t → t < k → cs[t]? = some e → meetB e.p c.p = false ∧ meetB e.p d.p = false) := fun t e h1 h2 he => hmid t e.on h1 h2 (by rw [← hrep.on, List.getElem?_map, he]; rfl)
  have HJ := Lib.hid hj
  have HQR : Hid (rightB (joinM c.p ⟨c.p.blk, d.p.off, d.p.dat⟩) = true) := joinM_right (joins_iff.1 hj)
  have hlen := hcs.len
  obtain ⟨A, cap, rfl⟩ := (stkAt_of hO).rd.slice
  have hmx := (stkAt_of hO).rd.max
  obtain ⟨ad, rfl⟩ := (stkAt_of hO).rd.addr (by rw [List.length_map]; omega)
  show Calls _ _ #[.pointer (some ⟨p, 0, none⟩), .int .i64 (c.n : Int), .int .i64 (d.n : Int)] _ _
  have f1 : decide ((i : Int) < 0) = false := by simp
  have f2 : decide ((k : Int) < 0) = false := by simp
  have f3 : decide (k ≤ i) = false := by simp; omega
  have hmf : ∀ (fn : Fn) (first cap : Array Value) (w : World), (Instr.makeFunc fn first cap).run Try.prog w = .ok (.func fn first cap) w := fun _ _ _ _ => rfl
  have HMF := Lib.hid hmf
  have HIK : Hid (i < k ∧ k < cs.length ∧ cs.length ≤ 200 ∧ cs.length ≤ cap ∧ cap ≤ 9223372036854775807) := ⟨hik, hkl, hlen, hmx.1, hmx.2⟩
  have HCI : Hid (∀ w' S, Own w' (stkL p (.slice (some ad) cs.length cap) cs m.bytes m.next ++ S) → w'.cell? (ad.add i) = some (.pointer (some ⟨c.a, 0, none⟩)) ∧ w'.cell? (ad.add k) = some (.pointer (some ⟨d.a, 0, none⟩)) ∧ ∀ t e, cs[t]? = some e → w'.cell? (ad.add t) = some (.pointer (some ⟨e.a, 0, none⟩)) ∧ w'.heap[e.a]? = some (.cells e.row 67)) := fun w' S h => by
    have h1 := stkAt_of h
    exact ⟨ptr_cell h1.rd hc, ptr_cell h1.rd hd, fun t e he => ⟨ptr_cell h1.rd he, h1.cell t e he⟩⟩
  have HB : Hid (m.bytes.length = 32) := hcs.byt
  have HRT : Hid (∀ e ∈ cs, rightB e.p = true) := hcs.right
  have hi1 : (i : Int) < cs.length := by omega
  have hk1 : (k : Int) < cs.length := by omega
  obtain ⟨i1, hi1e⟩ : ∃ i1, i1 = i + 1 := ⟨_, rfl⟩
  have HI1 : Hid (i1 = i + 1) := hi1e
  have hiw : IntKind.i64.wrap ((i : Int) + 1) = (i1 : Int) := by rw [IntKind.wrap_i64] <;> omega
  obtain ⟨r, hr⟩ : ∃ r, k - i1 = r := ⟨_, rfl⟩
  obtain ⟨c', hc'⟩ : ∃ c', cap - i1 = c' := ⟨_, rfl⟩
  obtain ⟨A', hA'⟩ : ∃ A', (if cap = i1 then some ad else (some ad).map (·.add i1)) = A' := ⟨_, rfl⟩
  have HRR := Lib.hid hr
  have HCC := Lib.hid hc'
  have HAA := Lib.hid hA'
  have HL1 : Hid (i1 ≤ k ∧ k ≤ cap) := by show _ ∧ _; omega
  have hr200 : r ≤ 200 := by omega
  clear hi1e hr hc' hA'
  clear hrep hk hi hkb hmid hj hgc hc hd hcs lc ld hmf
  go_enter Try.func21, Try.ntmps21
  go_upto_region 3 with (first | (refine own_box (x := .tmp 0) (cs := #[.pointer (some ⟨p, 0, none⟩)]) rfl rfl rfl rfl hO ?_; clear hO; intro bs w1 hO hS1) | (refine own_load1 (b := bs) (off := 0) (cs := #[.pointer (some ⟨p, 0, none⟩)]) (t := 25) (v := .pointer (some ⟨p, 0, none⟩)) rfl rfl rfl row_sptr (own_get 0 hO rfl) rfl ?_))
  have HSUB : Hid (∀ (k' b : Nat) w', Own w' (sqL (pts bs (.cells #[.pointer (some ⟨p, 0, none⟩)] 25) :: (stkL p (.slice (some ad) cs.length cap) cs m.bytes m.next ++ L)) k k' b) → Own w' (pts bs (.cells #[.pointer (some ⟨p, 0, none⟩)] 25) :: (stkL p (.slice (some ad) cs.length cap) cs m.bytes m.next ++ L))) := fun k' b w' h => sqL_sub h
  refine wp_region_mixS (α := Nat) (fun kq xq => Cls w1 ((sqL (pts bs (.cells #[.pointer (some ⟨p, 0, none⟩)] 25) :: (stkL p (.slice (some ad) cs.length cap) cs m.bytes m.next ++ L)) k) kq xq)) 0 6 96 (List.range 6) mixed (by kernel_rfl) rfl (cls_drew hO) (fun _ _ _ _ hd h => ⟨hd ▸ h.1, h.2⟩) ?_
  simp only [List.append_eq, List.cons_append, List.nil_append, List.take_succ_cons, List.take_zero]
  repeat (first
    | (refine ms_free rfl (fun kk xx => y_skip rfl) ?_; simp only [Act.put, List.setIfInBounds_toArray, List.set_cons_zero, List.set_cons_succ])
    | (refine ms_free rfl (fun kk xx => y_load1 (b := bs) (cs := #[.pointer (some ⟨p, 0, none⟩)]) (t := 25) (v := .pointer (some ⟨p, 0, none⟩)) rfl rfl rfl row_sptr (fun w h => own_get 0 (HSUB.out _ _ _ h.1) rfl) rfl) ?_; simp only [Act.put, List.setIfInBounds_toArray, List.set_cons_zero, List.set_cons_succ])
    | (refine ms_free rfl (fun kk xx => y_run rfl (by intro w h; go_simp; first | done | rfl)) ?_; simp only [Act.put, List.setIfInBounds_toArray, List.set_cons_zero, List.set_cons_succ])
    | (refine ms_free rfl (fun kk xx => y_call rfl (by intro w h; go_simp; first | done | exact ⟨rfl, rfl⟩) (by intro w h; apply cls_call h; (first | exact place_x _ _ p _ cs m.bytes m.next c.n i HPI.out h.1 (fun w' h => stkAt_of (own_drop (HSUB.out _ _ _ h))) HK.out HNI.out _ rfl | exact place_x _ _ p _ cs m.bytes m.next d.n k HPK.out h.1 (fun w' h => stkAt_of (own_drop (HSUB.out _ _ _ h))) HK.out HNK.out _ rfl))) ?_; simp only [Act.put, List.setIfInBounds_toArray, List.set_cons_zero, List.set_cons_succ]))
  refine ms_nil ?_
  simp only [List.drop_succ_cons, List.drop_zero]
  intro w5 h5
  refine own_alloc (T := 3) (cs := #[.int .i64 0]) rfl rfl zero_i64 rfl h5.1 ?_
  intro bk w6 hO6 hS6
  refine wpList_nil ⟨bk, ⟨hO6, h5.2.trans hS6⟩, ?_⟩
  clear hO hO6 hS6 h5
  simp only [Act.put, List.setIfInBounds_toArray, List.set_cons_zero, List.set_cons_succ]
  intro w7 h7
  refine ev (v := .int .i64 i) (w1 := w7) rfl (by go_simp; first | done | exact ⟨rfl, rfl⟩ | rfl) ?_
  refine wpList_nil ⟨bk, h7, ?_⟩
  clear h7
  simp only [Act.put, List.setIfInBounds_toArray, List.set_cons_zero, List.set_cons_succ]
  intro w8 h8
  refine own_store1 (k := 0) (b := bk) (off := 0) (cs := #[.int .i64 0]) (cs' := #[.int .i64 k]) rfl rfl rfl rfl sz_i64 h8.1 rfl rfl (by simp) rfl ?_
  intro w9 hO9 hS9
  refine wpList_nil ⟨bk, ⟨hO9, h8.2.trans hS9⟩, ?_⟩
  clear hO9 hS9 h8
  simp only [Act.put, List.setIfInBounds_toArray, List.set_cons_zero, List.set_cons_succ]
  intro w10 ⟨hO, hS10⟩
  have hO : Own w10 (pts bk (.cells #[.int .i64 k] 3) :: pts bs (.cells #[.pointer (some ⟨p, 0, none⟩)] 25) :: (stkL p (.slice (some ad) cs.length cap) cs m.bytes m.next ++ L)) := hO
  simp only [Exit.then]
  clear HSUB
  go_upto_region 8 with (first | (refine own_load1 (b := bk) (off := 0) (cs := #[.int .i64 k]) (t := 3) (v := .int .i64 k) rfl rfl rfl row_int (own_get 0 hO rfl) rfl ?_))
  clear f1 f2 f3 hik hkl
  have HSUB : Hid (∀ (kq b : Nat) w', Own w' (nwL (pts bk (.cells #[.int .i64 k] 3) :: pts bs (.cells #[.pointer (some ⟨p, 0, none⟩)] 25) :: (stkL p (.slice (some ad) cs.length cap) cs m.bytes m.next ++ L)) 68 #[.pointer none] #[.pointer (some ⟨c.a, 0, none⟩)] kq b) → Own w' (pts bk (.cells #[.int .i64 k] 3) :: pts bs (.cells #[.pointer (some ⟨p, 0, none⟩)] 25) :: (stkL p (.slice (some ad) cs.length cap) cs m.bytes m.next ++ L))) := fun kq b w' h => nwL_sub h
  refine wp_region_mixS (α := Nat) (fun kq xq => Cls w10 ((nwL (pts bk (.cells #[.int .i64 k] 3) :: pts bs (.cells #[.pointer (some ⟨p, 0, none⟩)] 25) :: (stkL p (.slice (some ad) cs.length cap) cs m.bytes m.next ++ L)) 68 #[.pointer none] #[.pointer (some ⟨c.a, 0, none⟩)]) kq xq)) 0 14 96 (List.range 14) mixed (by kernel_rfl) rfl (cls_drew hO) (fun _ _ _ _ hd h => ⟨hd ▸ h.1, h.2⟩) ?_
  simp only [List.append_eq, List.cons_append, List.nil_append, List.take_succ_cons, List.take_zero]
  repeat (first
    | (refine ms_free rfl (fun kk xx => y_skip rfl) ?_; simp only [Act.put, List.setIfInBounds_toArray, List.set_cons_zero, List.set_cons_succ])
    | (refine ms_free rfl (fun kk xx => y_load1 (b := bs) (off := 0) (cs := #[.pointer (some ⟨p, 0, none⟩)]) (t := 25) (v := .pointer (some ⟨p, 0, none⟩)) rfl rfl rfl row_sptr (fun w h => own_get 1 (HSUB.out _ _ _ h.1) rfl) rfl) ?_; simp only [Act.put, List.setIfInBounds_toArray, List.set_cons_zero, List.set_cons_succ])
    | (refine ms_free rfl (fun kk xx => y_load1 (b := p) (off := 32) (cs := srow m.bytes (.slice (some ad) cs.length cap) m.next) (t := 72) (v := .slice (some ad) cs.length cap) rfl rfl rfl row_cells (fun w h => own_get 2 (HSUB.out _ _ _ h.1) rfl) (srow_v _ _ _ HB.out)) ?_; simp only [Act.put, List.setIfInBounds_toArray, List.set_cons_zero, List.set_cons_succ])
    | (refine ms_free rfl (fun kk xx => y_load1 (b := bk) (off := 0) (cs := #[.int .i64 k]) (t := 3) (v := .int .i64 k) rfl rfl rfl row_int (fun w h => own_get 0 (HSUB.out _ _ _ h.1) rfl) rfl) ?_; simp only [Act.put, List.setIfInBounds_toArray, List.set_cons_zero, List.set_cons_succ])
    | (refine ms_free rfl (fun kk xx => y_load1_at (ad := ad.add i) rfl rfl rfl row_ptr (fun w h => (HCI.out _ _ (own_drop (own_drop (HSUB.out _ _ _ h.1)))).1)) ?_; simp only [Act.put, List.setIfInBounds_toArray, List.set_cons_zero, List.set_cons_succ])
    | (refine ms_free rfl (fun kk xx => y_load1_at (ad := ad.add k) rfl rfl rfl row_ptr (fun w h => (HCI.out _ _ (own_drop (own_drop (HSUB.out _ _ _ h.1)))).2.1)) ?_; simp only [Act.put, List.setIfInBounds_toArray, List.set_cons_zero, List.set_cons_succ])
    | (refine ms_free rfl (fun kk xx => y_run rfl (by intro w h; go_simp; first | done | rfl)) ?_; simp only [Act.put, List.setIfInBounds_toArray, List.set_cons_zero, List.set_cons_succ])
    | (refine ms_free rfl (fun kk xx => y_call rfl (by intro w h; go_simp; first | done | exact ⟨rfl, rfl⟩) (by intro w h; apply cls_call h; fail)) ?_; simp only [Act.put, List.setIfInBounds_toArray, List.set_cons_zero, List.set_cons_succ]))
  refine ms_nil ?_
  simp only [List.drop_succ_cons, List.drop_zero]
  intro w11 h11
  refine own_alloc (T := 68) (cs := #[.pointer none]) rfl rfl zero_cptr rfl h11.1 ?_
  intro bl w12 hO12 hS12
  refine wpList_nil ⟨bl, ⟨hO12, h11.2.trans hS12⟩, ?_⟩
  clear hO hO12 hS12 h11
  simp only [Act.put, List.setIfInBounds_toArray, List.set_cons_zero, List.set_cons_succ]
  intro w13 h13
  refine own_store1 (k := 0) (b := bl) (off := 0) (cs := #[.pointer none]) (cs' := #[.pointer (some ⟨c.a, 0, none⟩)]) rfl rfl rfl rfl sz_ptr h13.1 rfl rfl (by simp) rfl ?_
  intro w14 hO14 hS14
  refine wpList_nil ⟨bl, ⟨hO14, h13.2.trans hS14⟩, ?_⟩
  clear hO14 hS14 h13
  simp only [Act.put, List.setIfInBounds_toArray, List.set_cons_zero, List.set_cons_succ]
  intro w15 h15
  refine ev (v := .pointer (some ⟨d.a, 0, none⟩)) (w1 := w15) rfl (by go_simp; first | done | exact ⟨rfl, rfl⟩ | rfl) ?_
  refine wpList_nil ⟨bl, h15, ?_⟩
  clear h15
  simp only [Act.put, List.setIfInBounds_toArray, List.set_cons_zero, List.set_cons_succ]
  intro w16 ⟨hO, hS16⟩
  have hO : Own w16 (pts bl (.cells #[.pointer (some ⟨c.a, 0, none⟩)] 68) :: pts bk (.cells #[.int .i64 k] 3) :: pts bs (.cells #[.pointer (some ⟨p, 0, none⟩)] 25) :: (stkL p (.slice (some ad) cs.length cap) cs m.bytes m.next ++ L)) := hO
  simp only [Exit.then]
  clear HSUB
  go_upto_region 9 with fail
  refine wp_region_seq (Cls w16 (pts bl (.cells #[.pointer (some ⟨c.a, 0, none⟩)] 68) :: pts bk (.cells #[.int .i64 k] 3) :: pts bs (.cells #[.pointer (some ⟨p, 0, none⟩)] 25) :: (stkL p (.slice (some ad) cs.length cap) cs m.bytes m.next ++ L))) 10 96 mixed (by kernel_rfl) rfl (cls_drew hO) ?_
  simp only [List.append_eq, List.cons_append, List.nil_append, List.take_succ_cons, List.take_zero]
  repeat (first
    | (apply wv_skip rfl; simp only [Act.put, List.setIfInBounds_toArray, List.set_cons_zero, List.set_cons_succ])
    | (refine wv_load1 (b := bs) (cs := #[.pointer (some ⟨p, 0, none⟩)]) (t := 25) (v := .pointer (some ⟨p, 0, none⟩)) rfl rfl rfl row_sptr (fun w h => own_get 2 h.1 rfl) rfl ?_; simp only [Act.put, List.setIfInBounds_toArray, List.set_cons_zero, List.set_cons_succ])
    | (refine wv_load1 (b := p) (cs := srow m.bytes (.slice (some ad) cs.length cap) m.next) (t := 72) (off := 32) (v := .slice (some ad) cs.length cap) rfl rfl rfl row_cells (fun w h => own_get 3 h.1 rfl) (srow_v _ _ _ HB.out) ?_; simp only [Act.put, List.setIfInBounds_toArray, List.set_cons_zero, List.set_cons_succ])
    | (refine wv_load1 (b := bk) (cs := #[.int .i64 k]) (t := 3) (v := .int .i64 k) rfl rfl rfl row_int (fun w h => own_get 1 h.1 rfl) rfl ?_; simp only [Act.put, List.setIfInBounds_toArray, List.set_cons_zero, List.set_cons_succ])
    | (refine wv_slice_mid rfl rfl rfl rfl rfl Try.underlying70 sz_ptr HL1.out.1 HL1.out.2 HAA.out HRR.out HCC.out ?_; simp only [Act.put, List.setIfInBounds_toArray, List.set_cons_zero, List.set_cons_succ])
    | (apply wv_load1 rfl rfl rfl; (first | exact row_int | exact row_str | exact row_bool | exact row_u8 | exact row_bys | exact row_pats | exact row_err); (intro w h; (first | exact own_get 0 h.1 rfl | exact own_get 1 h.1 rfl | exact own_get 2 h.1 rfl | exact own_get 3 h.1 rfl | exact own_get 4 h.1 rfl | exact own_get 5 h.1 rfl | exact own_get 6 h.1 rfl | exact own_get 7 h.1 rfl)); (first | (simp only [List.getElem?_toArray, List.getElem?_cons_succ, List.getElem?_cons_zero]; rfl) | rfl); simp only [Act.put, List.setIfInBounds_toArray, List.set_cons_zero, List.set_cons_succ])
    | (apply wv_loadrow rfl rfl rfl; (first | exact row_pat); exact sz_pat; (intro w h; (first | exact own_get 0 h.1 rfl | exact own_get 1 h.1 rfl | exact own_get 2 h.1 rfl | exact own_get 3 h.1 rfl | exact own_get 4 h.1 rfl | exact own_get 5 h.1 rfl | exact own_get 6 h.1 rfl | exact own_get 7 h.1 rfl)); (focus (simp; done)); (first | (simp only [List.drop_zero, List.drop_succ_cons, List.take_succ_cons, List.take_zero]; rfl) | rfl); simp only [Act.put, List.setIfInBounds_toArray, List.set_cons_zero, List.set_cons_succ])
    | (apply wv_run rfl; (focus (intro w h; go_simp; first | done | rfl)); simp only [Act.put, List.setIfInBounds_toArray, List.set_cons_zero, List.set_cons_succ])
    | (apply wv_call rfl; (focus (intro w; go_simp; first | done | exact ⟨rfl, rfl⟩)); (focus (intro w h; apply cls_call h; fail)); simp only [Act.put, List.setIfInBounds_toArray, List.set_cons_zero, List.set_cons_succ]))
  refine wv_nil ?_
  simp only [List.drop_succ_cons, List.drop_zero]
  intro w17 ⟨hO17, hS17⟩
  clear hO
  go_wp2
  go_loopw [58] (fun j' wr => ∃ j : Nat, j ≤ r ∧ j' = .int .i64 j ∧ Own wr (pts bl (.cells #[.pointer (some ⟨c.a, 0, none⟩)] 68) :: pts bk (.cells #[.int .i64 k] 3) :: pts bs (.cells #[.pointer (some ⟨p, 0, none⟩)] 25) :: (stkL p (.slice (some ad) cs.length cap) cs m.bytes m.next ++ L)) ∧ Same w16 wr) (fun j' _ => r - (intOf j').toNat)
  case atStart => exact ⟨0, Nat.zero_le _, rfl, hO17, hS17⟩
  case round =>
    clear hO17 hS17
    obtain ⟨j, hj, rfl, hO, hS⟩ := hrel
    by_cases hlt : j < r
    · obtain ⟨e, he⟩ : ∃ e, cs[i1 + j]? = some e := ⟨_, List.getElem?_eq_getElem (by have := HIK.out; have := HRR.out; omega)⟩
      have HE := Lib.hid he
      have hA2 : A' = some (ad.add i1) := by
        rw [← HAA.out, if_neg (by have := HIK.out; have := HRR.out; omega)]; rfl
      subst hA2
      have hcell : wr.cell? ((ad.add i1).add j) = some (.pointer (some ⟨e.a, 0, none⟩)) := by
        rw [addr_add]
        exact ((HCI.out _ _ (own_drop (own_drop (own_drop hO)))).2.2 _ e he).1
      have HMM := Lib.hid (HMID.out (i1 + j) e (by have := HI1.out; omega) (by have := HRR.out; omega) he)
      have hj1 : (j : Int) < r := by omega
      clear he
      go_wp2_with (first | (refine own_load1 (b := bl) (off := 0) (cs := #[.pointer (some ⟨c.a, 0, none⟩)]) (t := 68) (v := .pointer (some ⟨c.a, 0, none⟩)) rfl rfl rfl row_ptr (own_get 0 hO rfl) rfl ?_) | (go_at_call 35; (with_reducible refine (meets_v _ _ e c false HMM.out.1 hO ?_ ?_ ?_ ?_).mono ?_); (exact fun w' h => ((HCI.out _ _ (own_drop (own_drop (own_drop h)))).2.2 _ _ HE.out).2); (exact HRT.out _ (List.mem_of_getElem? HE.out)); (exact fun w' h => ((HCI.out _ _ (own_drop (own_drop (own_drop h)))).2.2 _ _ HC.out).2); (exact HRT.out _ (List.mem_of_getElem? HC.out)); clear hO hcell; rintro e6 w18 ⟨rfl, hO, hS18⟩) | (go_at_call 35; (with_reducible refine (meets_v _ _ e d false HMM.out.2 hO ?_ ?_ ?_ ?_).mono ?_); (exact fun w' h => ((HCI.out _ _ (own_drop (own_drop (own_drop h)))).2.2 _ _ HE.out).2); (exact HRT.out _ (List.mem_of_getElem? HE.out)); (exact fun w' h => ((HCI.out _ _ (own_drop (own_drop (own_drop h)))).2.2 _ _ HD.out).2); (exact HRT.out _ (List.mem_of_getElem? HD.out)); clear hO; rintro e7 w19 ⟨rfl, hO, hS19⟩))
      go_roundw
      case rel => exact ⟨j + 1, by omega, by go_num, hO, hS.trans (hS18.trans hS19)⟩
      case measure => simp [intOf]; omega
    · have hje : j = r := by omega
      subst hje
      go_upto_region 17 with (first | (refine own_loadrow (b := d.a) (off := 0) (cs := d.row) (t := 67) (vs := [.int .i64 d.p.blk, .int .i64 d.p.off, .string d.p.dat]) rfl rfl rfl row_pat sz_pat ((HCI.out _ _ (own_drop (own_drop (own_drop hO)))).2.2 _ _ HD.out).2 (by simp [Cl.row]) rfl ?_) | (refine own_alloc (T := 33) rfl rfl zero_pat rfl hO ?_; clear hO; intro bp w20 hO hS20) | (refine own_store_all (k := 0) rfl rfl rfl rfl sz_pat hO rfl rfl rfl rfl ?_; clear hO; intro w21 hO hS21; simp only [List.set_cons_zero] at hO) | (refine own_load1 (b := bl) (off := 0) (cs := #[.pointer (some ⟨c.a, 0, none⟩)]) (t := 68) (v := .pointer (some ⟨c.a, 0, none⟩)) rfl rfl rfl row_ptr (own_get 1 hO rfl) rfl ?_) | (refine own_load1 (b := c.a) (off := 0) (cs := c.row) (t := 67) (v := .int .i64 c.p.blk) rfl rfl rfl row_int ((HCI.out _ _ (own_drop (own_drop (own_drop (own_drop hO))))).2.2 _ _ HC.out).2 rfl ?_) | (refine own_store1 (k := 0) (b := bp) (off := 0) (cs' := patV ⟨c.p.blk, d.p.off, d.p.dat⟩) rfl rfl rfl rfl sz_i64 hO rfl rfl (by simp) rfl ?_; clear hO; intro w22 hO hS22; simp only [List.set_cons_zero] at hO))
      have hO : Own w22 (pts bp (.cells (patV ⟨c.p.blk, d.p.off, d.p.dat⟩) 33) :: pts bl (.cells #[.pointer (some ⟨c.a, 0, none⟩)] 68) :: pts bk (.cells #[.int .i64 k] 3) :: pts bs (.cells #[.pointer (some ⟨p, 0, none⟩)] 25) :: (stkL p (.slice (some ad) cs.length cap) cs m.bytes m.next ++ L)) := hO
      have HSUB : Hid (∀ (kq b : Nat) w', Own w' (nwL (pts bp (.cells (patV ⟨c.p.blk, d.p.off, d.p.dat⟩) 33) :: pts bl (.cells #[.pointer (some ⟨c.a, 0, none⟩)] 68) :: pts bk (.cells #[.int .i64 k] 3) :: pts bs (.cells #[.pointer (some ⟨p, 0, none⟩)] 25) :: (stkL p (.slice (some ad) cs.length cap) cs m.bytes m.next ++ L)) 33 (patV ⟨0, 0, ⟨#[]⟩⟩) (patV (joinM c.p ⟨c.p.blk, d.p.off, d.p.dat⟩)) kq b) → Own w' (pts bp (.cells (patV ⟨c.p.blk, d.p.off, d.p.dat⟩) 33) :: pts bl (.cells #[.pointer (some ⟨c.a, 0, none⟩)] 68) :: pts bk (.cells #[.int .i64 k] 3) :: pts bs (.cells #[.pointer (some ⟨p, 0, none⟩)] 25) :: (stkL p (.slice (some ad) cs.length cap) cs m.bytes m.next ++ L))) := fun kq b w' h => nwL_sub h
      refine wp_region_mixS (α := Nat) (fun kq xq => Cls w22 ((nwL (pts bp (.cells (patV ⟨c.p.blk, d.p.off, d.p.dat⟩) 33) :: pts bl (.cells #[.pointer (some ⟨c.a, 0, none⟩)] 68) :: pts bk (.cells #[.int .i64 k] 3) :: pts bs (.cells #[.pointer (some ⟨p, 0, none⟩)] 25) :: (stkL p (.slice (some ad) cs.length cap) cs m.bytes m.next ++ L)) 33 (patV ⟨0, 0, ⟨#[]⟩⟩) (patV (joinM c.p ⟨c.p.blk, d.p.off, d.p.dat⟩))) kq xq)) 0 9 96 (List.range 9) mixed (by kernel_rfl) rfl (cls_drew hO) (fun _ _ _ _ hd h => ⟨hd ▸ h.1, h.2⟩) ?_
      simp only [List.append_eq, List.cons_append, List.nil_append, List.take_succ_cons, List.take_zero]
      repeat (first
        | (refine ms_free rfl (fun kk xx => y_skip rfl) ?_; simp only [Act.put, List.setIfInBounds_toArray, List.set_cons_zero, List.set_cons_succ])
        | (refine ms_free rfl (fun kk xx => y_load1 (b := bl) (off := 0) (cs := #[.pointer (some ⟨c.a, 0, none⟩)]) (t := 68) (v := .pointer (some ⟨c.a, 0, none⟩)) rfl rfl rfl row_ptr (fun w h => own_get 1 (HSUB.out _ _ _ h.1) rfl) rfl) ?_; simp only [Act.put, List.setIfInBounds_toArray, List.set_cons_zero, List.set_cons_succ])
        | (refine ms_free rfl (fun kk xx => y_loadrow (b := c.a) (off := 0) (cs := c.row) (t := 67) (vs := [.int .i64 c.p.blk, .int .i64 c.p.off, .string c.p.dat]) rfl rfl rfl row_pat sz_pat (fun w h => ((HCI.out _ _ (own_drop (own_drop (own_drop (own_drop (HSUB.out _ _ _ h.1)))))).2.2 _ _ HC.out).2) (by simp [Cl.row]) rfl) ?_; simp only [Act.put, List.setIfInBounds_toArray, List.set_cons_zero, List.set_cons_succ])
        | (refine ms_free rfl (fun kk xx => y_loadrow (b := bp) (off := 0) (cs := patV ⟨c.p.blk, d.p.off, d.p.dat⟩) (t := 33) (vs := [.int .i64 c.p.blk, .int .i64 d.p.off, .string d.p.dat]) rfl rfl rfl row_pat sz_pat (fun w h => own_get 0 (HSUB.out _ _ _ h.1) rfl) (by simp [patV]) rfl) ?_; simp only [Act.put, List.setIfInBounds_toArray, List.set_cons_zero, List.set_cons_succ])
        | (refine ms_free rfl (fun kk xx => y_run rfl (by intro w h; go_simp; first | done | rfl)) ?_; simp only [Act.put, List.setIfInBounds_toArray, List.set_cons_zero, List.set_cons_succ])
        | (refine ms_free rfl (fun kk xx => y_call rfl (by intro w h; go_simp; first | done | exact ⟨rfl, rfl⟩) (by intro w h; apply cls_call h; exact join_ok _ _ c.p.blk c.p.off c.p.blk d.p.off c.p.dat d.p.dat h.1 HJ.out)) ?_; simp only [Act.put, List.setIfInBounds_toArray, List.set_cons_zero, List.set_cons_succ]))
      refine ms_nil ?_
      simp only [List.drop_succ_cons, List.drop_zero]
      intro w23 h23
      refine own_alloc (T := 33) (cs := patV ⟨0, 0, ⟨#[]⟩⟩) rfl rfl zero_pat rfl h23.1 ?_
      intro bj w24 hO24 hS24
      refine wpList_nil ⟨bj, ⟨hO24, h23.2.trans hS24⟩, ?_⟩
      clear hO hO24 hS24 h23
      simp only [Act.put, List.setIfInBounds_toArray, List.set_cons_zero, List.set_cons_succ]
      intro w25 h25
      refine own_store_all (k := 0) (b := bj) (cs := patV ⟨0, 0, ⟨#[]⟩⟩) (vs := patV (joinM c.p ⟨c.p.blk, d.p.off, d.p.dat⟩)) rfl rfl rfl rfl sz_pat h25.1 rfl rfl rfl rfl ?_
      intro w26 hO26 hS26
      refine wpList_nil ⟨bj, ⟨hO26, h25.2.trans hS26⟩, ?_⟩
      clear hO26 hS26 h25
      simp only [Act.put, List.setIfInBounds_toArray, List.set_cons_zero, List.set_cons_succ]
      intro w27 h27
      refine ev (v := .bool true) (w1 := w27) rfl (by go_simp; first | done | exact ⟨rfl, rfl⟩ | rfl) ?_
      refine wpList_nil ⟨bj, h27, ?_⟩
      clear h27
      simp only [Act.put, List.setIfInBounds_toArray, List.set_cons_zero, List.set_cons_succ]
      intro w28 ⟨hO, hS28⟩
      have hO : Own w28 (pts bj (.cells (patV (joinM c.p ⟨c.p.blk, d.p.off, d.p.dat⟩)) 33) :: pts bp (.cells (patV ⟨c.p.blk, d.p.off, d.p.dat⟩) 33) :: pts bl (.cells #[.pointer (some ⟨c.a, 0, none⟩)] 68) :: pts bk (.cells #[.int .i64 k] 3) :: pts bs (.cells #[.pointer (some ⟨p, 0, none⟩)] 25) :: (stkL p (.slice (some ad) cs.length cap) cs m.bytes m.next ++ L)) := hO
      simp only [Exit.then]
      clear HSUB
      have hmf := HMF.out
      go_wp2_with (first | (refine own_load1 (b := bs) (off := 0) (cs := #[.pointer (some ⟨p, 0, none⟩)]) (t := 25) (v := .pointer (some ⟨p, 0, none⟩)) rfl rfl rfl row_sptr (own_get 4 hO rfl) rfl ?_) | (go_at_call 37; (with_reducible refine (squash_bare _ L p bj bl bs bk i k (.slice (some ad) cs.length cap) cs m.base m.next (joinM c.p ⟨c.p.blk, d.p.off, d.p.dat⟩) c HPP.out HC.out HIK.out.1 HIK.out.2.1 ?_ ?_).mono ?_); (exact HQR.out); (rw [← HBY.out]; exact sq_sub hO); clear hO; rintro e9 w29 ⟨⟨v', cs'⟩, rfl, hO, hS29⟩))
      go_ret
      refine ⟨rfl, ?_, hS1.trans (hS10.trans (hS16.trans (hS.trans (hS20.trans (hS21.trans (hS22.trans (hS28.trans hS29)))))))⟩
      rw [own_pur] at hO
      have hon : cs'.map Cl.on = (m.squashed i k c.n (joinM c.p ⟨c.p.blk, d.p.off, d.p.dat⟩)).l := by
        rw [hO.1.1, ← map_erase, List.map_set, HREP.out.on]; rfl
      have hpt : (m.squashed i k c.n (joinM c.p ⟨c.p.blk, d.p.off, d.p.dat⟩)).pats = ((cs.set i (c.with (joinM c.p ⟨c.p.blk, d.p.off, d.p.dat⟩))).eraseIdx k).map Cl.p := by
        unfold Stk.pats
        rw [← hon, hO.1.1, List.map_map]; rfl
      refine stk_open.2 ⟨v', cs', ⟨hon, ?_⟩, ?_⟩
      · rw [hO.1.2, ← hpt]; rfl
      · have hby : (m.squashed i k c.n (joinM c.p ⟨c.p.blk, d.p.off, d.p.dat⟩)).bytes = appAll m.base (((cs.set i (c.with (joinM c.p ⟨c.p.blk, d.p.off, d.p.dat⟩))).eraseIdx k).map Cl.p) := by
          unfold Stk.bytes
          rw [hpt]; rfl
        rw [show (m.squashed i k c.on.n (joinM c.on.p ⟨c.on.p.blk, d.on.p.off, d.on.p.dat⟩)).bytes = (m.squashed i k c.n (joinM c.p ⟨c.p.blk, d.p.off, d.p.dat⟩)).bytes from rfl, hby]
        exact hO.2
end
end Go.Proofs.Ytdcbfdepkbplbaa.H
set_option linter.unusedVariables false
set_option linter.unusedSimpArgs false
set_option maxRecDepth 100000
namespace Go.Proofs.Ytdcbfdepkbplbaa.H
open Go.RowKit
section
variable (w : World) (L : List HP) (p : Nat) (m : Stk)
theorem bytes_m (hO : Own w (stk p m :: L)) (hk : m.Ok) :
    Calls Try.prog 19 #[.pointer (some ⟨p, 0, none⟩)] w (RetX w (fun x => x) (fun x => owns 5 1 x m.bytes.length (bcs m.bytes) :: stk p m :: L)) := by
  obtain ⟨v, cs, hrep, hO⟩ := stk_open.1 hO
  refine (bytes_c w _ p v cs m.bytes m.next hO (fun w' h => stkAt_of h) (hrep.csok hk).byt).mono ?_
  rintro e w' ⟨x, rfl, hO', hS⟩
  exact ⟨x, rfl, own_perm (stk_open.2 ⟨v, cs, hrep, own_perm hO' (List.perm_middle.symm)⟩) (List.Perm.swap _ _ _), hS⟩
theorem get_m (i : Nat) (o : On) (hO : Own w (stk p m :: L)) (hk : m.Ok) (ho : m.l[i]? = some o) :
    Calls Try.prog 14 #[.pointer (some ⟨p, 0, none⟩), .int .i64 o.n] w (Ret w (.tuple #[.agg #[.int .i64 o.p.blk, .int .i64 o.p.off, .string o.p.dat], .bool true]) (stk p m :: L)) := by
  obtain ⟨v, cs, hrep, hO⟩ := stk_open.1 hO
  rw [← hrep.on, List.getElem?_map, Option.map_eq_some_iff] at ho
  obtain ⟨c, hc, rfl⟩ := ho
  have hcs := hrep.csok hk
  have hl := hcs.lim c (List.mem_of_getElem? hc)
  refine (get_yes w _ p v cs m.bytes m.next c.n i c hO (fun w' h => stkAt_of h) hcs ⟨by omega, by omega⟩ hc rfl).mono ?_
  rintro e w' ⟨rfl, hO', hS⟩
  exact ⟨rfl, stk_open.2 ⟨v, cs, hrep, hO'⟩, hS⟩
theorem under_m (i : Nat) (o : On) (hO : Own w (stk p m :: L)) (hk : m.Ok) (ho : m.l[i]? = some o) :
    Calls Try.prog 26 #[.pointer (some ⟨p, 0, none⟩), .int .i64 o.n] w (Ret w (.tuple #[.string (bstr (cutP (appAll m.base (m.pats.take i)) o.p)), .int .i64 0]) (stk p m :: L)) := by
  obtain ⟨v, cs, hrep, hO⟩ := stk_open.1 hO
  rw [← hrep.on, List.getElem?_map, Option.map_eq_some_iff] at ho
  obtain ⟨c, hc, rfl⟩ := ho
  have hcs := hrep.csok hk
  have hl := hcs.lim c (List.mem_of_getElem? hc)
  have hu := hrep.und_at hc
  refine (under_yes w _ p v cs m.bytes m.next c.n i c hO (fun w' h => stkAt_of h) hcs ⟨by omega, by omega⟩ hc rfl).mono ?_
  rintro e w' ⟨rfl, hO', hS⟩
  exact ⟨by rw [hu]; rfl, stk_open.2 ⟨v, cs, hrep, hO'⟩, hS⟩
end
def m0 : Stk := ⟨List.replicate 32 0, [], 0⟩
def m1 : Stk := m0.pushed ⟨0, 0, ⟨#[97, 98]⟩⟩
def m2 : Stk := m1.pushed ⟨0, 1, ⟨#[120]⟩⟩
def m3 : Stk := m2.squashed 0 1 0 ⟨0, 0, ⟨#[97, 120]⟩⟩
theorem m0_ok : m0.Ok := ⟨by simp [m0], fun x hx => by simp [m0] at hx, by simp [m0], fun x hx => by simp [m0] at hx, by simp [m0], by simp [m0]⟩
theorem m1_ok : m1.Ok := m0_ok.pushed (by decide) (by simp [m0]) (by simp [m0])
theorem m2_ok : m2.Ok := m1_ok.pushed (by decide) (by simp [m1, m0, Stk.pushed]) (by simp [m1, m0, Stk.pushed])
theorem m3_l : m3.l = [⟨0, ⟨0, 0, ⟨#[97, 120]⟩⟩⟩] := rfl
theorem m3_ok : m3.Ok := ⟨by simp [m3, Stk.squashed, m2, m1, m0, Stk.pushed], fun x hx => by rw [m3_l] at hx; simp at hx; subst hx; decide, by rw [m3_l]; simp, fun x hx => by rw [m3_l] at hx; simp at hx; subst hx; decide, by rw [m3_l]; simp, by simp [m3, Stk.squashed, m2, m1, m0, Stk.pushed]⟩
theorem m3_bytes : m3.bytes = [97, 120] ++ List.replicate 30 0 := by decide
theorem m2_join : (joinM ⟨0, 0, ⟨#[97, 98]⟩⟩ ⟨0, 1, ⟨#[120]⟩⟩) = ⟨0, 0, ⟨#[97, 120]⟩⟩ := by rfl
theorem m2_und : bstr (cutP (appAll m2.base (m2.pats.take 1)) ⟨0, 1, ⟨#[120]⟩⟩) = ⟨#[98]⟩ := by rfl
end Go.Proofs.Ytdcbfdepkbplbaa.H
set_option linter.unusedVariables false
set_option linter.unusedSimpArgs false
set_option maxRecDepth 100000
namespace Go.Proofs.Ytdcbfdepkbplbaa.H
open Go.RowKit
section
variable (w : World) (L : List HP) (p : Nat)
theorem lv_push0 (hO : Own w (stk p m0 :: L)) :
    Calls Try.prog 25 #[.pointer (some ⟨p, 0, none⟩), .agg #[.int .i64 0, .int .i64 0, .string ⟨#[97, 98]⟩]] w (Ret w (.tuple #[.int .i64 0, .int .i64 0]) (stk p m1 :: L)) :=
  push_ok w L p m0 0 0 ⟨#[97, 98]⟩ hO m0_ok (by decide) (by decide) (by decide)
theorem lv_push1 (hO : Own w (stk p m1 :: L)) :
    Calls Try.prog 25 #[.pointer (some ⟨p, 0, none⟩), .agg #[.int .i64 0, .int .i64 1, .string ⟨#[120]⟩]] w (Ret w (.tuple #[.int .i64 1, .int .i64 0]) (stk p m2 :: L)) :=
  push_ok w L p m1 0 1 ⟨#[120]⟩ hO m1_ok (by decide) (by decide) (by decide)
theorem lv_under (hO : Own w (stk p m2 :: L)) :
    Calls Try.prog 26 #[.pointer (some ⟨p, 0, none⟩), .int .i64 1] w (Ret w (.tuple #[.string ⟨#[98]⟩, .int .i64 0]) (stk p m2 :: L)) := by
  have h := under_m w L p m2 1 ⟨1, ⟨0, 1, ⟨#[120]⟩⟩⟩ hO m2_ok rfl
  rw [show (On.mk 1 ⟨0, 1, ⟨#[120]⟩⟩).p = ⟨0, 1, ⟨#[120]⟩⟩ from rfl, m2_und] at h
  exact h
theorem lv_squash (hO : Own w (stk p m2 :: L)) :
    Calls Try.prog 21 #[.pointer (some ⟨p, 0, none⟩), .int .i64 0, .int .i64 1] w (Ret w (.int .i64 0) (stk p m3 :: L)) := by
  have h := squash_ok w L p m2 0 1 ⟨0, ⟨0, 0, ⟨#[97, 98]⟩⟩⟩ ⟨1, ⟨0, 1, ⟨#[120]⟩⟩⟩ hO m2_ok rfl rfl (by decide) (fun t c h1 h2 => by omega) (by decide)
  rw [show (On.mk 0 ⟨0, 0, ⟨#[97, 98]⟩⟩).p = ⟨0, 0, ⟨#[97, 98]⟩⟩ from rfl, show (⟨(⟨0, 0, ⟨#[97, 98]⟩⟩ : Pat).blk, (On.mk 1 ⟨0, 1, ⟨#[120]⟩⟩).p.off, (On.mk 1 ⟨0, 1, ⟨#[120]⟩⟩).p.dat⟩ : Pat) = ⟨0, 1, ⟨#[120]⟩⟩ from rfl, m2_join] at h
  exact h
theorem lv_get (hO : Own w (stk p m3 :: L)) :
    Calls Try.prog 14 #[.pointer (some ⟨p, 0, none⟩), .int .i64 0] w (Ret w (.tuple #[.agg #[.int .i64 0, .int .i64 0, .string ⟨#[97, 120]⟩], .bool true]) (stk p m3 :: L)) :=
  get_m w L p m3 0 ⟨0, ⟨0, 0, ⟨#[97, 120]⟩⟩⟩ hO m3_ok rfl
theorem lv_bytes (hO : Own w (stk p m3 :: L)) :
    Calls Try.prog 19 #[.pointer (some ⟨p, 0, none⟩)] w (RetX w (fun x : Nat × Nat × Nat × List Value => .slice (some ⟨x.1, 0, none⟩) x.2.2.1 x.2.1) (fun x => pur (1 < x.2.2.1) :: pts x.1 (.cells (bcs ([97, 120] ++ List.replicate 30 0) ++ x.2.2.2).toArray 5) :: stk p m3 :: L)) := by
  refine (bytes_m w L p m3 hO m3_ok).mono ?_
  rintro e w' ⟨x, rfl, hO', hS⟩
  rw [m3_bytes] at hO'
  have hne : x ≠ .slice none 0 0 := by
    rintro rfl
    have := (owns_row hO').1
    obtain ⟨_, hr⟩ := owns_row hO'
    rcases hr with ⟨_, h0⟩ | ⟨g, cap, cur, h0, _⟩
    · simp [bcs] at h0
    · cases h0
  obtain ⟨g, cap, rest, rfl, h1, h2, h3, h4, h5⟩ := owns_open hO' hne
  exact ⟨(g, cap, 32, rest), rfl, own_pur.2 ⟨by simp, h5⟩, hS⟩
end
theorem live_c (w : World) (L : List HP) (hO : Own w L) : Calls Try.prog 12 #[] w (Ret w (.bool true) L) := by
  have hcell : ∀ r : List Value, (bcs ([97, 120] ++ List.replicate 30 0) ++ r).toArray[1]? = some (.int .u8 120) := fun r => by rfl
  have HC := Lib.hid hcell
  clear hcell
  go_enter Try.func12, Try.ntmps12
  go_wp2_with (first | (at_make; refine own_make (n := 32) rfl rfl rfl rfl Try.underlying22 info_u8 (by decide) (by decide) (made_bytes 32) hO ?_; clear hO; intro g w1 hO hS1) | (go_at_call 31; refine (new_c _ _ _ (List.replicate 32 0) hO (fun w' h => ?_) rfl).mono ?_; (exact rd_block (own_get 0 h rfl) (List.take_of_length_le (by simp [bcs_length])) (by simp [bcs_length]) (by simp) (by simp)); clear hO; rintro e w2 ⟨p, rfl, hO, hS2⟩) | (go_at_call 25; (with_reducible refine (lv_push0 _ _ p hO).mono ?_); clear hO; rintro e3 w3 ⟨rfl, hO, hS3⟩) | (go_at_call 25; (with_reducible refine (lv_push1 _ _ p hO).mono ?_); clear hO; rintro e4 w4 ⟨rfl, hO, hS4⟩) | (go_at_call 26; refine (lv_under _ _ p hO).mono ?_; clear hO; rintro e5 w5 ⟨rfl, hO, hS5⟩) | (go_at_call 21; refine (lv_squash _ _ p hO).mono ?_; clear hO; rintro e6 w6 ⟨rfl, hO, hS6⟩) | (go_at_call 14; refine (lv_get _ _ p hO).mono ?_; clear hO; rintro e7 w7 ⟨rfl, hO, hS7⟩) | (refine own_alloc (T := 33) rfl rfl zero_pat rfl hO ?_; clear hO; intro h w8 hO hS8) | (refine own_store_all (k := 0) rfl rfl rfl rfl sz_pat hO rfl rfl rfl rfl ?_; clear hO; intro w9 hO hS9; simp only [List.set_cons_zero] at hO) | (go_at_call 19; refine (lv_bytes _ _ p (own_perm hO (List.Perm.swap _ _ _))).mono ?_; clear hO; rintro e10 w10 ⟨⟨x, cap, n, rest⟩, rfl, hO, hS10⟩; rw [own_pur] at hO; have hn := hO.1; replace hO := hO.2; simp only at hn hO ⊢) | (refine own_load1 (b := h) (off := 2) (cs := #[.int .i64 0, .int .i64 0, .string ⟨#[97, 120]⟩]) (t := 33) (v := .string ⟨#[97, 120]⟩) rfl rfl rfl row_str (own_get 0 hO rfl) rfl ?_) | (refine own_load1 (b := x) (off := 1) (t := 5) (v := .int .u8 120) rfl rfl rfl row_u8 (own_get 0 hO rfl) (HC.out rest) ?_) | (apply own_loadrow rfl rfl rfl; (first | exact row_pat); exact sz_pat; (first | exact own_get 0 hO rfl | exact own_get 1 hO rfl | exact own_get 2 hO rfl | exact own_get 3 hO rfl | exact own_get 4 hO rfl | exact own_get 5 hO rfl | exact own_get 6 hO rfl | exact own_get 7 hO rfl); (focus (simp; done)); (first | (simp only [List.drop_zero, List.drop_succ_cons, List.take_succ_cons, List.take_zero]; rfl) | rfl)))
  go_ret
  exact ⟨rfl, own_drop (own_drop (own_drop (own_drop hO))), hS1.trans (hS2.trans (hS3.trans (hS4.trans (hS5.trans (hS6.trans (hS7.trans (hS8.trans (hS9.trans hS10))))))))⟩
end Go.Proofs.Ytdcbfdepkbplbaa.H
set_option linter.unusedVariables false
set_option linter.unusedSimpArgs false
namespace Go.Proofs.Ytdcbfdepkbplbaa.H
open Go.RowKit
theorem wpList_seq {P : Program} {ops : Array Oper} {Q : Exit → Act → World → Prop} {l : List Oper} {a : Act} {w : World} (C : World → Prop) (n : Nat) (hC : C w)
    (h : wpVals P ops C (fun aF => ∀ w, C w → wpList P ops Q (l.drop n) aF w) (l.take n) a) : wpList P ops Q l a w := by
  have := wpList_of_vals hC h
  rwa [List.take_append_drop] at this
end Go.Proofs.Ytdcbfdepkbplbaa.H
