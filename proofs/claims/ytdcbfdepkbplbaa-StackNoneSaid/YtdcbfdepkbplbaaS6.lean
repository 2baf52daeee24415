/- What bare defers: all cells from a place on are laid again. -/
import Derived.Test.YtdcbfdepkbplbaaS5
import Derived.Defers
set_option linter.unusedVariables false
set_option linter.unusedSimpArgs false
set_option maxRecDepth 100000
namespace Go.Proofs.Ytdcbfdepkbplbaa.H
open Go.RowKit
theorem rd_from {w : World} {A A' : Option Addr} {n c m : Nat} {xs : List Value} (h : Rd w 1 (.slice A n c) n xs) (hm : m ≤ n) (hA : (if c = m then A else A.map (·.add m)) = A') : Rd w 1 (.slice A' (n - m) (c - m)) (n - m) (xs.drop m) := by
  have hx := h.max
  by_cases e : c = m
  · rw [if_pos e] at hA
    subst hA
    have hl := h.out.1
    have : xs.drop m = [] := List.drop_eq_nil_of_le (by omega)
    rw [this, show n - m = 0 by omega]
    exact ⟨by simp, A, _, rfl, Nat.zero_le _, by omega, fun j u hu => by simp at hu⟩
  · rw [if_neg e] at hA
    subst hA
    have h2 := h.cut (lo := m) (k := n - m) (c' := c - m) (by omega) (by omega) (by omega)
    rw [Nat.mul_one, Nat.mul_one] at h2
    have hl := h.out.1
    rw [List.take_of_length_le (by rw [List.length_drop]; omega)] at h2
    exact h2
section
variable {P : Program} {ops : Array Oper} {C : World → Prop} {K : Act → Prop}
theorem run_slice_from {w : World} {T e : TypeId} {A A' : Option Addr} {n c m : Nat} (ht : P.underlying T = some (.slice e)) (hs : (P.info? e).map (·.size) = some 1) (hm : m ≤ n) (hc : n ≤ c) (hA : (if c = m then A else A.map (·.add m)) = A') :
    (Instr.slice T (.slice A n c) (some (.int .i64 m)) none none).run P w = .ok (.slice A' (n - m) (c - m)) w := by
  obtain ⟨i, hi, hz⟩ := Option.map_eq_some_iff.1 hs
  subst hA
  have h0 : (0 : Int) ≤ m := by omega
  have h1 : (m : Int) ≤ n := by omega
  have h2 : (n : Int) ≤ c := by omega
  simp [Instr.slice, run_underlying ht, Instr.sliceBounds, run_sliceBound, sizeOf, typeInfo, hi, hz, h0, h1, h2]
theorem wv_slice_from {o : Oper} {ol : List Oper} {a : Act} {T e : TypeId} {x lo : Operand} {A A' : Option Addr} {n c m : Nat} (hw : Region.wanted o (yielded ops a.tmps) = true) (ho : o.op = .slice T x (some lo) none none) (hx : a.eval x = .slice A n c) (hlo : a.eval lo = .int .i64 m)
    (ht : P.underlying T = some (.slice e)) (hs : (P.info? e).map (·.size) = some 1) (hm : m ≤ n) (hc : n ≤ c) (hA : (if c = m then A else A.map (·.add m)) = A') (h : wpVals P ops C K ol (a.put o.dst (.slice A' (n - m) (c - m)))) : wpVals P ops C K (o :: ol) a := by
  refine wv_run hw (fun w hC => ?_) h
  have hr := run_slice_from (P := P) (w := w) ht hs hm hc hA
  simp only [execOp, ho, hx, hlo]
  simp [run_sliceAt_slice, hlo, hr, Instr.sliceAt, run_underlying ht]
end
/-- All but one cell. -/
def restL (v : Value) (n : Nat) (ps : List Value) (cs : List Cl) (j : Nat) (L : List HP) : List HP :=
  owns 68 1 v n ps :: (cellL (cs.take j) ++ (cellL (cs.drop (j + 1)) ++ (undL (cs.take j) ++ (undL (cs.drop (j + 1)) ++ L))))
theorem split_at {cs : List Cl} {j : Nat} {c : Cl} (hc : cs[j]? = some c) : cs = cs.take j ++ c :: cs.drop (j + 1) := by
  obtain ⟨h1, h2⟩ := List.getElem?_eq_some_iff.1 hc
  rw [← h2, ← List.drop_eq_getElem_cons h1, List.take_append_drop]
theorem perm_out {A B x u : HP} {X Y U V L : List HP} : (A :: B :: ((X ++ x :: Y) ++ (U ++ u :: V)) ++ L).Perm (A :: x :: u :: B :: (X ++ (Y ++ (U ++ (V ++ L))))) := by
  simp only [List.cons_append, List.append_assoc]
  refine List.Perm.cons _ ?_
  have h1 : (X ++ x :: (Y ++ (U ++ u :: (V ++ L)))).Perm (x :: u :: (X ++ (Y ++ (U ++ (V ++ L))))) := by
    refine List.perm_middle.trans (List.Perm.cons _ ?_)
    rw [← List.append_assoc, ← List.append_assoc]
    refine List.perm_middle.trans ?_
    simp only [List.append_assoc]
    exact List.Perm.refl _
  refine (h1.cons B).trans ?_
  exact (List.Perm.swap _ _ _).trans ((List.Perm.swap _ _ _).cons _)
theorem cell_out {w : World} {L : List HP} {p : Nat} {v : Value} {cs : List Cl} {byt : List UInt8} {next j : Nat} {c : Cl} (hc : cs[j]? = some c) (h : Own w (stkL p v cs byt next ++ L)) :
    Own w (pts p (.cells (srow byt v next) 72) :: pts c.a (.cells c.row 67) :: owns 5 1 c.u c.und.length (bcs c.und) :: restL v cs.length (cs.map Cl.ptr) cs j L) := by
  have e1 : cellL cs = cellL (cs.take j) ++ pts c.a (.cells c.row 67) :: cellL (cs.drop (j + 1)) := by
    conv => lhs; rw [split_at hc]
    simp [cellL]
  have e2 : undL cs = undL (cs.take j) ++ owns 5 1 c.u c.und.length (bcs c.und) :: undL (cs.drop (j + 1)) := by
    conv => lhs; rw [split_at hc]
    simp [undL]
  unfold stkL at h
  rw [e1, e2] at h
  exact own_perm h perm_out
theorem cell_in {w : World} {L : List HP} {p : Nat} {v : Value} {cs : List Cl} {byt : List UInt8} {next j : Nat} {c c' : Cl} (hc : cs[j]? = some c) (ha : c'.a = c.a)
    (h : Own w (pts p (.cells (srow byt v next) 72) :: pts c'.a (.cells c'.row 67) :: owns 5 1 c'.u c'.und.length (bcs c'.und) :: restL v cs.length (cs.map Cl.ptr) cs j L)) :
    Own w (stkL p v (cs.set j c') byt next ++ L) := by
  obtain ⟨h1, h2⟩ := List.getElem?_eq_some_iff.1 hc
  have e0 : cs.set j c' = cs.take j ++ c' :: cs.drop (j + 1) := by rw [List.set_eq_take_append_cons_drop, if_pos h1]
  have e1 : cellL (cs.set j c') = cellL (cs.take j) ++ pts c'.a (.cells c'.row 67) :: cellL (cs.drop (j + 1)) := by
    rw [e0]; simp [cellL]
  have e2 : undL (cs.set j c') = undL (cs.take j) ++ owns 5 1 c'.u c'.und.length (bcs c'.und) :: undL (cs.drop (j + 1)) := by
    rw [e0]; simp [undL]
  have e3 : (cs.set j c').map Cl.ptr = cs.map Cl.ptr := by
    apply List.ext_getElem?
    intro i
    rw [List.getElem?_map, List.getElem?_map, List.getElem?_set]
    by_cases hij : j = i
    · subst hij
      simp [h1, hc, Cl.ptr, ha, ← h2]
    · simp [hij]
  unfold stkL
  rw [e1, e2, e3, List.length_set]
  exact own_perm h perm_out.symm
/-- Cells as they were, but what stands under them. -/
structure Relaid (byt : List UInt8) (m k : Nat) (cs cs' : List Cl) : Prop where
  a : cs'.map Cl.a = cs.map Cl.a
  on : cs'.map Cl.on = cs.map Cl.on
  low : cs'.take m = cs.take m
  und : ((cs'.drop m).take k).map Cl.und = unders byt (((cs.drop m).take k).map Cl.p)
  high : cs'.drop (m + k) = cs.drop (m + k)
theorem Relaid.ptr {byt : List UInt8} {m k : Nat} {cs cs' : List Cl} (h : Relaid byt m k cs cs') : cs'.map Cl.ptr = cs.map Cl.ptr := by
  have e : Cl.ptr = (fun a => Value.pointer (some ⟨a, 0, none⟩)) ∘ Cl.a := rfl
  rw [e, ← List.map_map, ← List.map_map, h.a]
theorem Relaid.length {byt : List UInt8} {m k : Nat} {cs cs' : List Cl} (h : Relaid byt m k cs cs') : cs'.length = cs.length := by
  have := congrArg List.length h.a
  simpa using this
theorem Relaid.at_ {byt : List UInt8} {m k : Nat} {cs cs' : List Cl} (h : Relaid byt m k cs cs') {c : Cl} (hc : cs[m + k]? = some c) : cs'[m + k]? = some c := by
  have := congrArg (fun l => l[0]?) h.high
  simpa [hc] using this
theorem Relaid.next {byt : List UInt8} {m k : Nat} {cs cs' : List Cl} (h : Relaid byt m k cs cs') {c : Cl} (hc : cs[m + k]? = some c) (u : Value) :
    Relaid byt m (k + 1) cs (cs'.set (m + k) (c.laid u (appAll byt (((cs.drop m).take k).map Cl.p)))) := by
  have hl := (List.getElem?_eq_some_iff.1 hc).1
  have hl' : m + k < cs'.length := by rw [h.length]; exact hl
  have hc' := h.at_ hc
  obtain ⟨_, hce⟩ := List.getElem?_eq_some_iff.1 hc'
  have hset : ∀ {β : Type} (f : Cl → β) (d : Cl), f d = f c → (cs'.set (m + k) d).map f = cs'.map f := fun f d hf => by
    apply List.ext_getElem?
    intro i
    rw [List.getElem?_map, List.getElem?_map, List.getElem?_set]
    by_cases hij : m + k = i
    · subst hij
      simp [hl', hf, hce]
    · simp [hij]
  have hd : cs.drop m = (cs.drop m).take k ++ c :: cs.drop (m + k + 1) := by
    have h1 := split_at (cs := cs.drop m) (j := k) (c := c) (by rw [List.getElem?_drop]; exact hc)
    rw [List.drop_drop, show m + (k + 1) = m + k + 1 by omega] at h1
    exact h1
  have hlen : ((cs.drop m).take k).length = k := by rw [List.length_take, List.length_drop]; omega
  have hlen' : ((cs'.drop m).take k).length = k := by rw [List.length_take, List.length_drop]; omega
  refine ⟨(hset Cl.a (c.laid u _) rfl).trans h.a, (hset Cl.on (c.laid u _) rfl).trans h.on, by rw [List.take_set_of_le (by omega), h.low], ?_, by rw [show m + (k + 1) = m + k + 1 by omega, List.drop_set_of_lt (by omega), ← List.drop_drop, h.high, List.drop_drop]⟩
  have e1 : (cs.drop m).take (k + 1) = (cs.drop m).take k ++ [c] := by
    rw [List.take_succ_eq_append_getElem (by rw [List.length_drop]; omega)]
    congr 2
    have : (cs.drop m)[k]? = some c := by rw [List.getElem?_drop]; exact hc
    simpa [List.getElem?_eq_getElem (show k < (cs.drop m).length by rw [List.length_drop]; omega)] using this
  have e2 : ((cs'.set (m + k) (c.laid u (appAll byt (((cs.drop m).take k).map Cl.p)))).drop m).take (k + 1) = (cs'.drop m).take k ++ [c.laid u (appAll byt (((cs.drop m).take k).map Cl.p))] := by
    rw [List.drop_set, if_neg (by omega), show m + k - m = k by omega, List.take_set, List.take_succ_eq_append_getElem (by rw [List.length_drop]; omega), List.set_append_right _ _ (by omega), hlen', Nat.sub_self]
    rfl
  rw [e1, e2, List.map_append, List.map_append, h.und, unders_append]
  rfl
theorem row_sptr : isRowB Try.prog 25 = some false := by kernel_rfl
theorem sz_ptr : (Try.prog.info? 68).map (·.size) = some 1 := by kernel_rfl
theorem appAll_length' {byt : List UInt8} (hb : byt.length = 32) {cs : List Cl} (hr : ∀ c ∈ cs, rightB c.p = true) : (appAll byt (cs.map Cl.p)).length = 32 :=
  appAll_length _ _ hb (fun p hp => by
    obtain ⟨c, hc, rfl⟩ := List.mem_map.1 hp
    exact hr c hc)
theorem own_drop3 {w : World} {A B C D : HP} {L : List HP} (h : Own w (A :: B :: C :: D :: L)) : Own w (A :: B :: C :: L) :=
  own_drop (own_perm h (((List.Perm.swap _ _ _).cons _ |>.cons _).trans (((List.Perm.swap _ _ _).cons _).trans (List.Perm.swap _ _ _))))
theorem lay_at (w : World) (L : List HP) (p : Nat) (v : Value) (cs : List Cl) (byt : List UInt8) (next j : Nat) (c : Cl) (hc : cs[j]? = some c) (hO : Own w (stkL p v cs byt next ++ L)) (hR : rightB c.p = true) (hb : byt.length = 32) :
    Calls Try.prog 54 #[.pointer (some ⟨p, 0, none⟩), .pointer (some ⟨c.a, 0, none⟩)] w
      (RetX w (fun _ => .tuple #[]) (fun u => stkL p v (cs.set j (c.laid u byt)) (app byt c.p) next ++ L)) := by
  refine (lay_c w _ p v byt next c (cell_out hc hO) hR hb).mono ?_
  rintro e w' ⟨u, rfl, hO', hS⟩
  exact ⟨u, rfl, cell_in (c' := c.laid u byt) hc rfl (own_drop3 hO'), hS⟩
theorem own_two_back {w : World} {A B : HP} {S L : List HP} : Own w (A :: B :: (S ++ L)) ↔ Own w (S ++ (A :: B :: L)) :=
  ⟨fun h => own_perm h (List.perm_append_comm_assoc [A, B] S L), fun h => own_perm h (List.perm_append_comm_assoc [A, B] S L).symm⟩
set_option maxHeartbeats 1600000 in
theorem relay_w (w : World) (L : List HP) (p bs bi : Nat) (i : Int) (m : Nat) (v : Value) (cs : List Cl) (byt : List UInt8) (next : Nat) (hO : Own w (pts bs (.cells #[.pointer (some ⟨p, 0, none⟩)] 25) :: pts bi (.cells #[.int .i64 i] 3) :: (stkL p v cs byt next ++ L))) (hm : m ≤ cs.length) (hlen : cs.length ≤ 200) (hmin : (if (cs.length : Int) < i then (cs.length : Int) else i) = (m : Int)) (hb : byt.length = 32) (hr : ∀ c ∈ cs, rightB c.p = true) :
    CallsD Try.prog 63 #[.pointer (some ⟨bs, 0, none⟩), .pointer (some ⟨bi, 0, none⟩)] .returning w
      (fun e u' w' => u' = .returning ∧ RetX w (fun _ => .tuple #[]) (fun cs' => pur (Relaid byt m (cs.length - m) cs cs') :: pts bs (.cells #[.pointer (some ⟨p, 0, none⟩)] 25) :: pts bi (.cells #[.int .i64 i] 3) :: (stkL p v cs' (appAll byt ((cs.drop m).map Cl.p)) next ++ L)) e w') := by
  obtain ⟨A, cap, rfl⟩ := (stkAt_of (own_drop (own_drop hO))).rd.slice
  have hmx := (stkAt_of (own_drop (own_drop hO))).rd.max
  obtain ⟨A', hA'⟩ : ∃ A', (if cap = m then A else A.map (·.add m)) = A' := ⟨_, rfl⟩
  have HA := Lib.hid hA'
  have HB : Hid (byt.length = 32) := hb
  have HR := Lib.hid hr
  have HM : Hid (m ≤ cs.length ∧ cs.length ≤ cap ∧ cap ≤ 9223372036854775807) := ⟨hm, hmx.1, hmx.2⟩
  clear hA' hb hr
  go_enter_d Try.func63, Try.ntmps63
  go_wp2
  refine wp_region_seq (Cls w (pts bs (.cells #[.pointer (some ⟨p, 0, none⟩)] 25) :: pts bi (.cells #[.int .i64 i] 3) :: (stkL p (.slice A cs.length cap) cs byt next ++ L))) 14 25 mixed (by kernel_rfl) rfl (cls_drew hO) ?_
  simp only [List.take_succ_cons, List.take_zero]
  repeat (first
    | (apply wv_skip rfl; simp only [Act.put, List.setIfInBounds_toArray, List.set_cons_zero, List.set_cons_succ])
    | (refine wv_load1 (b := bs) (cs := #[.pointer (some ⟨p, 0, none⟩)]) (t := 25) (v := .pointer (some ⟨p, 0, none⟩)) rfl rfl rfl row_sptr (fun w h => own_get 0 h.1 rfl) rfl ?_; simp only [Act.put, List.setIfInBounds_toArray, List.set_cons_zero, List.set_cons_succ])
    | (refine wv_load1 (b := bi) (cs := #[.int .i64 i]) (t := 3) (v := .int .i64 i) rfl rfl rfl row_int (fun w h => own_get 1 h.1 rfl) rfl ?_; simp only [Act.put, List.setIfInBounds_toArray, List.set_cons_zero, List.set_cons_succ])
    | (refine wv_load1 (b := p) (cs := srow byt (.slice A cs.length cap) next) (t := 72) (off := 32) (v := .slice A cs.length cap) rfl rfl rfl row_cells (fun w h => (stkAt_of (own_drop (own_drop h.1))).blk) (srow_v _ _ _ HB.out) ?_; simp only [Act.put, List.setIfInBounds_toArray, List.set_cons_zero, List.set_cons_succ])
    | (refine wv_slice_from rfl rfl rfl rfl Try.underlying70 sz_ptr HM.out.1 HM.out.2.1 HA.out ?_; simp only [Act.put, List.setIfInBounds_toArray, List.set_cons_zero, List.set_cons_succ])
    | (apply wv_load1 rfl rfl rfl; (first | exact row_int | exact row_str | exact row_bool | exact row_u8 | exact row_bys | exact row_pats | exact row_err); (intro w h; (first | exact own_get 0 h.1 rfl | exact own_get 1 h.1 rfl | exact own_get 2 h.1 rfl | exact own_get 3 h.1 rfl | exact own_get 4 h.1 rfl | exact own_get 5 h.1 rfl | exact own_get 6 h.1 rfl | exact own_get 7 h.1 rfl)); (first | (simp only [List.getElem?_toArray, List.getElem?_cons_succ, List.getElem?_cons_zero]; rfl) | rfl); simp only [Act.put, List.setIfInBounds_toArray, List.set_cons_zero, List.set_cons_succ])
    | (apply wv_loadrow rfl rfl rfl; (first | exact row_pat); exact sz_pat; (intro w h; (first | exact own_get 0 h.1 rfl | exact own_get 1 h.1 rfl | exact own_get 2 h.1 rfl | exact own_get 3 h.1 rfl | exact own_get 4 h.1 rfl | exact own_get 5 h.1 rfl | exact own_get 6 h.1 rfl | exact own_get 7 h.1 rfl)); (focus (simp; done)); (first | (simp only [List.drop_zero, List.drop_succ_cons, List.take_succ_cons, List.take_zero]; rfl) | rfl); simp only [Act.put, List.setIfInBounds_toArray, List.set_cons_zero, List.set_cons_succ])
    | (apply wv_run rfl; (focus (intro w h; go_simp; first | done | rfl)); simp only [Act.put, List.setIfInBounds_toArray, List.set_cons_zero, List.set_cons_succ])
    | (apply wv_call rfl; (focus (intro w; go_simp; first | done | exact ⟨rfl, rfl⟩)); (focus (intro w h; apply cls_call h; fail)); simp only [Act.put, List.setIfInBounds_toArray, List.set_cons_zero, List.set_cons_succ]))
  refine wv_nil ?_
  simp only [List.drop_succ_cons, List.drop_zero]
  intro w5 ⟨hO5, hS5⟩
  clear hO hmx hm
  go_wp2
  go_loopw [17] (fun i' wr => ∃ k : Nat, k ≤ cs.length - m ∧ i' = .int .i64 k ∧ (∃ cs', Relaid byt m k cs cs' ∧ Own wr (pts bs (.cells #[.pointer (some ⟨p, 0, none⟩)] 25) :: pts bi (.cells #[.int .i64 i] 3) :: (stkL p (.slice A cs.length cap) cs' (appAll byt (((cs.drop m).take k).map Cl.p)) next ++ L))) ∧ Same w wr) (fun i' _ => cs.length - m - (intOf i').toNat)
  case atStart => exact ⟨0, Nat.zero_le _, rfl, ⟨cs, ⟨rfl, rfl, rfl, by simp [unders], rfl⟩, by rw [List.take_zero]; exact hO5⟩, hS5⟩
  case round =>
    clear hO5 hS5
    obtain ⟨k, hk, rfl, ⟨cs', hre, hO⟩, hS⟩ := hrel
    have HRE := Lib.hid hre
    clear hre
    by_cases hlt : k < cs.length - m
    · obtain ⟨c, hc⟩ : ∃ c, cs[m + k]? = some c := ⟨_, List.getElem?_eq_getElem (by omega)⟩
      have HC := Lib.hid hc
      have hrd : Rd wr 1 (.slice A' (cs.length - m) (cap - m)) (cs.length - m) ((cs.map Cl.ptr).drop m) := by
        have h1 := (stkAt_of (own_drop (own_drop hO))).rd
        rw [HRE.out.ptr, HRE.out.length] at h1
        exact rd_from h1 HM.out.1 HA.out
      obtain ⟨ad, rfl⟩ := hrd.addr (by rw [List.length_drop, List.length_map]; omega)
      have hcell : wr.cell? (ad.add k) = some (.pointer (some ⟨c.a, 0, none⟩)) := by
        have h1 : wr.cell? ((ad.add (k * 1)).add 0) = some c.ptr := hrd.cell (by rw [Nat.mul_one, Nat.add_zero, List.getElem?_drop, List.getElem?_map, hc]; rfl)
        rwa [addr_add, Nat.mul_one, Nat.add_zero] at h1
      have HRT : Hid (rightB c.p = true) := HR.out c (List.mem_of_getElem? hc)
      have HBL : Hid ((appAll byt (((cs.drop m).take k).map Cl.p)).length = 32) := appAll_length' HB.out (fun c hc => HR.out c (List.mem_of_mem_drop (List.mem_of_mem_take hc)))
      have hm1 : (k : Int) < ((cs.length - m : Nat) : Int) := by omega
      clear hc hrd
      go_wp2_with (first | (refine own_load1 (b := bs) (off := 0) (cs := #[.pointer (some ⟨p, 0, none⟩)]) (t := 25) (v := .pointer (some ⟨p, 0, none⟩)) rfl rfl rfl row_sptr (own_get 0 hO rfl) rfl ?_) | (go_at_call 54; refine (lay_at _ (pts bs (.cells #[.pointer (some ⟨p, 0, none⟩)] 25) :: pts bi (.cells #[.int .i64 i] 3) :: L) p _ cs' _ next (m + k) c (HRE.out.at_ HC.out) (own_two_back.1 hO) HRT.out HBL.out).mono ?_; clear hO hcell; rintro e w6 ⟨u, rfl, hO, hS6⟩))
      go_roundw
      case rel => exact ⟨k + 1, by omega, by go_num, ⟨_, HRE.out.next HC.out u, by
        have h2 := own_two_back.2 hO
        have e : ((cs.drop m).take (k + 1)).map Cl.p = ((cs.drop m).take k).map Cl.p ++ [c.p] := by
          rw [List.take_succ_eq_append_getElem (by rw [List.length_drop]; omega), List.map_append]
          congr 2
          have h5 : (cs.drop m)[k]? = some c := by rw [List.getElem?_drop]; exact HC.out
          have h6 : (cs.drop m)[k]'(by rw [List.length_drop]; omega) = c := by
            simpa [List.getElem?_eq_getElem (show k < (cs.drop m).length by rw [List.length_drop]; omega)] using h5
          rw [h6]; rfl
        rw [e, appAll_snoc]
        exact h2⟩, hS.trans hS6⟩
      case measure => simp [intOf]; omega
    · have hke : k = cs.length - m := by omega
      subst hke
      go_wp2
      refine bodyPost_ret (results_none rfl _ _ _) rfl ⟨cs', rfl, ?_, hS⟩
      rw [own_pur]
      refine ⟨HRE.out, ?_⟩
      rw [List.take_of_length_le (by rw [List.length_drop]; omega)] at hO
      exact hO
end Go.Proofs.Ytdcbfdepkbplbaa.H
