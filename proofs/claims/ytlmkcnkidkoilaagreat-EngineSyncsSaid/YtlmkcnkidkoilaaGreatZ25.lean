/- Lasting, Read, Spoil, New, Load of the reference's disk. The reference's engine: bytes, Block. Spoil, New, Load of the reference's disk. -/
import Derived.Test.YtlmkcnkidkoilaaGreatZ24
import Derived.Test.YtlmkcnkidkoilaaGreatZ06
import Derived.Test.YtlmkcnkidkoilaaGreatZ22
set_option linter.unusedVariables false
set_option linter.unusedSimpArgs false
set_option maxRecDepth 100000
namespace Go.Proofs.YtlmkcnkidkoilaaGreat.H
open Go.RowKit
theorem ROk.put {m : List Blk} {rb : List RB} {l l' : List (Value × List Sec)} (h : ROk m rb l) (hl : ∀ x ∈ l, x ∈ l') {i : Nat} {b' : Blk} (h1 : b'.s.length = 32) (h2 : ∀ s ∈ b'.vs, s.length = 32) {A : Option Addr} {c : Nat} (h3 : (.slice A b'.vs.length c, b'.vs) ∈ l') : ROk (m.set i b') (rb.set i (.slice A b'.vs.length c, b')) l' where
  eq := by rw [List.map_set, h.eq]
  pos := by rw [List.length_set]; exact h.pos
  len := by rw [List.length_set]; exact h.len
  s32 := fun x hx => by
    rcases List.mem_or_eq_of_mem_set hx with hx | rfl
    · exact h.s32 x hx
    · exact h1
  v32 := fun x hx => by
    rcases List.mem_or_eq_of_mem_set hx with hx | rfl
    · exact h.v32 x hx
    · exact h2
  vers := fun x hx => by
    rcases List.mem_or_eq_of_mem_set hx with hx | rfl
    · obtain ⟨A', c', e1, e2⟩ := h.vers x hx
      exact ⟨A', c', e1, hl _ e2⟩
    · exact ⟨A, c, rfl, h3⟩
theorem Room.put {m : List Blk} {rb : List RB} {l : List (Value × List Sec)} {rest : List Value} {cap : Nat} (h : Room m rb rest cap) (hk : ROk m rb l) {i : Nat} {x : RB} (h1 : x.2.s.length = 32) : Room (m.set i x.2) (rb.set i x) rest cap where
  le := by rw [List.length_set]; exact h.le
  max := h.max
  size := by
    have h2 := h.size
    rw [List.length_append, rbs_length hk.s32] at h2
    rw [List.length_append, rbs_length (fun y hy => by rcases List.mem_or_eq_of_mem_set hy with hy | rfl; exact hk.s32 y hy; exact h1), List.length_set]
    exact h2
theorem build_rsec (w : World) : (Instr.build 94 #[]).run Tryz.prog w = .ok (secV sec0) w := by
  first | kernel_rfl | (go_simp; done)
theorem own_rbuild0 {ops : Array Oper} {rest : List Oper} {o : Oper} {a : Act} {Q : Exit → Act → World → Prop} {w : World} (hw : Region.wanted o (yielded ops a.tmps) = true) (ho : o.op = .build 94 #[]) (h : wpList Tryz.prog ops Q rest (a.put o.dst (secV sec0)) w) : wpList Tryz.prog ops Q (o :: rest) a w := by
  refine ev hw ?_ h
  simp only [execOp, ho]
  simp [build_rsec, Sem.run_bind]
section
variable (w : World) (L : List HP) (q : Nat) (m : List Blk)
theorem rlasting_no (i : Int) (hO : Own w (rdiskP q m :: L)) (hi : i < 0 ∨ (m.length : Int) ≤ i) : Calls Tryz.prog 55 #[.pointer (some ⟨q, 0, none⟩), .int .i64 i] w (Ret w (.tuple #[secV sec0, .int .i64 2]) (rdiskP q m :: L)) := by
  have HI := Lib.hid hi
  have hS := Same.refl w
  clear hi
  go_enter Tryz.func55, Tryz.ntmps55
  go_wp2_with (first | (refine own_alloc (T := 94) rfl rfl zero_rsec rfl hO ?_; clear hO; intro g u hO hSn; replace hS := hS.trans hSn; clear hSn) | (go_at_call 92; (with_reducible refine Calls.mono (call_at 1 (fun L' h => rmay_no _ L' q m i h HI.out) rfl hO) ?_); clear hO; rintro e u ⟨rfl, hO, hSn⟩; replace hS := hS.trans hSn; clear hSn; simp only [List.set_cons_zero, List.set_cons_succ] at hO) | (refine own_rbuild0 rfl rfl ?_) | (refine own_store_all (k := 0) rfl rfl rfl rfl sz_rsec hO rfl (secA_size (by simp)) (by rfl) (bcs_all _) ?_; clear hO; intro u hO hSn; replace hS := hS.trans hSn; clear hSn; simp only [List.set_cons_zero, List.set_cons_succ] at hO))
  refine bodyPost_ret (results_cell_tmp rfl rfl (own_get 0 hO rfl) row_rsec (info_rsec (by simp))) rfl ⟨rfl, own_drop hO, hS⟩
theorem rread_no (i : Int) (hO : Own w (rdiskP q m :: L)) (hi : i < 0 ∨ (m.length : Int) ≤ i) : Calls Tryz.prog 102 #[.pointer (some ⟨q, 0, none⟩), .int .i64 i] w (Ret w (.tuple #[secV sec0, .int .i64 2]) (rdiskP q m :: L)) := by
  have HI := Lib.hid hi
  have hS := Same.refl w
  clear hi
  go_enter Tryz.func102, Tryz.ntmps102
  go_wp2_with (first | (refine own_alloc (T := 94) rfl rfl zero_rsec rfl hO ?_; clear hO; intro g u hO hSn; replace hS := hS.trans hSn; clear hSn) | (go_at_call 92; (with_reducible refine Calls.mono (call_at 1 (fun L' h => rmay_no _ L' q m i h HI.out) rfl hO) ?_); clear hO; rintro e u ⟨rfl, hO, hSn⟩; replace hS := hS.trans hSn; clear hSn; simp only [List.set_cons_zero, List.set_cons_succ] at hO) | (refine own_rbuild0 rfl rfl ?_) | (refine own_store_all (k := 0) rfl rfl rfl rfl sz_rsec hO rfl (secA_size (by simp)) (by rfl) (bcs_all _) ?_; clear hO; intro u hO hSn; replace hS := hS.trans hSn; clear hSn; simp only [List.set_cons_zero, List.set_cons_succ] at hO))
  refine bodyPost_ret (results_cell_tmp rfl rfl (own_get 0 hO rfl) row_rsec (info_rsec (by simp))) rfl ⟨rfl, own_drop hO, hS⟩
theorem rlasting_ok (i : Nat) (b : Blk) (hO : Own w (rdiskP q m :: L)) (hi : m[i]? = some b) : Calls Tryz.prog 55 #[.pointer (some ⟨q, 0, none⟩), .int .i64 i] w (Ret w (.tuple #[secV b.s, .int .i64 0]) (rdiskP q m :: L)) := by
  have HI := Lib.hid hi
  have hS := Same.refl w
  clear hi
  go_enter Tryz.func55, Tryz.ntmps55
  go_upto_region 4 with (first | (refine own_alloc (T := 94) rfl rfl zero_rsec rfl hO ?_; clear hO; intro g u hO hSn; replace hS := hS.trans hSn; clear hSn) | (go_at_call 92; (with_reducible refine Calls.mono (call_at 1 (fun L' h => rmay_ok _ L' q m i b h HI.out) rfl hO) ?_); clear hO; rintro e u ⟨rfl, hO, hSn⟩; replace hS := hS.trans hSn; clear hSn; simp only [List.set_cons_zero, List.set_cons_succ] at hO))
  obtain ⟨g1, cap, rest, rb, l, ⟨hk, hroom⟩, hO⟩ := rdisk_open.1 (own_perm hO (List.Perm.swap _ _ _))
  have HK := Lib.hid (And.intro hk hroom)
  obtain ⟨A, c, hrb, _⟩ := hk.at_ HI.out
  have hb32 := hk.s32 _ (List.mem_of_getElem? hrb)
  have h32 : Hid (b.s.length = 32) := hb32
  have HR := Lib.hid (rb_row (rest := rest) hk.s32 hrb)
  have HF := Lib.hid (rb_fit (rest := rest) hk.s32 hrb)
  have hl : (i : Int) < m.length := by have := (List.getElem?_eq_some_iff.1 HI.out).1; omega
  clear hk hrb hroom hb32
  go_wp2_with (first | (refine own_loadrow (b := g1) (off := i * 34) (vs := bcs b.s) rfl rfl rfl row_rsec sz_rsec (own_get 1 hO rfl) (by have := HF.out; omega) HR.out ?_) | (apply own_load1 rfl rfl rfl; (first | exact row_blks); (first | exact own_get 0 hO rfl | exact own_get 1 hO rfl | exact own_get 2 hO rfl | exact own_get 3 hO rfl | exact own_get 4 hO rfl | exact own_get 5 hO rfl | exact own_get 6 hO rfl | exact own_get 7 hO rfl); (first | (simp only [List.getElem?_toArray, List.getElem?_cons_succ, List.getElem?_cons_zero]; rfl) | rfl)) | (refine own_store_all (k := 3) rfl rfl rfl rfl sz_rsec hO rfl (secA_size h32.out) (by rfl) (bcs_all _) ?_; clear hO; intro u hO hSn; replace hS := hS.trans hSn; clear hSn; simp only [List.set_cons_zero, List.set_cons_succ] at hO))
  refine bodyPost_ret (results_cell_tmp rfl rfl (own_get 3 hO rfl) row_rsec (info_rsec h32.out)) rfl ⟨rfl, ?_, hS⟩
  exact rdisk_open.2 ⟨_, _, _, _, _, HK.out, own_drop (own_at hO (k := 3) rfl)⟩
theorem rread_ok (i : Nat) (b : Blk) (hO : Own w (rdiskP q m :: L)) (hi : m[i]? = some b) : Calls Tryz.prog 102 #[.pointer (some ⟨q, 0, none⟩), .int .i64 i] w (Ret w (.tuple #[secV b.now, .int .i64 0]) (rdiskP q m :: L)) := by
  have HI := Lib.hid hi
  have hS := Same.refl w
  clear hi
  go_enter Tryz.func102, Tryz.ntmps102
  go_upto_region 4 with (first | (refine own_alloc (T := 94) rfl rfl zero_rsec rfl hO ?_; clear hO; intro g u hO hSn; replace hS := hS.trans hSn; clear hSn) | (go_at_call 92; (with_reducible refine Calls.mono (call_at 1 (fun L' h => rmay_ok _ L' q m i b h HI.out) rfl hO) ?_); clear hO; rintro e u ⟨rfl, hO, hSn⟩; replace hS := hS.trans hSn; clear hSn; simp only [List.set_cons_zero, List.set_cons_succ] at hO))
  obtain ⟨g1, cap, rest, rb, l, ⟨hk, hroom⟩, hO⟩ := rdisk_open.1 (own_perm hO (List.Perm.swap _ _ _))
  have HK := Lib.hid (And.intro hk hroom)
  obtain ⟨A, c, hrb, hmem⟩ := hk.at_ HI.out
  have hb32 := hk.s32 _ (List.mem_of_getElem? hrb)
  have h32 : Hid (b.s.length = 32) := hb32
  have HR := Lib.hid (rb_row (rest := rest) hk.s32 hrb)
  have HF := Lib.hid (rb_fit (rest := rest) hk.s32 hrb)
  have HV := Lib.hid (rb_v (rest := rest) hk.s32 hrb)
  have hl : (i : Int) < m.length := by have := (List.getElem?_eq_some_iff.1 HI.out).1; omega
  have hr2 := rdV_rd (own_at hO (k := 2) rfl) hmem
  have hmx := hr2.max
  have hv32 := hk.v32 _ (List.mem_of_getElem? hrb)
  cases hvs : b.vs.getLast? with
  | none =>
    have e0 : b.vs = [] := List.getLast?_eq_none_iff.1 hvs
    have enow : Hid (b.now = b.s) := by show _ = _; simp [Blk.now, hvs]
    rw [e0] at HV
    clear hk hrb hmem hr2 hmx hvs e0 hv32 hroom hb32
    go_wp2_with (first | (refine own_load1 (b := g1) (off := i * 34 + 32) (v := .slice A 0 c) rfl rfl rfl row_rsecs (own_get 1 hO rfl) HV.out ?_) | (refine own_loadrow (b := g1) (off := i * 34) (vs := bcs b.s) rfl rfl rfl row_rsec sz_rsec (own_get 1 hO rfl) (by have := HF.out; omega) HR.out ?_) | (apply own_load1 rfl rfl rfl; (first | exact row_blks); (first | exact own_get 0 hO rfl | exact own_get 1 hO rfl | exact own_get 2 hO rfl | exact own_get 3 hO rfl | exact own_get 4 hO rfl | exact own_get 5 hO rfl | exact own_get 6 hO rfl | exact own_get 7 hO rfl); (first | (simp only [List.getElem?_toArray, List.getElem?_cons_succ, List.getElem?_cons_zero]; rfl) | rfl)) | (refine own_store_all (k := 3) rfl rfl rfl rfl sz_rsec hO rfl (secA_size h32.out) (by rfl) (bcs_all _) ?_; clear hO; intro u hO hSn; replace hS := hS.trans hSn; clear hSn; simp only [List.set_cons_zero, List.set_cons_succ] at hO))
    refine bodyPost_ret (results_cell_tmp rfl rfl (own_get 3 hO rfl) row_rsec (info_rsec h32.out)) rfl ⟨by rw [enow.out]; rfl, ?_, hS⟩
    exact rdisk_open.2 ⟨_, _, _, _, _, HK.out, own_drop (own_at hO (k := 3) rfl)⟩
  | some s =>
    have hne : b.vs ≠ [] := fun e => by rw [e] at hvs; cases hvs
    have hlen : 0 < b.vs.length := List.length_pos_iff.2 hne
    have hat : b.vs[b.vs.length - 1]? = some s := by rw [← List.getLast?_eq_getElem?]; exact hvs
    have enow : Hid (b.now = s) := by show _ = _; simp [Blk.now, hvs]
    have h32s : Hid (s.length = 32) := hv32 s (List.mem_of_getElem? hat)
    obtain ⟨ad2, rfl, hc2⟩ := vers_cell hr2 hv32 hat
    have HC2 := Lib.hid hc2
    have hlt : ((b.vs.length - 1 : Nat) : Int) < b.vs.length := by omega
    have hpos : (0 : Int) < b.vs.length := by omega
    have hsub : IntKind.i64.wrap ((b.vs.length : Int) - 1) = ((b.vs.length - 1 : Nat) : Int) := by rw [IntKind.wrap_i64] <;> omega
    clear hk hrb hmem hr2 hvs hc2 hat hv32 hne hlen hroom hb32
    go_wp2_with (first | (refine own_load1 (b := g1) (off := i * 34 + 32) (v := .slice (some ad2) b.vs.length c) rfl rfl rfl row_rsecs (own_get 1 hO rfl) HV.out ?_) | (refine own_loadrow_at (ad := ad2.add ((b.vs.length - 1) * 32)) (vs := bcs s) rfl rfl rfl row_rsec sz_rsec (by rw [bcs_length]; exact h32s.out) HC2.out ?_) | (apply own_load1 rfl rfl rfl; (first | exact row_blks); (first | exact own_get 0 hO rfl | exact own_get 1 hO rfl | exact own_get 2 hO rfl | exact own_get 3 hO rfl | exact own_get 4 hO rfl | exact own_get 5 hO rfl | exact own_get 6 hO rfl | exact own_get 7 hO rfl); (first | (simp only [List.getElem?_toArray, List.getElem?_cons_succ, List.getElem?_cons_zero]; rfl) | rfl)) | (refine own_store_all (k := 3) rfl rfl rfl rfl sz_rsec hO rfl (secA_size h32s.out) (by rfl) (bcs_all _) ?_; clear hO; intro u hO hSn; replace hS := hS.trans hSn; clear hSn; simp only [List.set_cons_zero, List.set_cons_succ] at hO))
    refine bodyPost_ret (results_cell_tmp rfl rfl (own_get 3 hO rfl) row_rsec (info_rsec h32s.out)) rfl ⟨by rw [enow.out]; rfl, ?_, hS⟩
    exact rdisk_open.2 ⟨_, _, _, _, _, HK.out, own_drop (own_at hO (k := 3) rfl)⟩
theorem rspoil_no (i : Int) (bad : Bool) (hO : Own w (rdiskP q m :: L)) (hi : i < 0 ∨ (m.length : Int) ≤ i) : Calls Tryz.prog 101 #[.pointer (some ⟨q, 0, none⟩), .int .i64 i, .bool bad] w (Ret w (.int .i64 2) (rdiskP q m :: L)) := by
  have HI := Lib.hid hi
  have hS := Same.refl w
  clear hi
  go_enter Tryz.func101, Tryz.ntmps101
  go_wp2_with (first | (go_at_call 92; (with_reducible refine Calls.mono (rmay_no _ _ q m i hO HI.out) ?_); clear hO; rintro e u ⟨rfl, hO, hSn⟩; replace hS := hS.trans hSn; clear hSn))
  go_ret
  exact ⟨rfl, hO, hS⟩
end
end Go.Proofs.YtlmkcnkidkoilaaGreat.H
set_option linter.unusedVariables false
set_option linter.unusedSimpArgs false
set_option maxRecDepth 100000
namespace Go.Proofs.YtlmkcnkidkoilaaGreat.H
open Go.RowKit
/-- Those of a block that are such. -/
def suchW (i : Int) (f : Wt → Bool) (l : List Wt) : List Pat := (l.filter fun x => decide (x.p.blk = i) && f x).map (·.p)
theorem such_next (i : Int) (f : Wt → Bool) {we : List We} {k : Nat} {x : We} (hx : we[k]? = some x) {b : Bool} (hb : (decide (x.1.p.blk = i) && f x.1) = b) : suchW i f ((we.take (k + 1)).map (·.1)) = suchW i f ((we.take k).map (·.1)) ++ (if b then [x.1.p] else []) := by
  unfold suchW
  rw [List.take_add_one, hx, List.map_append, List.filter_append, List.map_append]
  congr 1
  show ((List.filter _ [x.1]).map _) = _
  rw [List.filter_cons, hb]
  cases b <;> rfl
theorem wt_cell {w : World} {ad : Addr} {n : Nat} {x : We} (h : ∀ (j : Nat) (u : Value), (We.cells x)[j]? = some u → w.cell? ((ad.add n).add j) = some u) : w.cell? ((ad.add n).add 1) = some (.int .i64 x.1.p.blk) ∧ ∀ (j : Nat) (u : Value), [Value.int .i64 x.1.p.blk, .int .i64 x.1.p.off, .string x.1.p.dat][j]? = some u → w.cell? (((ad.add n).add 1).add j) = some u := by
  refine ⟨h 1 _ rfl, fun j u hu => ?_⟩
  have h2 := h (1 + j) u (by
    rcases j with _ | _ | _ | j
    · exact hu
    · exact hu
    · exact hu
    · simp at hu)
  rw [addr_add] at h2
  rw [addr_add, addr_add]
  exact h2
section
variable (w : World) (L : List HP) (r : Nat)
set_option maxHeartbeats 3200000 in
theorem rbytes_o (q : Nat) (lv wv : Value) (we : List We) (g : List RdI) (next : Nat) (m : List Blk) (hW : WOk we lv g) (hright : ∀ x ∈ we, rightB x.1.p = true) (hwl : we.length ≤ 200) (i : Nat) (b : Blk) (hb : m[i]? = some b) (h32 : b.s.length = 32) (al : Bool) (sv : Value) (sl : List Int) (hs : ∀ w', Own w' (rO r q lv wv next m g L) → Rd w' 1 sv sl.length (zs sl)) (hO : Own w (rO r q lv wv next m g L)) :
    Calls Tryz.prog 88 #[.pointer (some ⟨r, 0, none⟩), .int .i64 i, .bool al, sv] w (RetX w (fun v : Value => v) (fun v => owns 5 1 v 32 (bcs (appAll b.s (suchW i (fun x => al || sl.contains (x.n : Int)) (we.map (·.1))))) :: rO r q lv wv next m g L)) := by
  obtain ⟨A, c, rfl, hm⟩ := hW.rd
  have HW := Lib.hid hW
  have HB := Lib.hid hb
  have H32B := Lib.hid h32
  have HSV := Lib.hid hs
  have HRT := Lib.hid hright
  have hmw := (rdG_rd (own_at hO (k := 2) rfl) hm).max
  have hS := Same.refl w
  obtain ⟨f, hf⟩ : ∃ f : Wt → Bool, f = fun x => al || sl.contains (x.n : Int) := ⟨_, rfl⟩
  rw [← hf]
  have HF := Lib.hid hf
  clear hW hm hb h32 hs hright hf
  go_enter Tryz.func88, Tryz.ntmps88
  go_upto_region 2 with (first | (apply own_load1 rfl rfl rfl; (first | exact row_rdptr | exact row_wts | exact row_wrs | exact row_int); (first | exact own_get 0 hO rfl | exact own_get 1 hO rfl | exact own_get 2 hO rfl | exact own_get 3 hO rfl | exact own_get 4 hO rfl | exact own_get 5 hO rfl | exact own_get 6 hO rfl | exact own_get 7 hO rfl); (first | (simp only [List.getElem?_toArray, List.getElem?_cons_succ, List.getElem?_cons_zero]; rfl) | rfl)) | (go_at_call 55; (with_reducible refine Calls.mono (call_at 1 (fun L' h => rlasting_ok _ L' q m i b h HB.out) rfl hO) ?_); clear hO; rintro e u ⟨rfl, hO, hSn⟩; replace hS := hS.trans hSn; clear hSn; simp only [List.set_cons_zero, List.set_cons_succ] at hO) | (refine own_alloc (T := 94) (cs := (bcs sec0).toArray) rfl rfl zero_rsec rfl hO ?_; clear hO; intro gs u hO hSn; replace hS := hS.trans hSn; clear hSn) | (refine own_store_all (k := 0) rfl rfl rfl rfl sz_rsec hO rfl (secA_size H32B.out) (by rfl) (bcs_all _) ?_; clear hO; intro u hO hSn; replace hS := hS.trans hSn; clear hSn; simp only [List.set_cons_zero, List.set_cons_succ] at hO))
  refine wp_plain_seq (Cls _ (pts gs (.cells (bcs b.s).toArray 94) :: rO r q (.slice A we.length c) wv next m g L)) 0 (cls_here hO) ?_
  simp only [List.append_eq, List.cons_append, List.nil_append, List.take_succ_cons, List.take_zero]
  repeat (first
    | (apply wv_skip rfl; simp only [Act.put, List.setIfInBounds_toArray, List.set_cons_zero, List.set_cons_succ])
    | (apply wv_load1 rfl rfl rfl; (first | exact row_int | exact row_str | exact row_bool | exact row_u8 | exact row_bys | exact row_pats | exact row_err); (intro w h; (first | exact own_get 0 h.1 rfl | exact own_get 1 h.1 rfl | exact own_get 2 h.1 rfl | exact own_get 3 h.1 rfl | exact own_get 4 h.1 rfl | exact own_get 5 h.1 rfl | exact own_get 6 h.1 rfl | exact own_get 7 h.1 rfl)); (first | (simp only [List.getElem?_toArray, List.getElem?_cons_succ, List.getElem?_cons_zero]; rfl) | rfl); simp only [Act.put, List.setIfInBounds_toArray, List.set_cons_zero, List.set_cons_succ])
    | (apply wv_loadrow rfl rfl rfl; (first | exact row_pat); exact sz_pat; (intro w h; (first | exact own_get 0 h.1 rfl | exact own_get 1 h.1 rfl | exact own_get 2 h.1 rfl | exact own_get 3 h.1 rfl | exact own_get 4 h.1 rfl | exact own_get 5 h.1 rfl | exact own_get 6 h.1 rfl | exact own_get 7 h.1 rfl)); (focus (simp; done)); (first | (simp only [List.drop_zero, List.drop_succ_cons, List.take_succ_cons, List.take_zero]; rfl) | rfl); simp only [Act.put, List.setIfInBounds_toArray, List.set_cons_zero, List.set_cons_succ])
    | (apply wv_run rfl; (focus (intro w h; go_simp; first | done | rfl)); simp only [Act.put, List.setIfInBounds_toArray, List.set_cons_zero, List.set_cons_succ])
    | (apply wv_call rfl; (focus (intro w; go_simp; first | done | exact ⟨rfl, rfl⟩)); (focus (intro w h; apply cls_call h; fail)); simp only [Act.put, List.setIfInBounds_toArray, List.set_cons_zero, List.set_cons_succ]))
  refine wv_nil ?_
  simp only [List.drop_succ_cons, List.drop_zero]
  intro w5 ⟨hO5, hS5⟩
  clear hO
  refine own_lit0 rfl rfl Tryz.underlying23 sz_u8 hO5 ?_
  intro g0 w6 hO hS6
  clear hO5
  refine wpList_seq (Cls _ (owns 5 1 (.slice (some ⟨g0, 0, none⟩) 0 0) 0 [] :: pts gs (.cells (bcs b.s).toArray 94) :: rO r q (.slice A we.length c) wv next m g L)) 1 (cls_here hO) ?_
  simp only [List.append_eq, List.cons_append, List.nil_append, List.take_succ_cons, List.take_zero]
  repeat (first
    | (apply wv_skip rfl; simp only [Act.put, List.setIfInBounds_toArray, List.set_cons_zero, List.set_cons_succ])
    | (apply wv_load1 rfl rfl rfl; (first | exact row_int | exact row_str | exact row_bool | exact row_u8 | exact row_bys | exact row_pats | exact row_err); (intro w h; (first | exact own_get 0 h.1 rfl | exact own_get 1 h.1 rfl | exact own_get 2 h.1 rfl | exact own_get 3 h.1 rfl | exact own_get 4 h.1 rfl | exact own_get 5 h.1 rfl | exact own_get 6 h.1 rfl | exact own_get 7 h.1 rfl)); (first | (simp only [List.getElem?_toArray, List.getElem?_cons_succ, List.getElem?_cons_zero]; rfl) | rfl); simp only [Act.put, List.setIfInBounds_toArray, List.set_cons_zero, List.set_cons_succ])
    | (apply wv_loadrow rfl rfl rfl; (first | exact row_pat); exact sz_pat; (intro w h; (first | exact own_get 0 h.1 rfl | exact own_get 1 h.1 rfl | exact own_get 2 h.1 rfl | exact own_get 3 h.1 rfl | exact own_get 4 h.1 rfl | exact own_get 5 h.1 rfl | exact own_get 6 h.1 rfl | exact own_get 7 h.1 rfl)); (focus (simp; done)); (first | (simp only [List.drop_zero, List.drop_succ_cons, List.take_succ_cons, List.take_zero]; rfl) | rfl); simp only [Act.put, List.setIfInBounds_toArray, List.set_cons_zero, List.set_cons_succ])
    | (apply wv_run rfl; (focus (intro w h; go_simp; first | done | rfl)); simp only [Act.put, List.setIfInBounds_toArray, List.set_cons_zero, List.set_cons_succ])
    | (apply wv_call rfl; (focus (intro w; go_simp; first | done | exact ⟨rfl, rfl⟩)); (focus (intro w h; apply cls_call h; fail)); simp only [Act.put, List.setIfInBounds_toArray, List.set_cons_zero, List.set_cons_succ]))
  refine wv_nil ?_
  simp only [List.drop_succ_cons, List.drop_zero]
  intro w7 ⟨hO7, hS7⟩
  clear hO
  refine own_append (v := .slice (some ⟨g0, 0, none⟩) 0 0) (m := 32) (n := 0) (news := bcs b.s) rfl rfl rfl rfl Tryz.underlying23 info_u8 (by simp [Value.cells]) (by decide) hO7 (rd_block (own_get 1 hO7 rfl) (List.take_of_length_le (by simp [bcs_length, H32B.out])) (by simp [bcs_length, H32B.out]) (by decide) (by decide)) (bcs_one _) (by decide) (by decide) ?_
  intro ov0 w8 hO hS8 hv8
  clear hO7 hv8
  have hO : Own w8 (owns 5 1 ov0 32 (bcs b.s) :: rO r q (.slice A we.length c) wv next m g L) := own_drop (own_swap (by rw [Nat.zero_add, List.nil_append] at hO; exact hO))
  replace hS := hS.trans (hS5.trans (hS6.trans (hS7.trans hS8)))
  clear hS5 hS6 hS7 hS8
  go_wp2
  go_loopw [11, 12] (fun pv iv wr => ∃ (k : Nat) (ov : Value) (bl : List UInt8), k ≤ we.length ∧ ov = pv ∧ iv = .int .i64 k ∧ Hid (bl = appAll b.s (suchW i f ((we.take k).map (·.1)))) ∧ Hid (bl.length = 32) ∧ Own wr (owns 5 1 ov 32 (bcs bl) :: rO r q (.slice A we.length c) wv next m g L) ∧ Same w wr) (fun _ iv _ => we.length - (intOf iv).toNat)
  case atStart => exact ⟨0, _, b.s, Nat.zero_le _, rfl, rfl, Lib.hid rfl, H32B, hO, hS⟩
  case round =>
    clear hO hS
    obtain ⟨k, ov, bl, hk, hov, rfl, HBL, H32, hO, hS⟩ := hrel
    subst hov
    by_cases hlt : k < we.length
    · obtain ⟨⟨x, xv⟩, hx⟩ : ∃ x, we[k]? = some x := ⟨_, List.getElem?_eq_getElem hlt⟩
      obtain ⟨ad, c', e1, hc⟩ := wat HW.out hx (own_at hO (k := 3) rfl)
      have hcc := fun (w' : World) (L' : List HP) (h : Own w' (rdG g :: L')) => hc _ w' h
      have e3 : A = some ad := by injection e1
      have HNOW := Lib.hid hO
      subst e3
      have hO := HNOW.out
      have HC : Hid (∀ (w' : World) (L' : List HP), Own w' (rdG g :: L') → w'.cell? (ad.add (k * 5)) = some (.int .i64 x.n) ∧ w'.cell? ((ad.add (k * 5)).add 1) = some (.int .i64 x.p.blk) ∧ ∀ (j : Nat) (u : Value), [Value.int .i64 x.p.blk, .int .i64 x.p.off, .string x.p.dat][j]? = some u → w'.cell? (((ad.add (k * 5)).add 1).add j) = some u) := Lib.hid fun w' L' h => ⟨ent_cell0 (hcc w' L' h), wt_cell (hcc w' L' h)⟩
      have hm1 : (k : Int) < we.length := by omega
      have HRX : Hid (rightB x.p = true) := HRT.out _ (List.mem_of_getElem? hx)
      have HNXT := Lib.hid (fun b0 hb0 => such_next (i : Int) f hx (b := b0) hb0)
      clear hx hc hcc e1 HNOW
      by_cases hbk : x.p.blk = (i : Int)
      · have hbe : (x.p.blk == (i : Int)) = true := by rw [beq_iff_eq]; exact hbk
        have hdec : decide (x.p.blk = (i : Int)) = true := decide_eq_true hbk
        clear hbk
        cases al with
        | true =>
          have HNN : Hid (app bl x.p = appAll b.s (suchW i f ((we.take (k + 1)).map (·.1)))) := by
            show _ = _
            rw [HNXT.out true (by show (decide (x.p.blk = (i : Int)) && f x) = true; rw [hdec, HF.out]; rfl), HBL.out]
            exact (appAll_snoc _ _ _).symm
          clear hdec
          go_wp2_with (first | (apply own_load1 rfl rfl rfl; (first | exact row_rdptr | exact row_wts | exact row_wrs | exact row_int); (first | exact own_get 0 hO rfl | exact own_get 1 hO rfl | exact own_get 2 hO rfl | exact own_get 3 hO rfl | exact own_get 4 hO rfl | exact own_get 5 hO rfl | exact own_get 6 hO rfl | exact own_get 7 hO rfl); (first | (simp only [List.getElem?_toArray, List.getElem?_cons_succ, List.getElem?_cons_zero]; rfl) | rfl)) | (refine own_load1_at (ad := (ad.add (k * 5)).add 1) (v := .int .i64 x.p.blk) rfl rfl rfl row_int (HC.out _ _ (own_at hO (k := 3) rfl)).2.1 ?_) | (refine own_load1_at (ad := ad.add (k * 5)) (v := .int .i64 x.n) rfl rfl rfl row_int (HC.out _ _ (own_at hO (k := 3) rfl)).1 ?_) | (refine own_loadrow_at (ad := (ad.add (k * 5)).add 1) (vs := [.int .i64 x.p.blk, .int .i64 x.p.off, .string x.p.dat]) rfl rfl rfl row_pat sz_pat rfl (HC.out _ _ (own_at hO (k := 3) rfl)).2.2 ?_) | (go_at_call 117; (with_reducible refine Calls.mono (rapply_ok _ _ ov bl x.p.blk x.p.off x.p.dat hO (fun w' h => owns_rdB H32.out.symm h) H32.out HRX.out) ?_); clear hO; rintro e u ⟨v', rfl, hO, hSn⟩; replace hS := hS.trans hSn; clear hSn))
          go_roundw
          case rel => exact ⟨k + 1, v', app bl x.p, by omega, rfl, by go_num, HNN, Lib.hid (app_32 H32.out HRX.out), own_drop (own_swap hO), hS⟩
          case measure => simp [intOf]; omega
        | false =>
          obtain ⟨bh, hbh⟩ : ∃ bh, sl.contains (x.n : Int) = bh := ⟨_, rfl⟩
          have HBH := Lib.hid hbh
          cases bh with
          | true =>
            have HNN : Hid (app bl x.p = appAll b.s (suchW i f ((we.take (k + 1)).map (·.1)))) := by
              show _ = _
              rw [HNXT.out true (by show (decide (x.p.blk = (i : Int)) && f x) = true; rw [hdec, HF.out]; show (true && (false || sl.contains (x.n : Int))) = true; rw [hbh]; rfl), HBL.out]
              exact (appAll_snoc _ _ _).symm
            clear hdec hbh
            go_wp2_with (first | (apply own_load1 rfl rfl rfl; (first | exact row_rdptr | exact row_wts | exact row_wrs | exact row_int); (first | exact own_get 0 hO rfl | exact own_get 1 hO rfl | exact own_get 2 hO rfl | exact own_get 3 hO rfl | exact own_get 4 hO rfl | exact own_get 5 hO rfl | exact own_get 6 hO rfl | exact own_get 7 hO rfl); (first | (simp only [List.getElem?_toArray, List.getElem?_cons_succ, List.getElem?_cons_zero]; rfl) | rfl)) | (refine own_load1_at (ad := (ad.add (k * 5)).add 1) (v := .int .i64 x.p.blk) rfl rfl rfl row_int (HC.out _ _ (own_at hO (k := 3) rfl)).2.1 ?_) | (refine own_load1_at (ad := ad.add (k * 5)) (v := .int .i64 x.n) rfl rfl rfl row_int (HC.out _ _ (own_at hO (k := 3) rfl)).1 ?_) | (refine own_loadrow_at (ad := (ad.add (k * 5)).add 1) (vs := [.int .i64 x.p.blk, .int .i64 x.p.off, .string x.p.dat]) rfl rfl rfl row_pat sz_pat rfl (HC.out _ _ (own_at hO (k := 3) rfl)).2.2 ?_)| (go_at_call 90; (with_reducible refine Calls.mono (ghas_c _ _ sv sl.length sl (x.n : Int) (r := true) rfl HBH.out hO (fun w' h => HSV.out w' (own_drop h))) ?_); clear hO; rintro e u ⟨rfl, hO, hSn⟩; replace hS := hS.trans hSn; clear hSn) | (go_at_call 117; (with_reducible refine Calls.mono (rapply_ok _ _ ov bl x.p.blk x.p.off x.p.dat hO (fun w' h => owns_rdB H32.out.symm h) H32.out HRX.out) ?_); clear hO; rintro e u ⟨v', rfl, hO, hSn⟩; replace hS := hS.trans hSn; clear hSn))
            go_roundw
            case rel => exact ⟨k + 1, v', app bl x.p, by omega, rfl, by go_num, HNN, Lib.hid (app_32 H32.out HRX.out), own_drop (own_swap hO), hS⟩
            case measure => simp [intOf]; omega
          | false =>
            have HNN : Hid (bl = appAll b.s (suchW i f ((we.take (k + 1)).map (·.1)))) := by
              show _ = _
              rw [HNXT.out false (by show (decide (x.p.blk = (i : Int)) && f x) = false; rw [hdec, HF.out]; show (true && (false || sl.contains (x.n : Int))) = false; rw [hbh]; rfl), if_neg (by simp), List.append_nil]
              exact HBL.out
            clear hdec hbh
            go_wp2_with (first | (apply own_load1 rfl rfl rfl; (first | exact row_rdptr | exact row_wts | exact row_wrs | exact row_int); (first | exact own_get 0 hO rfl | exact own_get 1 hO rfl | exact own_get 2 hO rfl | exact own_get 3 hO rfl | exact own_get 4 hO rfl | exact own_get 5 hO rfl | exact own_get 6 hO rfl | exact own_get 7 hO rfl); (first | (simp only [List.getElem?_toArray, List.getElem?_cons_succ, List.getElem?_cons_zero]; rfl) | rfl)) | (refine own_load1_at (ad := (ad.add (k * 5)).add 1) (v := .int .i64 x.p.blk) rfl rfl rfl row_int (HC.out _ _ (own_at hO (k := 3) rfl)).2.1 ?_) | (refine own_load1_at (ad := ad.add (k * 5)) (v := .int .i64 x.n) rfl rfl rfl row_int (HC.out _ _ (own_at hO (k := 3) rfl)).1 ?_) | (refine own_loadrow_at (ad := (ad.add (k * 5)).add 1) (vs := [.int .i64 x.p.blk, .int .i64 x.p.off, .string x.p.dat]) rfl rfl rfl row_pat sz_pat rfl (HC.out _ _ (own_at hO (k := 3) rfl)).2.2 ?_) | (go_at_call 90; (with_reducible refine Calls.mono (ghas_c _ _ sv sl.length sl (x.n : Int) (r := false) rfl HBH.out hO (fun w' h => HSV.out w' (own_drop h))) ?_); clear hO; rintro e u ⟨rfl, hO, hSn⟩; replace hS := hS.trans hSn; clear hSn))
            go_roundw
            case rel => exact ⟨k + 1, ov, bl, by omega, rfl, by go_num, HNN, H32, hO, hS⟩
            case measure => simp [intOf]; omega
      · have hbe : (x.p.blk == (i : Int)) = false := by rw [beq_eq_false_iff_ne]; exact hbk
        have HNN : Hid (bl = appAll b.s (suchW i f ((we.take (k + 1)).map (·.1)))) := by
          show _ = _
          rw [HNXT.out false (by show (decide (x.p.blk = (i : Int)) && f x) = false; rw [decide_eq_false hbk]; rfl), if_neg (by simp), List.append_nil]
          exact HBL.out
        clear hbk
        go_wp2_with (first | (apply own_load1 rfl rfl rfl; (first | exact row_rdptr | exact row_wts | exact row_wrs | exact row_int); (first | exact own_get 0 hO rfl | exact own_get 1 hO rfl | exact own_get 2 hO rfl | exact own_get 3 hO rfl | exact own_get 4 hO rfl | exact own_get 5 hO rfl | exact own_get 6 hO rfl | exact own_get 7 hO rfl); (first | (simp only [List.getElem?_toArray, List.getElem?_cons_succ, List.getElem?_cons_zero]; rfl) | rfl)) | (refine own_load1_at (ad := (ad.add (k * 5)).add 1) (v := .int .i64 x.p.blk) rfl rfl rfl row_int (HC.out _ _ (own_at hO (k := 3) rfl)).2.1 ?_) | (refine own_load1_at (ad := ad.add (k * 5)) (v := .int .i64 x.n) rfl rfl rfl row_int (HC.out _ _ (own_at hO (k := 3) rfl)).1 ?_) | (refine own_loadrow_at (ad := (ad.add (k * 5)).add 1) (vs := [.int .i64 x.p.blk, .int .i64 x.p.off, .string x.p.dat]) rfl rfl rfl row_pat sz_pat rfl (HC.out _ _ (own_at hO (k := 3) rfl)).2.2 ?_))
        go_roundw
        case rel => exact ⟨k + 1, ov, bl, by omega, rfl, by go_num, HNN, H32, hO, hS⟩
        case measure => simp [intOf]; omega
    · have hke : k = we.length := by omega
      subst hke
      have HFIN : Hid (bl = appAll b.s (suchW i f (we.map (·.1)))) := by
        have := HBL.out
        rw [List.take_length] at this
        exact this
      go_wp2_with (first | (apply own_load1 rfl rfl rfl; (first | exact row_rdptr | exact row_wts | exact row_wrs | exact row_int); (first | exact own_get 0 hO rfl | exact own_get 1 hO rfl | exact own_get 2 hO rfl | exact own_get 3 hO rfl | exact own_get 4 hO rfl | exact own_get 5 hO rfl | exact own_get 6 hO rfl | exact own_get 7 hO rfl); (first | (simp only [List.getElem?_toArray, List.getElem?_cons_succ, List.getElem?_cons_zero]; rfl) | rfl)))
      go_ret
      exact ⟨ov, rfl, by rw [← HFIN.out]; exact hO, hS⟩
end
end Go.Proofs.YtlmkcnkidkoilaaGreat.H
set_option linter.unusedVariables false
set_option linter.unusedSimpArgs false
set_option maxRecDepth 100000
namespace Go.Proofs.YtlmkcnkidkoilaaGreat.H
open Go.RowKit
theorem info_blk3 : (Tryz.prog.info? 128).map (fun i => (i.zero, i.size, i.bytes)) = some (some (.agg (rblk (.slice none 0 0) ⟨sec0, [], false⟩).toArray), 34, 64) := by kernel_rfl
theorem sz_boolD : (Tryz.prog.info? 4).map (·.size) = some 1 := by kernel_rfl
theorem rep_flat {r : List Value} {k : Nat} (hr : r.length = k) : ∀ (n i : Nat), i < n * k → (List.replicate n r).flatten[i]? = r[i % k]?
  | 0, i, h => by omega
  | n + 1, i, h => by
    rw [List.replicate_succ, List.flatten_cons]
    by_cases hi : i < k
    · rw [List.getElem?_append_left (by omega), Nat.mod_eq_of_lt hi]
    · rw [List.getElem?_append_right (by omega), hr, rep_flat hr n (i - k) (by rw [Nat.succ_mul] at h; omega), Nat.mod_eq_sub_mod (a := i) (by omega)]
theorem made_rows {r : List Value} {k : Nat} (hr : r.length = k) (hk : 0 < k) (n : Nat) : madeCells r.toArray (n * k) = (List.replicate n r).flatten.toArray := by
  apply Array.ext'
  refine List.ext_getElem? (fun i => ?_)
  have hl : (List.replicate n r).flatten.length = n * k := by simp [hr]
  simp only [madeCells, Array.toList_map, Array.toList_range]
  by_cases h : i < n * k
  · show _ = (List.replicate n r).flatten[i]?
    have hm : i % k < r.length := by rw [hr]; exact Nat.mod_lt _ hk
    rw [rep_flat hr n i h, List.getElem?_map, List.getElem?_range h, List.getElem?_eq_getElem hm]
    simp only [Option.map_some, List.size_toArray, hr]
    rw [getElem!_pos _ _ (by simpa using hm)]
    simp
  · rw [List.getElem?_eq_none (by simp; omega)]
    show _ = (List.replicate n r).flatten[i]?
    rw [List.getElem?_eq_none (by omega)]
theorem rbs_rep (n : Nat) (x : RB) : rbs (List.replicate n x) = (List.replicate n (rblk x.1 x.2)).flatten := by
  unfold rbs
  rw [List.flatMap_def, List.map_replicate]
theorem made_blks (n : Nat) : madeCells (Value.agg (rblk (.slice none 0 0) ⟨sec0, [], false⟩).toArray).cells (n * 34) = (rbs (List.replicate n (.slice none 0 0, ⟨sec0, [], false⟩))).toArray := by
  rw [rbs_rep]
  exact made_rows (rblk_len (by simp)) (by decide) n
section
variable (w : World) (L : List HP) (q : Nat) (m : List Blk)
theorem rspoil_ok (i : Nat) (b : Blk) (bad : Bool) (hO : Own w (rdiskP q m :: L)) (hi : m[i]? = some b) : Calls Tryz.prog 101 #[.pointer (some ⟨q, 0, none⟩), .int .i64 i, .bool bad] w (Ret w (.int .i64 0) (rdiskP q (m.set i ⟨b.s, b.vs, bad⟩) :: L)) := by
  have HI := Lib.hid hi
  have hS := Same.refl w
  clear hi
  go_enter Tryz.func101, Tryz.ntmps101
  go_upto_region 3 with (first | (go_at_call 92; (with_reducible refine Calls.mono (rmay_ok _ _ q m i b hO HI.out) ?_); clear hO; rintro e u ⟨rfl, hO, hSn⟩; replace hS := hS.trans hSn; clear hSn))
  obtain ⟨g1, cap, rest, rb, l, ⟨hk, hroom⟩, hO⟩ := rdisk_open.1 hO
  obtain ⟨A, c, hrb, hmem⟩ := hk.at_ HI.out
  have HF := Lib.hid (rb_fit (rest := rest) hk.s32 hrb)
  have hb32 : b.s.length = 32 := hk.s32 _ (List.mem_of_getElem? hrb)
  have hv32 : ∀ s ∈ b.vs, s.length = 32 := hk.v32 _ (List.mem_of_getElem? hrb)
  have HK : Hid (ROk (m.set i ⟨b.s, b.vs, bad⟩) (rb.set i (.slice A b.vs.length c, ⟨b.s, b.vs, bad⟩)) l ∧ Room (m.set i ⟨b.s, b.vs, bad⟩) (rb.set i (.slice A b.vs.length c, ⟨b.s, b.vs, bad⟩)) rest cap) := Lib.hid ⟨hk.put (b' := ⟨b.s, b.vs, bad⟩) (fun _ h => h) hb32 hv32 hmem, hroom.put (x := (.slice A b.vs.length c, ⟨b.s, b.vs, bad⟩)) hk hb32⟩
  have HB := Lib.hid (rb_setb (rest := rest) hk.s32 hrb bad)
  have hl : (i : Int) < m.length := by have := (List.getElem?_eq_some_iff.1 HI.out).1; omega
  clear hk hrb hroom hmem hb32 hv32
  go_wp2_with (first | (apply own_load1 rfl rfl rfl; (first | exact row_blks); (first | exact own_get 0 hO rfl | exact own_get 1 hO rfl | exact own_get 2 hO rfl | exact own_get 3 hO rfl | exact own_get 4 hO rfl | exact own_get 5 hO rfl | exact own_get 6 hO rfl | exact own_get 7 hO rfl); (first | (simp only [List.getElem?_toArray, List.getElem?_cons_succ, List.getElem?_cons_zero]; rfl) | rfl)) | (refine own_store1 (k := 1) (b := g1) (off := i * 34 + 33) rfl rfl rfl rfl sz_boolD hO rfl rfl (by have := HF.out; omega) HB.out ?_; clear hO; intro u hO hSn; replace hS := hS.trans hSn; clear hSn; simp only [List.set_cons_zero, List.set_cons_succ] at hO))
  go_ret
  refine ⟨rfl, rdisk_open.2 ⟨g1, cap, rest, _, l, HK.out, ?_⟩, hS⟩
  rw [List.length_set]
  exact hO
theorem rnew_no (n : Int) (hO : Own w L) (h : n < 1 ∨ 96 < n) : Calls Tryz.prog 30 #[.int .i64 n] w (Ret w (.pointer none) L) := by
  by_cases h1 : n < 1
  · clear h
    go_enter Tryz.func30, Tryz.ntmps30
    go_wp2
    go_ret
    exact ⟨rfl, hO, Same.refl _⟩
  · have h2 : 96 < n := by omega
    clear h
    go_enter Tryz.func30, Tryz.ntmps30
    go_wp2
    go_ret
    exact ⟨rfl, hO, Same.refl _⟩
theorem rnew_close {w : World} {L : List HP} {q g n : Nat} (h0 : 0 < n) (h : n ≤ 96) (hO : Own w (pts q (.cells #[.slice (some ⟨g, 0, none⟩) n n] 112) :: pts g (.cells (rbs (List.replicate n (.slice none 0 0, ⟨sec0, [], false⟩))).toArray 128) :: L)) : Own w (rdiskP q (fresh (List.replicate n sec0)) :: L) := by
  have hs : ∀ x ∈ List.replicate n ((.slice none 0 0, ⟨sec0, [], false⟩) : RB), x.2.s.length = 32 := fun x hx => by rw [List.eq_of_mem_replicate hx]; simp
  refine rdisk_open.2 ⟨g, n, [], List.replicate n (.slice none 0 0, ⟨sec0, [], false⟩), [(.slice none 0 0, [])], ⟨⟨?_, ?_, ?_, hs, ?_, ?_⟩, ⟨?_, ?_, ?_⟩⟩, ?_⟩
  · simp [fresh]
  · simpa [fresh] using h0
  · simpa [fresh] using h
  · intro x hx; rw [List.eq_of_mem_replicate hx]; simp
  · intro x hx; rw [List.eq_of_mem_replicate hx]; exact ⟨none, 0, rfl, by simp⟩
  · simp [fresh]
  · unfold maxLen; omega
  · rw [List.append_nil, rbs_length hs, List.length_replicate]
  · rw [List.append_nil]
    have e : (fresh (List.replicate n sec0)).length = n := by simp [fresh]
    rw [e]
    have h2 := rdV_cons (l := []) (v := .slice none 0 0) (ss := []) (rdA_nil (size := 32) (rdV_nil hO))
    exact own_perm h2 ((List.Perm.swap _ _ _).trans (List.Perm.cons _ (List.Perm.swap _ _ _)))
theorem rnew_ok (n : Nat) (hO : Own w L) (h0 : 0 < n) (h : n ≤ 96) : Calls Tryz.prog 30 #[.int .i64 n] w (RetX w (fun d : Nat => .pointer (some ⟨d, 0, none⟩)) (fun d => rdiskP d (fresh (List.replicate n sec0)) :: L)) := by
  have h1 : ¬ ((n : Int) < 1) := by omega
  have h2 : ¬ (96 < (n : Int)) := by omega
  have H0 := Lib.hid h0
  have HN := Lib.hid h
  have hS := Same.refl w
  clear h0 h
  go_enter Tryz.func30, Tryz.ntmps30
  go_wp2_with (first | (at_make; refine own_make (n := n) rfl rfl rfl rfl Tryz.underlying110 info_blk3 (by have := HN.out; omega) (by have := HN.out; omega) (made_blks n) hO ?_; clear hO; intro g u hO hSn; replace hS := hS.trans hSn; clear hSn) | (refine own_box_agg (x := .tmp 11) rfl rfl rfl hO ?_; clear hO; intro q u hO hSn; replace hS := hS.trans hSn; clear hSn))
  go_ret
  have h := rnew_close H0.out HN.out hO
  simp only [fresh, List.map_replicate] at h
  exact ⟨q, rfl, h, hS⟩
end
end Go.Proofs.YtlmkcnkidkoilaaGreat.H
