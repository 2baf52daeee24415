/- Lasting, Read, Spoil, New, Load of the reference's disk. -/
import Derived.Test.YtjilkbkafigloaaK16
set_option linter.unusedVariables false
set_option linter.unusedSimpArgs false
set_option maxRecDepth 100000
namespace Go.Proofs.Ytjilkbkafigloaa.H
open Go.RowKit
theorem ROk.put {m : List Blk} {rb : List RB} {l l' : List (Value × List Sec)} (h : ROk m rb l) (hl : ∀ x ∈ l, x ∈ l') {i : Nat} {b' : Blk} (h1 : b'.s.length = 32) (h2 : ∀ s ∈ b'.vs, s.length = 32) {A : Option Addr} {c : Nat} (h3 : (.slice A b'.vs.length c, b'.vs) ∈ l') : ROk (m.set i b') (rb.set i (.slice A b'.vs.length c, b')) l' where
  eq := by rw [List.map_set, h.eq]
  pos := by rw [List.length_set]; exact h.pos
  len := by rw [List.length_set]; exact h.len
  s32 := fun x hx => by
    rcases List.mem_or_eq_of_mem_set hx with hx | rfl
    · exact h.s32 x hx
    · exact h1
  v32 := fun x hx => by
    rcases List.mem_or_eq_of_mem_set hx with hx | rfl
    · exact h.v32 x hx
    · exact h2
  vers := fun x hx => by
    rcases List.mem_or_eq_of_mem_set hx with hx | rfl
    · obtain ⟨A', c', e1, e2⟩ := h.vers x hx
      exact ⟨A', c', e1, hl _ e2⟩
    · exact ⟨A, c, rfl, h3⟩
theorem Room.put {m : List Blk} {rb : List RB} {l : List (Value × List Sec)} {rest : List Value} {cap : Nat} (h : Room m rb rest cap) (hk : ROk m rb l) {i : Nat} {x : RB} (h1 : x.2.s.length = 32) : Room (m.set i x.2) (rb.set i x) rest cap where
  le := by rw [List.length_set]; exact h.le
  max := h.max
  size := by
    have h2 := h.size
    rw [List.length_append, rbs_length hk.s32] at h2
    rw [List.length_append, rbs_length (fun y hy => by rcases List.mem_or_eq_of_mem_set hy with hy | rfl; exact hk.s32 y hy; exact h1), List.length_set]
    exact h2
theorem build_rsec (w : World) : (Instr.build 28 #[]).run Try.prog w = .ok (secV sec0) w := by
  first | kernel_rfl | (go_simp; done)
theorem own_rbuild0 {ops : Array Oper} {rest : List Oper} {o : Oper} {a : Act} {Q : Exit → Act → World → Prop} {w : World} (hw : Region.wanted o (yielded ops a.tmps) = true) (ho : o.op = .build 28 #[]) (h : wpList Try.prog ops Q rest (a.put o.dst (secV sec0)) w) : wpList Try.prog ops Q (o :: rest) a w := by
  refine ev hw ?_ h
  simp only [execOp, ho]
  simp [build_rsec, Sem.run_bind]
section
variable (w : World) (L : List HP) (q : Nat) (m : List Blk)
theorem rlasting_no (i : Int) (hO : Own w (rdiskP q m :: L)) (hi : i < 0 ∨ (m.length : Int) ≤ i) : Calls Try.prog 32 #[.pointer (some ⟨q, 0, none⟩), .int .i64 i] w (Ret w (.tuple #[secV sec0, .int .i64 2]) (rdiskP q m :: L)) := by
  have HI := Lib.hid hi
  have hS := Same.refl w
  clear hi
  go_enter Try.func32, Try.ntmps32
  go_wp2_with (first | (refine own_alloc (T := 28) rfl rfl zero_rsec rfl hO ?_; clear hO; intro g u hO hSn; replace hS := hS.trans hSn; clear hSn) | (go_at_call 44; (with_reducible refine Calls.mono (call_at 1 (fun L' h => rmay_no _ L' q m i h HI.out) rfl hO) ?_); clear hO; rintro e u ⟨rfl, hO, hSn⟩; replace hS := hS.trans hSn; clear hSn; simp only [List.set_cons_zero, List.set_cons_succ] at hO) | (refine own_rbuild0 rfl rfl ?_) | (refine own_store_all (k := 0) rfl rfl rfl rfl sz_rsec hO rfl (secA_size (by simp)) (by rfl) (bcs_all _) ?_; clear hO; intro u hO hSn; replace hS := hS.trans hSn; clear hSn; simp only [List.set_cons_zero, List.set_cons_succ] at hO))
  refine bodyPost_ret (results_cell_tmp rfl rfl (own_get 0 hO rfl) row_rsec (info_rsec (by simp))) rfl ⟨rfl, own_drop hO, hS⟩
theorem rread_no (i : Int) (hO : Own w (rdiskP q m :: L)) (hi : i < 0 ∨ (m.length : Int) ≤ i) : Calls Try.prog 31 #[.pointer (some ⟨q, 0, none⟩), .int .i64 i] w (Ret w (.tuple #[secV sec0, .int .i64 2]) (rdiskP q m :: L)) := by
  have HI := Lib.hid hi
  have hS := Same.refl w
  clear hi
  go_enter Try.func31, Try.ntmps31
  go_wp2_with (first | (refine own_alloc (T := 28) rfl rfl zero_rsec rfl hO ?_; clear hO; intro g u hO hSn; replace hS := hS.trans hSn; clear hSn) | (go_at_call 44; (with_reducible refine Calls.mono (call_at 1 (fun L' h => rmay_no _ L' q m i h HI.out) rfl hO) ?_); clear hO; rintro e u ⟨rfl, hO, hSn⟩; replace hS := hS.trans hSn; clear hSn; simp only [List.set_cons_zero, List.set_cons_succ] at hO) | (refine own_rbuild0 rfl rfl ?_) | (refine own_store_all (k := 0) rfl rfl rfl rfl sz_rsec hO rfl (secA_size (by simp)) (by rfl) (bcs_all _) ?_; clear hO; intro u hO hSn; replace hS := hS.trans hSn; clear hSn; simp only [List.set_cons_zero, List.set_cons_succ] at hO))
  refine bodyPost_ret (results_cell_tmp rfl rfl (own_get 0 hO rfl) row_rsec (info_rsec (by simp))) rfl ⟨rfl, own_drop hO, hS⟩
theorem rlasting_ok (i : Nat) (b : Blk) (hO : Own w (rdiskP q m :: L)) (hi : m[i]? = some b) : Calls Try.prog 32 #[.pointer (some ⟨q, 0, none⟩), .int .i64 i] w (Ret w (.tuple #[secV b.s, .int .i64 0]) (rdiskP q m :: L)) := by
  have HI := Lib.hid hi
  have hS := Same.refl w
  clear hi
  go_enter Try.func32, Try.ntmps32
  go_upto_region 4 with (first | (refine own_alloc (T := 28) rfl rfl zero_rsec rfl hO ?_; clear hO; intro g u hO hSn; replace hS := hS.trans hSn; clear hSn) | (go_at_call 44; (with_reducible refine Calls.mono (call_at 1 (fun L' h => rmay_ok _ L' q m i b h HI.out) rfl hO) ?_); clear hO; rintro e u ⟨rfl, hO, hSn⟩; replace hS := hS.trans hSn; clear hSn; simp only [List.set_cons_zero, List.set_cons_succ] at hO))
  obtain ⟨g1, cap, rest, rb, l, ⟨hk, hroom⟩, hO⟩ := rdisk_open.1 (own_perm hO (List.Perm.swap _ _ _))
  have HK := Lib.hid (And.intro hk hroom)
  obtain ⟨A, c, hrb, _⟩ := hk.at_ HI.out
  have hb32 := hk.s32 _ (List.mem_of_getElem? hrb)
  have h32 : Hid (b.s.length = 32) := hb32
  have HR := Lib.hid (rb_row (rest := rest) hk.s32 hrb)
  have HF := Lib.hid (rb_fit (rest := rest) hk.s32 hrb)
  have hl : (i : Int) < m.length := by have := (List.getElem?_eq_some_iff.1 HI.out).1; omega
  clear hk hrb hroom hb32
  go_wp2_with (first | (refine own_loadrow (b := g1) (off := i * 34) (vs := bcs b.s) rfl rfl rfl row_rsec sz_rsec (own_get 1 hO rfl) (by have := HF.out; omega) HR.out ?_) | (apply own_load1 rfl rfl rfl; (first | exact row_blks); (first | exact own_get 0 hO rfl | exact own_get 1 hO rfl | exact own_get 2 hO rfl | exact own_get 3 hO rfl | exact own_get 4 hO rfl | exact own_get 5 hO rfl | exact own_get 6 hO rfl | exact own_get 7 hO rfl); (first | (simp only [List.getElem?_toArray, List.getElem?_cons_succ, List.getElem?_cons_zero]; rfl) | rfl)) | (refine own_store_all (k := 3) rfl rfl rfl rfl sz_rsec hO rfl (secA_size h32.out) (by rfl) (bcs_all _) ?_; clear hO; intro u hO hSn; replace hS := hS.trans hSn; clear hSn; simp only [List.set_cons_zero, List.set_cons_succ] at hO))
  refine bodyPost_ret (results_cell_tmp rfl rfl (own_get 3 hO rfl) row_rsec (info_rsec h32.out)) rfl ⟨rfl, ?_, hS⟩
  exact rdisk_open.2 ⟨_, _, _, _, _, HK.out, own_drop (own_at hO (k := 3) rfl)⟩
theorem rread_ok (i : Nat) (b : Blk) (hO : Own w (rdiskP q m :: L)) (hi : m[i]? = some b) : Calls Try.prog 31 #[.pointer (some ⟨q, 0, none⟩), .int .i64 i] w (Ret w (.tuple #[secV b.now, .int .i64 0]) (rdiskP q m :: L)) := by
  have HI := Lib.hid hi
  have hS := Same.refl w
  clear hi
  go_enter Try.func31, Try.ntmps31
  go_upto_region 4 with (first | (refine own_alloc (T := 28) rfl rfl zero_rsec rfl hO ?_; clear hO; intro g u hO hSn; replace hS := hS.trans hSn; clear hSn) | (go_at_call 44; (with_reducible refine Calls.mono (call_at 1 (fun L' h => rmay_ok _ L' q m i b h HI.out) rfl hO) ?_); clear hO; rintro e u ⟨rfl, hO, hSn⟩; replace hS := hS.trans hSn; clear hSn; simp only [List.set_cons_zero, List.set_cons_succ] at hO))
  obtain ⟨g1, cap, rest, rb, l, ⟨hk, hroom⟩, hO⟩ := rdisk_open.1 (own_perm hO (List.Perm.swap _ _ _))
  have HK := Lib.hid (And.intro hk hroom)
  obtain ⟨A, c, hrb, hmem⟩ := hk.at_ HI.out
  have hb32 := hk.s32 _ (List.mem_of_getElem? hrb)
  have h32 : Hid (b.s.length = 32) := hb32
  have HR := Lib.hid (rb_row (rest := rest) hk.s32 hrb)
  have HF := Lib.hid (rb_fit (rest := rest) hk.s32 hrb)
  have HV := Lib.hid (rb_v (rest := rest) hk.s32 hrb)
  have hl : (i : Int) < m.length := by have := (List.getElem?_eq_some_iff.1 HI.out).1; omega
  have hr2 := rdV_rd (own_at hO (k := 2) rfl) hmem
  have hmx := hr2.max
  have hv32 := hk.v32 _ (List.mem_of_getElem? hrb)
  cases hvs : b.vs.getLast? with
  | none =>
    have e0 : b.vs = [] := List.getLast?_eq_none_iff.1 hvs
    have enow : Hid (b.now = b.s) := by show _ = _; simp [Blk.now, hvs]
    rw [e0] at HV
    clear hk hrb hmem hr2 hmx hvs e0 hv32 hroom hb32
    go_wp2_with (first | (refine own_load1 (b := g1) (off := i * 34 + 32) (v := .slice A 0 c) rfl rfl rfl row_rsecs (own_get 1 hO rfl) HV.out ?_) | (refine own_loadrow (b := g1) (off := i * 34) (vs := bcs b.s) rfl rfl rfl row_rsec sz_rsec (own_get 1 hO rfl) (by have := HF.out; omega) HR.out ?_) | (apply own_load1 rfl rfl rfl; (first | exact row_blks); (first | exact own_get 0 hO rfl | exact own_get 1 hO rfl | exact own_get 2 hO rfl | exact own_get 3 hO rfl | exact own_get 4 hO rfl | exact own_get 5 hO rfl | exact own_get 6 hO rfl | exact own_get 7 hO rfl); (first | (simp only [List.getElem?_toArray, List.getElem?_cons_succ, List.getElem?_cons_zero]; rfl) | rfl)) | (refine own_store_all (k := 3) rfl rfl rfl rfl sz_rsec hO rfl (secA_size h32.out) (by rfl) (bcs_all _) ?_; clear hO; intro u hO hSn; replace hS := hS.trans hSn; clear hSn; simp only [List.set_cons_zero, List.set_cons_succ] at hO))
    refine bodyPost_ret (results_cell_tmp rfl rfl (own_get 3 hO rfl) row_rsec (info_rsec h32.out)) rfl ⟨by rw [enow.out]; rfl, ?_, hS⟩
    exact rdisk_open.2 ⟨_, _, _, _, _, HK.out, own_drop (own_at hO (k := 3) rfl)⟩
  | some s =>
    have hne : b.vs ≠ [] := fun e => by rw [e] at hvs; cases hvs
    have hlen : 0 < b.vs.length := List.length_pos_iff.2 hne
    have hat : b.vs[b.vs.length - 1]? = some s := by rw [← List.getLast?_eq_getElem?]; exact hvs
    have enow : Hid (b.now = s) := by show _ = _; simp [Blk.now, hvs]
    have h32s : Hid (s.length = 32) := hv32 s (List.mem_of_getElem? hat)
    obtain ⟨ad2, rfl, hc2⟩ := vers_cell hr2 hv32 hat
    have HC2 := Lib.hid hc2
    have hlt : ((b.vs.length - 1 : Nat) : Int) < b.vs.length := by omega
    have hpos : (0 : Int) < b.vs.length := by omega
    have hsub : IntKind.i64.wrap ((b.vs.length : Int) - 1) = ((b.vs.length - 1 : Nat) : Int) := by rw [IntKind.wrap_i64] <;> omega
    clear hk hrb hmem hr2 hvs hc2 hat hv32 hne hlen hroom hb32
    go_wp2_with (first | (refine own_load1 (b := g1) (off := i * 34 + 32) (v := .slice (some ad2) b.vs.length c) rfl rfl rfl row_rsecs (own_get 1 hO rfl) HV.out ?_) | (refine own_loadrow_at (ad := ad2.add ((b.vs.length - 1) * 32)) (vs := bcs s) rfl rfl rfl row_rsec sz_rsec (by rw [bcs_length]; exact h32s.out) HC2.out ?_) | (apply own_load1 rfl rfl rfl; (first | exact row_blks); (first | exact own_get 0 hO rfl | exact own_get 1 hO rfl | exact own_get 2 hO rfl | exact own_get 3 hO rfl | exact own_get 4 hO rfl | exact own_get 5 hO rfl | exact own_get 6 hO rfl | exact own_get 7 hO rfl); (first | (simp only [List.getElem?_toArray, List.getElem?_cons_succ, List.getElem?_cons_zero]; rfl) | rfl)) | (refine own_store_all (k := 3) rfl rfl rfl rfl sz_rsec hO rfl (secA_size h32s.out) (by rfl) (bcs_all _) ?_; clear hO; intro u hO hSn; replace hS := hS.trans hSn; clear hSn; simp only [List.set_cons_zero, List.set_cons_succ] at hO))
    refine bodyPost_ret (results_cell_tmp rfl rfl (own_get 3 hO rfl) row_rsec (info_rsec h32s.out)) rfl ⟨by rw [enow.out]; rfl, ?_, hS⟩
    exact rdisk_open.2 ⟨_, _, _, _, _, HK.out, own_drop (own_at hO (k := 3) rfl)⟩
theorem rspoil_no (i : Int) (bad : Bool) (hO : Own w (rdiskP q m :: L)) (hi : i < 0 ∨ (m.length : Int) ≤ i) : Calls Try.prog 43 #[.pointer (some ⟨q, 0, none⟩), .int .i64 i, .bool bad] w (Ret w (.int .i64 2) (rdiskP q m :: L)) := by
  have HI := Lib.hid hi
  have hS := Same.refl w
  clear hi
  go_enter Try.func43, Try.ntmps43
  go_wp2_with (first | (go_at_call 44; (with_reducible refine Calls.mono (rmay_no _ _ q m i hO HI.out) ?_); clear hO; rintro e u ⟨rfl, hO, hSn⟩; replace hS := hS.trans hSn; clear hSn))
  go_ret
  exact ⟨rfl, hO, hS⟩
end
end Go.Proofs.Ytjilkbkafigloaa.H
