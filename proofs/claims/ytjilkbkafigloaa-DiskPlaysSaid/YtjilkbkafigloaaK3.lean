/- Lasting, Read of the program's disk. -/
import Derived.Test.YtjilkbkafigloaaK2
set_option linter.unusedVariables false
set_option linter.unusedSimpArgs false
set_option maxRecDepth 100000
namespace Go.Proofs.Ytjilkbkafigloaa.H
open Go.RowKit
/-- A sector as a value. -/
abbrev secV (s : Sec) : Value := .agg (bcs s).toArray
abbrev sec0 : Sec := List.replicate 32 0
theorem secA_size {s : Sec} (h : s.length = 32) : (bcs s).toArray.size = 32 := by simp [bcs_length, h]
theorem info_sec {s : Sec} (h : s.length = 32) : (Try.prog.info? 26).map (·.size) = some (bcs s).toArray.size := by rw [secA_size h]; exact sz_sec
theorem bcs_all (s : Sec) : (bcs s).toArray.toList.all (·.oneCell') = true := by
  rw [List.all_eq_true]
  intro v hv
  exact bcs_one s v (by simpa using hv)
section
variable (w : World) (L : List HP) (d : Nat) (m : List Blk)
/-- What a lasting sector's cells are. -/
theorem last_cell {w : World} {L : List HP} {A : Option Addr} {c : Nat} {m : List Blk} {i : Nat} {b : Blk} (h : Own w (owns 26 32 (.slice A m.length c) m.length (secs (m.map (·.s))) :: L)) (h32 : ∀ b ∈ m, b.s.length = 32) (hi : m[i]? = some b) :
    ∃ ad, A = some ad ∧ ∀ (j : Nat) (u : Value), (bcs b.s)[j]? = some u → w.cell? ((ad.add (i * 32)).add j) = some u := by
  have hr := owns_rd h
  have hm : (m.map (·.s))[i]? = some b.s := by rw [List.getElem?_map, hi]; rfl
  have h32' : ∀ s ∈ m.map (·.s), s.length = 32 := fun s hs => by obtain ⟨b, hb, rfl⟩ := List.mem_map.1 hs; exact h32 b hb
  have hb : (bcs b.s).length = 32 := by rw [bcs_length, h32 b (List.mem_of_getElem? hi)]
  have h0 := secs_at h32' hm (j := 0) (u := (bcs b.s)[0]) (List.getElem?_eq_getElem (by omega))
  obtain ⟨ad, rfl⟩ := hr.addr (by have := (List.getElem?_eq_some_iff.1 h0).1; omega)
  exact ⟨ad, rfl, fun j u hu => hr.cell (secs_at h32' hm hu)⟩
theorem vers_cell {w : World} {A : Option Addr} {c : Nat} {l : List Sec} {i : Nat} {s : Sec} (hr : Rd w 32 (.slice A l.length c) l.length (secs l)) (h32 : ∀ s ∈ l, s.length = 32) (hi : l[i]? = some s) :
    ∃ ad, A = some ad ∧ ∀ (j : Nat) (u : Value), (bcs s)[j]? = some u → w.cell? ((ad.add (i * 32)).add j) = some u := by
  have hb : (bcs s).length = 32 := by rw [bcs_length, h32 s (List.mem_of_getElem? hi)]
  have h0 := secs_at h32 hi (j := 0) (u := (bcs s)[0]) (List.getElem?_eq_getElem (by omega))
  obtain ⟨ad, rfl⟩ := hr.addr (by have := (List.getElem?_eq_some_iff.1 h0).1; omega)
  exact ⟨ad, rfl, fun j u hu => hr.cell (secs_at h32 hi hu)⟩
theorem build0 : Try.prog.info? 26 = Try.prog.info? 26 := rfl
theorem lasting_ok (i : Nat) (b : Blk) (hO : Own w (diskP d m :: L)) (hi : m[i]? = some b) : Calls Try.prog 18 #[.pointer (some ⟨d, 0, none⟩), .int .i64 i] w (Ret w (.tuple #[secV b.s, .int .i64 0]) (diskP d m :: L)) := by
  have HI := Lib.hid hi
  have hS := Same.refl w
  clear hi
  go_enter Try.func18, Try.ntmps18
  go_upto_region 4 with (first | (refine own_alloc (T := 26) rfl rfl zero_sec rfl hO ?_; clear hO; intro g u hO hSn; replace hS := hS.trans hSn; clear hSn) | (go_at_call 36; (with_reducible refine Calls.mono (call_at 1 (fun L' h => may_ok _ L' d m i b h HI.out) rfl hO) ?_); clear hO; rintro e u ⟨rfl, hO, hSn⟩; replace hS := hS.trans hSn; clear hSn; simp only [List.set_cons_zero, List.set_cons_succ] at hO))
  obtain ⟨lv, bv, bb, fv, fb, l, hk, hO⟩ := disk_open.1 (own_perm hO (List.Perm.swap _ _ _))
  have HK := Lib.hid hk
  have h32 : Hid (b.s.length = 32) := hk.s32 b (List.mem_of_getElem? HI.out)
  obtain ⟨A, c, rfl⟩ := (owns_rd (own_at hO (k := 1) rfl)).slice
  obtain ⟨ad, rfl, hc⟩ := last_cell (own_at hO (k := 1) rfl) hk.s32 HI.out
  have HC := Lib.hid hc
  have hl : (i : Int) < m.length := by have := (List.getElem?_eq_some_iff.1 HI.out).1; omega
  clear hk hc
  go_wp2_with (first | (apply own_load1 rfl rfl rfl; (first | exact row_secs | exact row_mv | exact row_mb); (first | exact own_get 0 hO rfl | exact own_get 1 hO rfl | exact own_get 2 hO rfl | exact own_get 3 hO rfl | exact own_get 4 hO rfl | exact own_get 5 hO rfl | exact own_get 6 hO rfl | exact own_get 7 hO rfl); (first | (simp only [List.getElem?_toArray, List.getElem?_cons_succ, List.getElem?_cons_zero]; rfl) | rfl)) | (refine own_loadrow_at (ad := ad.add (i * 32)) (vs := bcs b.s) rfl rfl rfl row_sec sz_sec (by rw [bcs_length]; exact h32.out) HC.out ?_) | (refine own_store_all (k := 5) rfl rfl rfl rfl sz_sec hO rfl (secA_size h32.out) (by rfl) (bcs_all _) ?_; clear hO; intro u hO hSn; replace hS := hS.trans hSn; clear hSn; simp only [List.set_cons_zero, List.set_cons_succ] at hO))
  refine bodyPost_ret (results_cell_tmp rfl rfl (own_get 5 hO rfl) row_sec (info_sec h32.out)) rfl ⟨rfl, ?_, hS⟩
  exact disk_open.2 ⟨_, _, _, _, _, _, HK.out, own_drop (own_at hO (k := 5) rfl)⟩
theorem build_sec (w : World) : (Instr.build 26 #[]).run Try.prog w = .ok (secV sec0) w := by
  first | kernel_rfl | (go_simp; done)
theorem own_build0 {ops : Array Oper} {rest : List Oper} {o : Oper} {a : Act} {Q : Exit → Act → World → Prop} {w : World} (hw : Region.wanted o (yielded ops a.tmps) = true) (ho : o.op = .build 26 #[]) (h : wpList Try.prog ops Q rest (a.put o.dst (secV sec0)) w) : wpList Try.prog ops Q (o :: rest) a w := by
  refine ev hw ?_ h
  simp only [execOp, ho]
  simp [build_sec, Sem.run_bind]
theorem lasting_nil (i : Int) (hO : Own w L) : Calls Try.prog 18 #[.pointer none, .int .i64 i] w (Ret w (.tuple #[secV sec0, .int .i64 1]) L) := by
  have hS := Same.refl w
  go_enter Try.func18, Try.ntmps18
  go_wp2_with (first | (refine own_alloc (T := 26) rfl rfl zero_sec rfl hO ?_; clear hO; intro g u hO hSn; replace hS := hS.trans hSn; clear hSn) | (go_at_call 36; (with_reducible refine Calls.mono (may_nil _ _ i hO) ?_); clear hO; rintro e u ⟨rfl, hO, hSn⟩; replace hS := hS.trans hSn; clear hSn) | (refine own_build0 rfl rfl ?_) | (refine own_store_all (k := 0) rfl rfl rfl rfl sz_sec hO rfl (secA_size (by simp)) (by rfl) (bcs_all _) ?_; clear hO; intro u hO hSn; replace hS := hS.trans hSn; clear hSn; simp only [List.set_cons_zero, List.set_cons_succ] at hO))
  refine bodyPost_ret (results_cell_tmp rfl rfl (own_get 0 hO rfl) row_sec (info_sec (by simp))) rfl ⟨rfl, own_drop hO, hS⟩
theorem lasting_no (i : Int) (hO : Own w (diskP d m :: L)) (hi : i < 0 ∨ (m.length : Int) ≤ i) : Calls Try.prog 18 #[.pointer (some ⟨d, 0, none⟩), .int .i64 i] w (Ret w (.tuple #[secV sec0, .int .i64 2]) (diskP d m :: L)) := by
  have HI := Lib.hid hi
  have hS := Same.refl w
  clear hi
  go_enter Try.func18, Try.ntmps18
  go_wp2_with (first | (refine own_alloc (T := 26) rfl rfl zero_sec rfl hO ?_; clear hO; intro g u hO hSn; replace hS := hS.trans hSn; clear hSn) | (go_at_call 36; (with_reducible refine Calls.mono (call_at 1 (fun L' h => may_no _ L' d m i h HI.out) rfl hO) ?_); clear hO; rintro e u ⟨rfl, hO, hSn⟩; replace hS := hS.trans hSn; clear hSn; simp only [List.set_cons_zero, List.set_cons_succ] at hO) | (refine own_build0 rfl rfl ?_) | (refine own_store_all (k := 0) rfl rfl rfl rfl sz_sec hO rfl (secA_size (by simp)) (by rfl) (bcs_all _) ?_; clear hO; intro u hO hSn; replace hS := hS.trans hSn; clear hSn; simp only [List.set_cons_zero, List.set_cons_succ] at hO))
  refine bodyPost_ret (results_cell_tmp rfl rfl (own_get 0 hO rfl) row_sec (info_sec (by simp))) rfl ⟨rfl, own_drop hO, hS⟩
theorem read_nil (i : Int) (hO : Own w L) : Calls Try.prog 21 #[.pointer none, .int .i64 i] w (Ret w (.tuple #[secV sec0, .int .i64 1]) L) := by
  have hS := Same.refl w
  go_enter Try.func21, Try.ntmps21
  go_wp2_with (first | (refine own_alloc (T := 26) rfl rfl zero_sec rfl hO ?_; clear hO; intro g u hO hSn; replace hS := hS.trans hSn; clear hSn) | (go_at_call 36; (with_reducible refine Calls.mono (may_nil _ _ i hO) ?_); clear hO; rintro e u ⟨rfl, hO, hSn⟩; replace hS := hS.trans hSn; clear hSn) | (refine own_build0 rfl rfl ?_) | (refine own_store_all (k := 0) rfl rfl rfl rfl sz_sec hO rfl (secA_size (by simp)) (by rfl) (bcs_all _) ?_; clear hO; intro u hO hSn; replace hS := hS.trans hSn; clear hSn; simp only [List.set_cons_zero, List.set_cons_succ] at hO))
  refine bodyPost_ret (results_cell_tmp rfl rfl (own_get 0 hO rfl) row_sec (info_sec (by simp))) rfl ⟨rfl, own_drop hO, hS⟩
theorem read_no (i : Int) (hO : Own w (diskP d m :: L)) (hi : i < 0 ∨ (m.length : Int) ≤ i) : Calls Try.prog 21 #[.pointer (some ⟨d, 0, none⟩), .int .i64 i] w (Ret w (.tuple #[secV sec0, .int .i64 2]) (diskP d m :: L)) := by
  have HI := Lib.hid hi
  have hS := Same.refl w
  clear hi
  go_enter Try.func21, Try.ntmps21
  go_wp2_with (first | (refine own_alloc (T := 26) rfl rfl zero_sec rfl hO ?_; clear hO; intro g u hO hSn; replace hS := hS.trans hSn; clear hSn) | (go_at_call 36; (with_reducible refine Calls.mono (call_at 1 (fun L' h => may_no _ L' d m i h HI.out) rfl hO) ?_); clear hO; rintro e u ⟨rfl, hO, hSn⟩; replace hS := hS.trans hSn; clear hSn; simp only [List.set_cons_zero, List.set_cons_succ] at hO) | (refine own_build0 rfl rfl ?_) | (refine own_store_all (k := 0) rfl rfl rfl rfl sz_sec hO rfl (secA_size (by simp)) (by rfl) (bcs_all _) ?_; clear hO; intro u hO hSn; replace hS := hS.trans hSn; clear hSn; simp only [List.set_cons_zero, List.set_cons_succ] at hO))
  refine bodyPost_ret (results_cell_tmp rfl rfl (own_get 0 hO rfl) row_sec (info_sec (by simp))) rfl ⟨rfl, own_drop hO, hS⟩
/-- A block as it was written last. -/
def Blk.now (b : Blk) : Sec := (b.vs.getLast?).getD b.s
theorem read_ok (i : Nat) (b : Blk) (hO : Own w (diskP d m :: L)) (hi : m[i]? = some b) : Calls Try.prog 21 #[.pointer (some ⟨d, 0, none⟩), .int .i64 i] w (Ret w (.tuple #[secV b.now, .int .i64 0]) (diskP d m :: L)) := by
  have HI := Lib.hid hi
  have hS := Same.refl w
  clear hi
  go_enter Try.func21, Try.ntmps21
  go_upto_region 4 with (first | (refine own_alloc (T := 26) rfl rfl zero_sec rfl hO ?_; clear hO; intro g u hO hSn; replace hS := hS.trans hSn; clear hSn) | (go_at_call 36; (with_reducible refine Calls.mono (call_at 1 (fun L' h => may_ok _ L' d m i b h HI.out) rfl hO) ?_); clear hO; rintro e u ⟨rfl, hO, hSn⟩; replace hS := hS.trans hSn; clear hSn; simp only [List.set_cons_zero, List.set_cons_succ] at hO))
  obtain ⟨lv, bv, bb, fv, fb, l, hk, hO⟩ := disk_open.1 (own_perm hO (List.Perm.swap _ _ _))
  have HK := Lib.hid hk
  have h32 : Hid (b.s.length = 32) := hk.s32 b (List.mem_of_getElem? HI.out)
  obtain ⟨A, c, rfl⟩ := (owns_rd (own_at hO (k := 1) rfl)).slice
  obtain ⟨ad, rfl, hc⟩ := last_cell (own_at hO (k := 1) rfl) hk.s32 HI.out
  have HC := Lib.hid hc
  have hl : (i : Int) < m.length := by have := (List.getElem?_eq_some_iff.1 HI.out).1; omega
  obtain ⟨A2, c2, hv, hmem⟩ := hk.vers i b HI.out
  have HV := Lib.hid hv
  have hr2 := rdV_rd (own_at hO (k := 4) rfl) hmem
  have hmx := hr2.max
  cases hvs : b.vs.getLast? with
  | none =>
    have e0 : b.vs = [] := List.getLast?_eq_none_iff.1 hvs
    have enow : Hid (b.now = b.s) := by show _ = _; simp [Blk.now, hvs]
    rw [e0] at HV
    clear hk hc hv hmem hr2 hmx hvs e0
    go_wp2_with (first | (apply own_load1 rfl rfl rfl; (first | exact row_secs | exact row_mv | exact row_mb); (first | exact own_get 0 hO rfl | exact own_get 1 hO rfl | exact own_get 2 hO rfl | exact own_get 3 hO rfl | exact own_get 4 hO rfl | exact own_get 5 hO rfl | exact own_get 6 hO rfl | exact own_get 7 hO rfl); (first | (simp only [List.getElem?_toArray, List.getElem?_cons_succ, List.getElem?_cons_zero]; rfl) | rfl)) | (refine own_mlookup (i := 2) (b := bv) (k := (i : Int)) (f := fv) rfl rfl rfl rfl und_mv und_i zero_secs hO rfl HV.out ?_) | (refine own_loadrow_at (ad := ad.add (i * 32)) (vs := bcs b.s) rfl rfl rfl row_sec sz_sec (by rw [bcs_length]; exact h32.out) HC.out ?_) | (refine own_store_all (k := 5) rfl rfl rfl rfl sz_sec hO rfl (secA_size h32.out) (by rfl) (bcs_all _) ?_; clear hO; intro u hO hSn; replace hS := hS.trans hSn; clear hSn; simp only [List.set_cons_zero, List.set_cons_succ] at hO))
    refine bodyPost_ret (results_cell_tmp rfl rfl (own_get 5 hO rfl) row_sec (info_sec h32.out)) rfl ⟨by rw [enow.out]; rfl, ?_, hS⟩
    exact disk_open.2 ⟨_, _, _, _, _, _, HK.out, own_drop (own_at hO (k := 5) rfl)⟩
  | some s =>
    have hne : b.vs ≠ [] := fun e => by rw [e] at hvs; cases hvs
    have hlen : 0 < b.vs.length := List.length_pos_iff.2 hne
    have hat : b.vs[b.vs.length - 1]? = some s := by rw [← List.getLast?_eq_getElem?]; exact hvs
    have enow : Hid (b.now = s) := by show _ = _; simp [Blk.now, hvs]
    have hv32 := hk.v32 b (List.mem_of_getElem? HI.out)
    have h32s : Hid (s.length = 32) := hv32 s (List.mem_of_getElem? hat)
    obtain ⟨ad2, rfl, hc2⟩ := vers_cell hr2 hv32 hat
    have HC2 := Lib.hid hc2
    have hlt : ((b.vs.length - 1 : Nat) : Int) < b.vs.length := by omega
    have hpos : (0 : Int) < b.vs.length := by omega
    have hsub : IntKind.i64.wrap ((b.vs.length : Int) - 1) = ((b.vs.length - 1 : Nat) : Int) := by rw [IntKind.wrap_i64] <;> omega
    clear hk hc hv hmem hr2 hvs hc2 hat hv32 hne hlen
    go_wp2_with (first | (apply own_load1 rfl rfl rfl; (first | exact row_secs | exact row_mv | exact row_mb); (first | exact own_get 0 hO rfl | exact own_get 1 hO rfl | exact own_get 2 hO rfl | exact own_get 3 hO rfl | exact own_get 4 hO rfl | exact own_get 5 hO rfl | exact own_get 6 hO rfl | exact own_get 7 hO rfl); (first | (simp only [List.getElem?_toArray, List.getElem?_cons_succ, List.getElem?_cons_zero]; rfl) | rfl)) | (refine own_mlookup (i := 2) (b := bv) (k := (i : Int)) (f := fv) rfl rfl rfl rfl und_mv und_i zero_secs hO rfl HV.out ?_) | (refine own_loadrow_at (ad := ad2.add ((b.vs.length - 1) * 32)) (vs := bcs s) rfl rfl rfl row_sec sz_sec (by rw [bcs_length]; exact h32s.out) HC2.out ?_) | (refine own_store_all (k := 5) rfl rfl rfl rfl sz_sec hO rfl (secA_size h32s.out) (by rfl) (bcs_all _) ?_; clear hO; intro u hO hSn; replace hS := hS.trans hSn; clear hSn; simp only [List.set_cons_zero, List.set_cons_succ] at hO))
    refine bodyPost_ret (results_cell_tmp rfl rfl (own_get 5 hO rfl) row_sec (info_sec h32s.out)) rfl ⟨by rw [enow.out]; rfl, ?_, hS⟩
    exact disk_open.2 ⟨_, _, _, _, _, _, HK.out, own_drop (own_at hO (k := 5) rfl)⟩
end
end Go.Proofs.Ytjilkbkafigloaa.H
