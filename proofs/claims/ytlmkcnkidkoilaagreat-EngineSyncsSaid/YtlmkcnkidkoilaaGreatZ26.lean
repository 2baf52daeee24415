/- Write of the reference's disk. Flush of the reference's disk. -/
import Derived.Test.YtlmkcnkidkoilaaGreatZ25
import Derived.Test.YtlmkcnkidkoilaaGreatZ17
set_option linter.unusedVariables false
set_option linter.unusedSimpArgs false
set_option maxRecDepth 100000
namespace Go.Proofs.YtlmkcnkidkoilaaGreat.H
open Go.RowKit
theorem run_rbs1 {s : Sec} (h : s.length = 32) (w : World) : (Instr.buildSlice 126 1 #[(0, secV s)]).run Tryz.prog w = .ok (.slice (some ⟨w.heap.size, 0, none⟩) 1 1) (w.alloc (.cells (bcs s).toArray 94)) := by
  obtain ⟨i, hi, hz⟩ := Option.map_eq_some_iff.1 zero_rsec
  have hsz : i.size = 32 := by have := sz_rsec; rw [hi] at this; simpa using this
  have hk : ∀ cs : List Value, cs.length = 32 → Instr.fill (fun i => some (i * 32, 32)) cs.toArray [(0, secV s)] = some (bcs s).toArray := fun cs hcs => fill_one (by rw [bcs_length, h]) hcs
  simp [Instr.buildSlice, run_underlying Tryz.underlying126, sizeOf, typeInfo, zeroValue, hi, hz, hsz, Value.cells, hk, newRow]
theorem own_rbs1 {ops : Array Oper} {rest : List Oper} {o : Oper} {a : Act} {Q : Exit → Act → World → Prop} {w : World} {x : Operand} {s : Sec} (hw : Region.wanted o (yielded ops a.tmps) = true) (ho : o.op = .buildSlice 126 1 #[(0, x)]) (hx : a.eval x = secV s) (hs : s.length = 32) (h : wpList Tryz.prog ops Q rest (a.put o.dst (.slice (some ⟨w.heap.size, 0, none⟩) 1 1)) (w.alloc (.cells (bcs s).toArray 94))) : wpList Tryz.prog ops Q (o :: rest) a w := by
  refine ev hw ?_ h
  have e : (#[(0, x)] : Array (Nat × Operand)).map (fun (i, x) => (i, a.eval x)) = #[(0, secV s)] := by simp [hx]
  simp only [execOp, ho, e, Sem.run_bind, run_rbs1 hs]
  rfl
theorem info_rsec3 : (Tryz.prog.info? 94).map (fun i => (i.zero, i.size, i.bytes)) = some (some (.agg (Array.replicate 32 (.int .u8 0))), 32, 32) := by kernel_rfl
theorem sz_rsecs1 : (Tryz.prog.info? 126).map (·.size) = some 1 := by kernel_rfl
theorem owns_one {w : World} {L : List HP} {g : Nat} {s : Sec} (h : s.length = 32) (hO : Own w (pts g (.cells (bcs s).toArray 94) :: L)) : Own w (owns 94 32 (.slice (some ⟨g, 0, none⟩) 1 1) 1 (bcs s) :: L) :=
  owns_of_pts hO (by simp [bcs_length, h]) (Nat.le_refl _) (by decide) (List.take_of_length_le (by simp [bcs_length, h]))
section
variable (w : World) (L : List HP) (q : Nat) (m : List Blk)
theorem rwrite_no (i : Int) (s : Sec) (hO : Own w (rdiskP q m :: L)) (hi : i < 0 ∨ (m.length : Int) ≤ i) : Calls Tryz.prog 99 #[.pointer (some ⟨q, 0, none⟩), .int .i64 i, secV s] w (Ret w (.int .i64 2) (rdiskP q m :: L)) := by
  have HI := Lib.hid hi
  have hS := Same.refl w
  clear hi
  go_enter Tryz.func99, Tryz.ntmps99
  go_wp2_with (first | (refine own_box_agg (x := .tmp 2) rfl rfl rfl hO ?_; clear hO; intro bx u hO hSn; replace hS := hS.trans hSn; clear hSn) | (go_at_call 92; (with_reducible refine Calls.mono (call_at 1 (fun L' h => rmay_no _ L' q m i h HI.out) rfl hO) ?_); clear hO; rintro e u ⟨rfl, hO, hSn⟩; replace hS := hS.trans hSn; clear hSn; simp only [List.set_cons_zero, List.set_cons_succ] at hO))
  go_ret
  exact ⟨rfl, own_drop hO, hS⟩
theorem rwrite_bad (i : Nat) (b : Blk) (s : Sec) (hO : Own w (rdiskP q m :: L)) (hi : m[i]? = some b) (hb : b.bad = true) : Calls Tryz.prog 99 #[.pointer (some ⟨q, 0, none⟩), .int .i64 i, secV s] w (Ret w (.int .i64 10) (rdiskP q m :: L)) := by
  have HI := Lib.hid hi
  have HB := Lib.hid hb
  have hS := Same.refl w
  clear hi hb
  go_enter Tryz.func99, Tryz.ntmps99
  go_upto_region 4 with (first | (refine own_box_agg (x := .tmp 2) rfl rfl rfl hO ?_; clear hO; intro bx u hO hSn; replace hS := hS.trans hSn; clear hSn) | (go_at_call 92; (with_reducible refine Calls.mono (call_at 1 (fun L' h => rmay_ok _ L' q m i b h HI.out) rfl hO) ?_); clear hO; rintro e u ⟨rfl, hO, hSn⟩; replace hS := hS.trans hSn; clear hSn; simp only [List.set_cons_zero, List.set_cons_succ] at hO))
  obtain ⟨g1, cap, rest, rb, l, ⟨hk, hroom⟩, hO⟩ := rdisk_open.1 (own_perm hO (List.Perm.swap _ _ _))
  have HK := Lib.hid (And.intro hk hroom)
  obtain ⟨A, c, hrb, hmem⟩ := hk.at_ HI.out
  have hbad := rb_b (rest := rest) hk.s32 hrb
  simp only [HB.out] at hbad
  have HBAD := Lib.hid hbad
  have hl : (i : Int) < m.length := by have := (List.getElem?_eq_some_iff.1 HI.out).1; omega
  clear hk hrb hroom hmem hbad
  go_wp2_with (first | (refine own_load1 (b := g1) (off := i * 34 + 33) (v := .bool true) rfl rfl rfl row_boolD (own_get 1 hO rfl) HBAD.out ?_) | (apply own_load1 rfl rfl rfl; (first | exact row_blks); (first | exact own_get 0 hO rfl | exact own_get 1 hO rfl | exact own_get 2 hO rfl | exact own_get 3 hO rfl | exact own_get 4 hO rfl | exact own_get 5 hO rfl | exact own_get 6 hO rfl | exact own_get 7 hO rfl); (first | (simp only [List.getElem?_toArray, List.getElem?_cons_succ, List.getElem?_cons_zero]; rfl) | rfl)))
  go_ret
  exact ⟨rfl, rdisk_open.2 ⟨_, _, _, _, _, HK.out, own_drop (own_at hO (k := 3) rfl)⟩, hS⟩
set_option maxHeartbeats 3200000 in
theorem rwrite_ok (i : Nat) (b : Blk) (s : Sec) (hO : Own w (rdiskP q m :: L)) (hi : m[i]? = some b) (hb : b.bad = false) (hs : s.length = 32) (hlim : b.vs.length ≤ 1000000) : Calls Tryz.prog 99 #[.pointer (some ⟨q, 0, none⟩), .int .i64 i, secV s] w (Ret w (.int .i64 0) (rdiskP q (m.set i (b.wr s)) :: L)) := by
  have HI := Lib.hid hi
  have HB := Lib.hid hb
  have H32 := Lib.hid hs
  have HLIM := Lib.hid hlim
  have hS := Same.refl w
  clear hi hb hs hlim
  go_enter Tryz.func99, Tryz.ntmps99
  go_upto_region 4 with (first | (refine own_box_agg (x := .tmp 2) rfl rfl rfl hO ?_; clear hO; intro bx u hO hSn; replace hS := hS.trans hSn; clear hSn) | (go_at_call 92; (with_reducible refine Calls.mono (call_at 1 (fun L' h => rmay_ok _ L' q m i b h HI.out) rfl hO) ?_); clear hO; rintro e u ⟨rfl, hO, hSn⟩; replace hS := hS.trans hSn; clear hSn; simp only [List.set_cons_zero, List.set_cons_succ] at hO))
  obtain ⟨g1, cap, rest, rb, l, ⟨hk, hroom⟩, hO⟩ := rdisk_open.1 (own_perm hO (List.Perm.swap _ _ _))
  have HK := Lib.hid (And.intro hk hroom)
  obtain ⟨A, c, hrb, hmem⟩ := hk.at_ HI.out
  have hbad := rb_b (rest := rest) hk.s32 hrb
  simp only [HB.out] at hbad
  have HBAD := Lib.hid hbad
  have HV := Lib.hid (rb_v (rest := rest) hk.s32 hrb)
  have HF := Lib.hid (rb_fit (rest := rest) hk.s32 hrb)
  have HRB := Lib.hid hrb
  have HMEM := Lib.hid hmem
  have hl : (i : Int) < m.length := by have := (List.getElem?_eq_some_iff.1 HI.out).1; omega
  clear hk hrb hroom hmem hbad
  go_upto_region 6 with (first | (refine own_load1 (b := g1) (off := i * 34 + 33) (v := .bool false) rfl rfl rfl row_boolD (own_get 1 hO rfl) HBAD.out ?_) | (apply own_load1 rfl rfl rfl; (first | exact row_blks); (first | exact own_get 0 hO rfl | exact own_get 1 hO rfl | exact own_get 2 hO rfl | exact own_get 3 hO rfl | exact own_get 4 hO rfl | exact own_get 5 hO rfl | exact own_get 6 hO rfl | exact own_get 7 hO rfl); (first | (simp only [List.getElem?_toArray, List.getElem?_cons_succ, List.getElem?_cons_zero]; rfl) | rfl)))
  refine wp_region_own (α := Nat → Value) (fun x => .pointer (some ⟨q, 0, none⟩) :: .pointer (some ⟨q, 0, none⟩) :: .pointer (some ⟨q, 0, none⟩) :: .slice (some ⟨g1, 0, none⟩) m.length cap :: .int .i64 i :: x 5 :: .pointer (some ⟨q, 0, none⟩) :: .pointer (some ⟨q, 0, none⟩) :: .pointer (some ⟨q, 0, none⟩) :: .slice (some ⟨g1, 0, none⟩) m.length cap :: .int .i64 i :: .pointer (some ⟨g1, i * 34, none⟩) :: .pointer (some ⟨g1, i * 34 + 32, none⟩) :: .slice A b.vs.length c :: x 14 :: secV s :: x 16 :: x 17 :: .pointer (some ⟨g1, i * 34, none⟩) :: .pointer (some ⟨g1, i * 34 + 32, none⟩) :: undef :: [])
    (stB 20 ([pts q (.cells #[.slice (some ⟨g1, 0, none⟩) m.length cap] 112), pts g1 (.cells (rbs rb ++ rest).toArray 128), rdV l, pts bx (.cells (bcs s).toArray 94)] ++ L)
      (fun x => [pts q (.cells #[.slice (some ⟨g1, 0, none⟩) m.length cap] 112), pts g1 (.cells (rbs (rb.set i (x 17, b.wr s)) ++ rest).toArray 128), rdV l, pts bx (.cells (bcs s).toArray 94)] ++ L)
      [(5, some 14, fun v => owns 94 32 v 0 []), (14, some 17, fun v => owns 94 32 v b.vs.length (secs b.vs)), (16, some 17, fun v => owns 94 32 v 1 (bcs s)), (17, none, fun v => owns 94 32 v (b.vs.length + 1) (secs b.vs ++ bcs s))]) u (fun _ => undef) 42 (fun _ => rfl) mixed (by kernel_rfl) rfl (by rw [stB_no rfl, owL_none, List.append_nil]; exact own_heap hO (fun _ _ h => h)) (Same.drew _) (fun _ _ _ _ hd h => ⟨hd ▸ h.1, h.2⟩) ?_ ?_
  · refine ⟨?_, ?_, ?_, ?_, ?_, ?_, ?_, ?_, ?_, ?_, ?_, ?_, ?_, ?_, ?_, ?_, ?_, ?_, ?_, ?_, ?_, trivial⟩
    · refine fs_lift 20 (by decide) (by kernel_rfl) ?_; (refine fs_pure (fun _ _ => rfl) (fun D x hD hcl hp => ?_); simp only [putO]; simp only [Act.put, List.setIfInBounds_toArray, List.set_cons_zero, List.set_cons_succ]; first | exact y_skip rfl | exact y_run rfl (by intro w h; go_simp; first | done | rfl))
    · refine fs_lift 20 (by decide) (by kernel_rfl) ?_; (refine fs_pure (fun _ _ => rfl) (fun D x hD hcl hp => ?_); simp only [putO]; simp only [Act.put, List.setIfInBounds_toArray, List.set_cons_zero, List.set_cons_succ]; first | exact y_skip rfl | exact y_run rfl (by intro w h; go_simp; first | done | rfl))
    · refine fs_lift 20 (by decide) (by kernel_rfl) ?_; (refine fs_pure (fun _ _ => rfl) (fun D x hD hcl hp => ?_); simp only [putO]; simp only [Act.put, List.setIfInBounds_toArray, List.set_cons_zero, List.set_cons_succ]; first | exact y_skip rfl | exact y_run rfl (by intro w h; go_simp; first | done | rfl))
    · refine fs_lift 20 (by decide) (by kernel_rfl) ?_; (refine fs_pure (fun _ _ => rfl) (fun D x hD hcl hp => ?_); simp only [putO]; simp only [Act.put, List.setIfInBounds_toArray, List.set_cons_zero, List.set_cons_succ]; first | exact y_skip rfl | exact (y_load1 (b := q) (off := 0) (cs := #[.slice (some ⟨g1, 0, none⟩) m.length cap]) (t := 112) (v := .slice (some ⟨g1, 0, none⟩) m.length cap) rfl rfl rfl row_blks (fun w h => own_get 0 h.1 rfl) rfl) | exact y_run rfl (by intro w h; go_simp; first | done | rfl))
    · refine fs_lift 20 (by decide) (by kernel_rfl) ?_; (refine fs_pure (fun _ _ => rfl) (fun D x hD hcl hp => ?_); simp only [putO]; simp only [Act.put, List.setIfInBounds_toArray, List.set_cons_zero, List.set_cons_succ]; first | exact y_skip rfl | exact y_run rfl (by intro w h; go_simp; first | done | rfl))
    · refine fs_lift 20 (by decide) (by kernel_rfl) ?_; (refine @fs_new _ _ _ _ _ _ _ _ _ _ _ _ [] (fun v => v) rfl rfl (by kernel_rfl) (by kernel_rfl) (by intro j; rcases j with _ | j; (focus (first | exact .inr fun _ _ => rfl | exact .inl (by kernel_rfl))); rcases j with _ | j; (focus (first | exact .inr fun _ _ => rfl | exact .inl (by kernel_rfl))); rcases j with _ | j; (focus (first | exact .inr fun _ _ => rfl | exact .inl (by kernel_rfl))); rcases j with _ | j; (focus (first | exact .inr fun _ _ => rfl | exact .inl (by kernel_rfl))); rcases j with _ | j; (focus (first | exact .inr fun _ _ => rfl | exact .inl (by kernel_rfl))); rcases j with _ | j; (focus (first | exact .inr fun _ _ => rfl | exact .inl (by kernel_rfl))); rcases j with _ | j; (focus (first | exact .inr fun _ _ => rfl | exact .inl (by kernel_rfl))); rcases j with _ | j; (focus (first | exact .inr fun _ _ => rfl | exact .inl (by kernel_rfl))); rcases j with _ | j; (focus (first | exact .inr fun _ _ => rfl | exact .inl (by kernel_rfl))); rcases j with _ | j; (focus (first | exact .inr fun _ _ => rfl | exact .inl (by kernel_rfl))); rcases j with _ | j; (focus (first | exact .inr fun _ _ => rfl | exact .inl (by kernel_rfl))); rcases j with _ | j; (focus (first | exact .inr fun _ _ => rfl | exact .inl (by kernel_rfl))); rcases j with _ | j; (focus (first | exact .inr fun _ _ => rfl | exact .inl (by kernel_rfl))); rcases j with _ | j; (focus (first | exact .inr fun _ _ => rfl | exact .inl (by kernel_rfl))); rcases j with _ | j; (focus (first | exact .inr fun _ _ => rfl | exact .inl (by kernel_rfl))); rcases j with _ | j; (focus (first | exact .inr fun _ _ => rfl | exact .inl (by kernel_rfl))); rcases j with _ | j; (focus (first | exact .inr fun _ _ => rfl | exact .inl (by kernel_rfl))); rcases j with _ | j; (focus (first | exact .inr fun _ _ => rfl | exact .inl (by kernel_rfl))); rcases j with _ | j; (focus (first | exact .inr fun _ _ => rfl | exact .inl (by kernel_rfl))); rcases j with _ | j; (focus (first | exact .inr fun _ _ => rfl | exact .inl (by kernel_rfl))); rcases j with _ | j; (focus (first | exact .inr fun _ _ => rfl | exact .inl (by kernel_rfl))); exact .inr fun _ _ => rfl) (fun _ _ => rfl) ?_; intro D x u hD hcl hp hO hS N hN; simp only [putO]; simp only [Act.put, List.setIfInBounds_toArray, List.set_cons_zero, List.set_cons_succ]; refine own_lit0 rfl rfl Tryz.underlying126 sz_rsec hO (fun b w3 hO3 hS3 => hN _ _ _ rfl rfl hO3 hS3))
    · refine fs_lift 20 (by decide) (by kernel_rfl) ?_; (refine fs_pure (fun _ _ => rfl) (fun D x hD hcl hp => ?_); simp only [putO]; simp only [Act.put, List.setIfInBounds_toArray, List.set_cons_zero, List.set_cons_succ]; first | exact y_skip rfl | exact y_run rfl (by intro w h; go_simp; first | done | rfl))
    · refine fs_lift 20 (by decide) (by kernel_rfl) ?_; (refine fs_pure (fun _ _ => rfl) (fun D x hD hcl hp => ?_); simp only [putO]; simp only [Act.put, List.setIfInBounds_toArray, List.set_cons_zero, List.set_cons_succ]; first | exact y_skip rfl | exact y_run rfl (by intro w h; go_simp; first | done | rfl))
    · refine fs_lift 20 (by decide) (by kernel_rfl) ?_; (refine fs_pure (fun _ _ => rfl) (fun D x hD hcl hp => ?_); simp only [putO]; simp only [Act.put, List.setIfInBounds_toArray, List.set_cons_zero, List.set_cons_succ]; first | exact y_skip rfl | exact y_run rfl (by intro w h; go_simp; first | done | rfl))
    · refine fs_lift 20 (by decide) (by kernel_rfl) ?_; (refine fs_pure (fun _ _ => rfl) (fun D x hD hcl hp => ?_); simp only [putO]; simp only [Act.put, List.setIfInBounds_toArray, List.set_cons_zero, List.set_cons_succ]; first | exact y_skip rfl | exact (y_load1 (b := q) (off := 0) (cs := #[.slice (some ⟨g1, 0, none⟩) m.length cap]) (t := 112) (v := .slice (some ⟨g1, 0, none⟩) m.length cap) rfl rfl rfl row_blks (fun w h => own_get 0 h.1 rfl) rfl) | exact y_run rfl (by intro w h; go_simp; first | done | rfl))
    · refine fs_lift 20 (by decide) (by kernel_rfl) ?_; (refine fs_pure (fun _ _ => rfl) (fun D x hD hcl hp => ?_); simp only [putO]; simp only [Act.put, List.setIfInBounds_toArray, List.set_cons_zero, List.set_cons_succ]; first | exact y_skip rfl | exact y_run rfl (by intro w h; go_simp; first | done | rfl))
    · refine fs_lift 20 (by decide) (by kernel_rfl) ?_; (refine fs_pure (fun _ _ => rfl) (fun D x hD hcl hp => ?_); simp only [putO]; simp only [Act.put, List.setIfInBounds_toArray, List.set_cons_zero, List.set_cons_succ]; first | exact y_skip rfl | exact y_run rfl (by intro w h; go_simp; first | done | rfl))
    · refine fs_lift 20 (by decide) (by kernel_rfl) ?_; (refine fs_pure (fun _ _ => rfl) (fun D x hD hcl hp => ?_); simp only [putO]; simp only [Act.put, List.setIfInBounds_toArray, List.set_cons_zero, List.set_cons_succ]; first | exact y_skip rfl | exact y_run rfl (by intro w h; go_simp; first | done | rfl))
    · refine fs_lift 20 (by decide) (by kernel_rfl) ?_; (refine fs_pure (fun _ _ => rfl) (fun D x hD hcl hp => ?_); simp only [putO]; simp only [Act.put, List.setIfInBounds_toArray, List.set_cons_zero, List.set_cons_succ]; first | exact y_skip rfl | exact (y_load1 (b := g1) (off := i * 34 + 32) (cs := (rbs rb ++ rest).toArray) (t := 128) (v := .slice A b.vs.length c) rfl rfl rfl row_rsecs (fun w h => own_get 1 h.1 rfl) HV.out) | exact y_run rfl (by intro w h; go_simp; first | done | rfl))
    · refine fs_lift 20 (by decide) (by kernel_rfl) ?_; (refine @fs_new _ _ _ _ _ _ _ _ _ _ _ _ [(5, some 14, fun v => owns 94 32 v 0 [])] (fun v => v) rfl rfl (by kernel_rfl) (by kernel_rfl) (by intro j; rcases j with _ | j; (focus (first | exact .inr fun _ _ => rfl | exact .inl (by kernel_rfl))); rcases j with _ | j; (focus (first | exact .inr fun _ _ => rfl | exact .inl (by kernel_rfl))); rcases j with _ | j; (focus (first | exact .inr fun _ _ => rfl | exact .inl (by kernel_rfl))); rcases j with _ | j; (focus (first | exact .inr fun _ _ => rfl | exact .inl (by kernel_rfl))); rcases j with _ | j; (focus (first | exact .inr fun _ _ => rfl | exact .inl (by kernel_rfl))); rcases j with _ | j; (focus (first | exact .inr fun _ _ => rfl | exact .inl (by kernel_rfl))); rcases j with _ | j; (focus (first | exact .inr fun _ _ => rfl | exact .inl (by kernel_rfl))); rcases j with _ | j; (focus (first | exact .inr fun _ _ => rfl | exact .inl (by kernel_rfl))); rcases j with _ | j; (focus (first | exact .inr fun _ _ => rfl | exact .inl (by kernel_rfl))); rcases j with _ | j; (focus (first | exact .inr fun _ _ => rfl | exact .inl (by kernel_rfl))); rcases j with _ | j; (focus (first | exact .inr fun _ _ => rfl | exact .inl (by kernel_rfl))); rcases j with _ | j; (focus (first | exact .inr fun _ _ => rfl | exact .inl (by kernel_rfl))); rcases j with _ | j; (focus (first | exact .inr fun _ _ => rfl | exact .inl (by kernel_rfl))); rcases j with _ | j; (focus (first | exact .inr fun _ _ => rfl | exact .inl (by kernel_rfl))); rcases j with _ | j; (focus (first | exact .inr fun _ _ => rfl | exact .inl (by kernel_rfl))); rcases j with _ | j; (focus (first | exact .inr fun _ _ => rfl | exact .inl (by kernel_rfl))); rcases j with _ | j; (focus (first | exact .inr fun _ _ => rfl | exact .inl (by kernel_rfl))); rcases j with _ | j; (focus (first | exact .inr fun _ _ => rfl | exact .inl (by kernel_rfl))); rcases j with _ | j; (focus (first | exact .inr fun _ _ => rfl | exact .inl (by kernel_rfl))); rcases j with _ | j; (focus (first | exact .inr fun _ _ => rfl | exact .inl (by kernel_rfl))); rcases j with _ | j; (focus (first | exact .inr fun _ _ => rfl | exact .inl (by kernel_rfl))); exact .inr fun _ _ => rfl) (fun _ _ => rfl) ?_; intro D x u hD hcl hp hO hS N hN; simp only [putO]; simp only [Act.put, List.setIfInBounds_toArray, List.set_cons_zero, List.set_cons_succ]; refine own_append (m := b.vs.length) (n := 0) (xs := []) (news := secs b.vs) rfl rfl rfl rfl Tryz.underlying126 info_rsec3 (by simp [Value.cells]) (by decide) hO (rdV_rd (own_at hO (k := 3) rfl) HMEM.out) secs_one ?_ ?_ (fun v3 w3 hO3 hS3 _ => hN _ _ _ rfl rfl (by rw [Nat.zero_add] at hO3; exact hO3) hS3); (have := HLIM.out; simp only [maxLen]; omega); (have := HLIM.out; omega))
    · refine fs_lift 20 (by decide) (by kernel_rfl) ?_; (refine fs_pure (fun _ _ => rfl) (fun D x hD hcl hp => ?_); simp only [putO]; simp only [Act.put, List.setIfInBounds_toArray, List.set_cons_zero, List.set_cons_succ]; first | exact y_skip rfl | exact (y_loadrow (b := bx) (off := 0) (cs := (bcs s).toArray) (t := 94) (vs := bcs s) rfl rfl rfl row_rsec sz_rsec (fun w h => own_get 3 h.1 rfl) (by simp [bcs_length, H32.out]) (by rw [List.drop_zero]; exact List.take_of_length_le (by simp [bcs_length, H32.out]))) | exact y_run rfl (by intro w h; go_simp; first | done | rfl))
    · refine fs_lift 20 (by decide) (by kernel_rfl) ?_; (refine @fs_new _ _ _ _ _ _ _ _ _ _ _ _ [] (fun v => v) rfl rfl (by kernel_rfl) (by kernel_rfl) (by intro j; rcases j with _ | j; (focus (first | exact .inr fun _ _ => rfl | exact .inl (by kernel_rfl))); rcases j with _ | j; (focus (first | exact .inr fun _ _ => rfl | exact .inl (by kernel_rfl))); rcases j with _ | j; (focus (first | exact .inr fun _ _ => rfl | exact .inl (by kernel_rfl))); rcases j with _ | j; (focus (first | exact .inr fun _ _ => rfl | exact .inl (by kernel_rfl))); rcases j with _ | j; (focus (first | exact .inr fun _ _ => rfl | exact .inl (by kernel_rfl))); rcases j with _ | j; (focus (first | exact .inr fun _ _ => rfl | exact .inl (by kernel_rfl))); rcases j with _ | j; (focus (first | exact .inr fun _ _ => rfl | exact .inl (by kernel_rfl))); rcases j with _ | j; (focus (first | exact .inr fun _ _ => rfl | exact .inl (by kernel_rfl))); rcases j with _ | j; (focus (first | exact .inr fun _ _ => rfl | exact .inl (by kernel_rfl))); rcases j with _ | j; (focus (first | exact .inr fun _ _ => rfl | exact .inl (by kernel_rfl))); rcases j with _ | j; (focus (first | exact .inr fun _ _ => rfl | exact .inl (by kernel_rfl))); rcases j with _ | j; (focus (first | exact .inr fun _ _ => rfl | exact .inl (by kernel_rfl))); rcases j with _ | j; (focus (first | exact .inr fun _ _ => rfl | exact .inl (by kernel_rfl))); rcases j with _ | j; (focus (first | exact .inr fun _ _ => rfl | exact .inl (by kernel_rfl))); rcases j with _ | j; (focus (first | exact .inr fun _ _ => rfl | exact .inl (by kernel_rfl))); rcases j with _ | j; (focus (first | exact .inr fun _ _ => rfl | exact .inl (by kernel_rfl))); rcases j with _ | j; (focus (first | exact .inr fun _ _ => rfl | exact .inl (by kernel_rfl))); rcases j with _ | j; (focus (first | exact .inr fun _ _ => rfl | exact .inl (by kernel_rfl))); rcases j with _ | j; (focus (first | exact .inr fun _ _ => rfl | exact .inl (by kernel_rfl))); rcases j with _ | j; (focus (first | exact .inr fun _ _ => rfl | exact .inl (by kernel_rfl))); rcases j with _ | j; (focus (first | exact .inr fun _ _ => rfl | exact .inl (by kernel_rfl))); exact .inr fun _ _ => rfl) (fun _ _ => rfl) ?_; intro D x u hD hcl hp hO hS N hN; simp only [putO]; simp only [Act.put, List.setIfInBounds_toArray, List.set_cons_zero, List.set_cons_succ]; refine own_rbs1 (s := s) rfl rfl rfl H32.out (hN _ _ _ rfl rfl (owns_one H32.out (own_alloc_new hO _)) (Same.alloc _ _)))
    · refine fs_lift 20 (by decide) (by kernel_rfl) ?_; (refine @fs_new _ _ _ _ _ _ _ _ _ _ _ _ [(14, some 17, fun v => owns 94 32 v b.vs.length (secs b.vs)), (16, some 17, fun v => owns 94 32 v 1 (bcs s))] (fun v => v) rfl rfl (by kernel_rfl) (by kernel_rfl) (by intro j; rcases j with _ | j; (focus (first | exact .inr fun _ _ => rfl | exact .inl (by kernel_rfl))); rcases j with _ | j; (focus (first | exact .inr fun _ _ => rfl | exact .inl (by kernel_rfl))); rcases j with _ | j; (focus (first | exact .inr fun _ _ => rfl | exact .inl (by kernel_rfl))); rcases j with _ | j; (focus (first | exact .inr fun _ _ => rfl | exact .inl (by kernel_rfl))); rcases j with _ | j; (focus (first | exact .inr fun _ _ => rfl | exact .inl (by kernel_rfl))); rcases j with _ | j; (focus (first | exact .inr fun _ _ => rfl | exact .inl (by kernel_rfl))); rcases j with _ | j; (focus (first | exact .inr fun _ _ => rfl | exact .inl (by kernel_rfl))); rcases j with _ | j; (focus (first | exact .inr fun _ _ => rfl | exact .inl (by kernel_rfl))); rcases j with _ | j; (focus (first | exact .inr fun _ _ => rfl | exact .inl (by kernel_rfl))); rcases j with _ | j; (focus (first | exact .inr fun _ _ => rfl | exact .inl (by kernel_rfl))); rcases j with _ | j; (focus (first | exact .inr fun _ _ => rfl | exact .inl (by kernel_rfl))); rcases j with _ | j; (focus (first | exact .inr fun _ _ => rfl | exact .inl (by kernel_rfl))); rcases j with _ | j; (focus (first | exact .inr fun _ _ => rfl | exact .inl (by kernel_rfl))); rcases j with _ | j; (focus (first | exact .inr fun _ _ => rfl | exact .inl (by kernel_rfl))); rcases j with _ | j; (focus (first | exact .inr fun _ _ => rfl | exact .inl (by kernel_rfl))); rcases j with _ | j; (focus (first | exact .inr fun _ _ => rfl | exact .inl (by kernel_rfl))); rcases j with _ | j; (focus (first | exact .inr fun _ _ => rfl | exact .inl (by kernel_rfl))); rcases j with _ | j; (focus (first | exact .inr fun _ _ => rfl | exact .inl (by kernel_rfl))); rcases j with _ | j; (focus (first | exact .inr fun _ _ => rfl | exact .inl (by kernel_rfl))); rcases j with _ | j; (focus (first | exact .inr fun _ _ => rfl | exact .inl (by kernel_rfl))); rcases j with _ | j; (focus (first | exact .inr fun _ _ => rfl | exact .inl (by kernel_rfl))); exact .inr fun _ _ => rfl) (fun _ _ => rfl) ?_; intro D x u hD hcl hp hO hS N hN; simp only [putO]; simp only [Act.put, List.setIfInBounds_toArray, List.set_cons_zero, List.set_cons_succ]; refine own_append (m := 1) (n := b.vs.length) (xs := secs b.vs) (news := bcs s) rfl rfl rfl rfl Tryz.underlying126 info_rsec3 (by simp [Value.cells]) (by decide) hO (owns_rd (own_at hO (k := 1) rfl)) (bcs_one s) ?_ ?_ (fun v3 w3 hO3 hS3 _ => hN _ _ _ rfl rfl (own_drop (own_perm hO3 (List.Perm.swap _ _ _))) hS3); (have := HLIM.out; simp only [maxLen]; omega); (have := HLIM.out; omega))
    · refine fs_lift 20 (by decide) (by kernel_rfl) ?_; (refine fs_pure (fun _ _ => rfl) (fun D x hD hcl hp => ?_); simp only [putO]; simp only [Act.put, List.setIfInBounds_toArray, List.set_cons_zero, List.set_cons_succ]; first | exact y_skip rfl | exact y_run rfl (by intro w h; go_simp; first | done | rfl))
    · refine fs_lift 20 (by decide) (by kernel_rfl) ?_; (refine fs_pure (fun _ _ => rfl) (fun D x hD hcl hp => ?_); simp only [putO]; simp only [Act.put, List.setIfInBounds_toArray, List.set_cons_zero, List.set_cons_succ]; first | exact y_skip rfl | exact y_run rfl (by intro w h; go_simp; first | done | rfl))
    · refine fs_end rfl rfl (by kernel_rfl) (by kernel_rfl) ?_
      intro x w7 hO hS N hN
      simp only [putO]
      simp only [Act.put, List.setIfInBounds_toArray, List.set_cons_zero, List.set_cons_succ]
      have hO : Own w7 (pts q (.cells #[.slice (some ⟨g1, 0, none⟩) m.length cap] 112) :: pts g1 (.cells (rbs rb ++ rest).toArray 128) :: rdV l :: pts bx (.cells (bcs s).toArray 94) :: (L ++ [owns 94 32 (x 17) (b.vs.length + 1) (secs b.vs ++ bcs s)])) := by simpa using hO
      have hv : Value.oneCell' (x 17) = true := by
        obtain ⟨A7, c7, e7⟩ := (owns_rd (own_perm hO ((List.perm_append_singleton _ (_ :: _ :: _ :: _ :: L)).trans (List.Perm.refl _)))).slice
        rw [e7]; rfl
      refine own_store1 (k := 1) (b := g1) (off := i * 34 + 32) rfl rfl rfl rfl sz_rsecs1 hO rfl hv (by have := HF.out; omega) (rb_setv (rest := rest) HK.out.1.s32 HRB.out (x 17) (b.vs ++ [s])) (fun w8 hO8 hS8 => hN _ _ rfl ?_ hS8)
      simpa using hO8
  · intro x w10 D hD hO hS10
    rw [stB_yes (hD 20 (by decide)), owL_end hD (by kernel_rfl)] at hO
    have hO : Own w10 (pts q (.cells #[.slice (some ⟨g1, 0, none⟩) m.length cap] 112) :: pts g1 (.cells (rbs (rb.set i (x 17, b.wr s)) ++ rest).toArray 128) :: rdV l :: pts bx (.cells (bcs s).toArray 94) :: (L ++ [owns 94 32 (x 17) (b.vs.length + 1) (secs b.vs ++ bcs s)])) := by simpa using hO
    simp only [putO]
    simp only [Act.put, List.setIfInBounds_toArray, List.set_cons_zero, List.set_cons_succ]
    simp only [Exit.then]
    clear hD
    go_wp2
    go_ret
    have hO := own_drop (own_at hO (k := 3) rfl)
    have hO : Own w10 (owns 94 32 (x 17) (b.vs.length + 1) (secs b.vs ++ bcs s) :: pts q (.cells #[.slice (some ⟨g1, 0, none⟩) m.length cap] 112) :: pts g1 (.cells (rbs (rb.set i (x 17, b.wr s)) ++ rest).toArray 128) :: rdV l :: L) := own_perm hO (List.perm_append_singleton _ (_ :: _ :: _ :: L))
    obtain ⟨A', c', e⟩ := (owns_rd hO).slice
    refine ⟨rfl, ?_, hS.trans hS10⟩
    have hvl : (b.wr s).vs.length = b.vs.length + 1 := by simp
    have hb32 : b.s.length = 32 := HK.out.1.s32 _ (List.mem_of_getElem? HRB.out)
    have hv32 : ∀ y ∈ b.vs, y.length = 32 := HK.out.1.v32 _ (List.mem_of_getElem? HRB.out)
    refine rdisk_open.2 ⟨g1, cap, rest, rb.set i (x 17, b.wr s), (x 17, b.vs ++ [s]) :: l, ⟨?_, HK.out.2.put (x := (x 17, b.wr s)) HK.out.1 hb32⟩, ?_⟩
    · rw [e, ← hvl]
      refine HK.out.1.put (b' := b.wr s) (fun _ h => List.mem_cons_of_mem _ h) hb32 (fun y hy => ?_) (List.mem_cons_self ..)
      rcases List.mem_append.1 hy with hy | hy
      · exact hv32 y hy
      · rw [List.mem_singleton.1 hy]; exact H32.out
    · rw [List.length_set]
      have es : secs b.vs ++ bcs s = secs (b.vs ++ [s]) := by rw [secs_append]; simp [secs]
      rw [es] at hO
      have hO1 := rdA_owns hO
      have hO2 : Own w10 (rdA 32 (x 17) (b.vs ++ [s]).length (secs (b.vs ++ [s])) :: rdV l :: pts q (.cells #[.slice (some ⟨g1, 0, none⟩) m.length cap] 112) :: pts g1 (.cells (rbs (rb.set i (x 17, b.wr s)) ++ rest).toArray 128) :: L) := by
        rw [List.length_append, List.length_singleton]
        exact own_perm hO1 (List.Perm.cons _ (perm_at (k := 2) rfl))
      exact own_perm (rdV_cons hO2) ((List.Perm.swap _ _ _).trans (List.Perm.cons _ (List.Perm.swap _ _ _)))
end
end Go.Proofs.YtlmkcnkidkoilaaGreat.H
set_option linter.unusedVariables false
set_option linter.unusedSimpArgs false
set_option maxRecDepth 100000
namespace Go.Proofs.YtlmkcnkidkoilaaGreat.H
open Go.RowKit
/-- How many of these have versions. -/
def cntL (a : List Blk) : Nat := (a.filter fun b => !b.vs.isEmpty).length
theorem cntL_nil : cntL [] = 0 := rfl
theorem cntL_app (a b : List Blk) : cntL (a ++ b) = cntL a + cntL b := by simp [cntL]
theorem cntL_no {b : Blk} (h : b.vs = []) : cntL [b] = 0 := by simp [cntL, h]
theorem cntL_yes {b : Blk} (h : b.vs ≠ []) : cntL [b] = 1 := by simp [cntL, h]
theorem cntL_le (a : List Blk) : cntL a ≤ a.length := List.length_filter_le _ _
theorem crashL_app (pk : Nat → Nat → Int) : ∀ (a : List Blk) (k0 : Nat) (b : List Blk), crashL pk k0 (a ++ b) = crashL pk k0 a ++ crashL pk (k0 + cntL a) b
  | [], k0, b => by simp [crashL, cntL]
  | x :: a, k0, b => by
    have e : cntL (x :: a) = cntL [x] + cntL a := cntL_app [x] a
    rw [List.cons_append]
    by_cases h : x.vs = []
    · rw [crashL, if_pos h, crashL, if_pos h, crashL_app pk a k0 b, e, cntL_no h, Nat.zero_add, List.cons_append]
    · rw [crashL, if_neg h, crashL, if_neg h, crashL_app pk a (k0 + 1) b, e, cntL_yes h, show k0 + 1 + cntL a = k0 + (1 + cntL a) by omega, List.cons_append]
/-- Behind the first i blocks. -/
def crK (pk : Nat → Nat → Int) (m : List Blk) (i : Nat) : List Blk := crashL pk 0 (m.take i) ++ m.drop i
section
variable {pk : Nat → Nat → Int} {m : List Blk} {i : Nat} {b : Blk}
theorem crK_zero : crK pk m 0 = m := by simp [crK, crashL]
theorem crK_all : crK pk m m.length = crashL pk 0 m := by simp [crK]
theorem crK_len (hi : i ≤ m.length) : (crK pk m i).length = m.length := by
  unfold crK
  rw [List.length_append, crashL_len, List.length_take, List.length_drop]
  omega
theorem crK_at (hi : m[i]? = some b) : (crK pk m i)[i]? = some b := by
  have h := (List.getElem?_eq_some_iff.1 hi).1
  unfold crK
  rw [List.getElem?_append_right (by rw [crashL_len, List.length_take]; omega), crashL_len, List.length_take, Nat.min_eq_left (by omega), Nat.sub_self, List.getElem?_drop, Nat.add_zero, hi]
theorem take_next (hi : m[i]? = some b) : m.take (i + 1) = m.take i ++ [b] := by rw [List.take_add_one, hi]; rfl
theorem drop_next (hi : m[i]? = some b) : m.drop i = b :: m.drop (i + 1) := by
  have h := (List.getElem?_eq_some_iff.1 hi).1
  rw [List.drop_eq_getElem_cons h]
  congr 1
  have h2 := (List.getElem?_eq_some_iff.1 hi).2
  exact h2
theorem crK_no (hi : m[i]? = some b) (hv : b.vs = []) : crK pk m (i + 1) = crK pk m i := by
  unfold crK
  rw [take_next hi, crashL_app, drop_next hi]
  simp [crashL, hv]
theorem crK_yes (hi : m[i]? = some b) (hv : b.vs ≠ []) : crK pk m (i + 1) = (crK pk m i).set i ⟨sett (pk (cntL (m.take i)) b.vs.length) b, [], b.bad⟩ := by
  have h := (List.getElem?_eq_some_iff.1 hi).1
  unfold crK
  rw [take_next hi, crashL_app, drop_next hi, List.set_append_right _ _ (by rw [crashL_len, List.length_take]; omega), crashL_len, List.length_take, Nat.min_eq_left (by omega), Nat.sub_self, List.set_cons_zero, List.append_assoc, Nat.zero_add]
  simp [crashL, hv]
end
theorem now_sett {b : Blk} (hv : b.vs ≠ []) : sett (b.vs.length : Int) b = b.now := by
  have hlen : 0 < b.vs.length := List.length_pos_iff.2 hv
  unfold sett Blk.now
  rw [if_pos ⟨by omega, Int.le_refl _⟩, List.getLast?_eq_getElem?]
  have : ((b.vs.length : Int) - 1).toNat = b.vs.length - 1 := by omega
  rw [this]
theorem flK_next {m : List Blk} {i : Nat} {b : Blk} (hi : m[i]? = some b) : (crK allV m i).set i ⟨b.now, [], b.bad⟩ = crK allV m (i + 1) := by
  by_cases hv : b.vs = []
  · rw [crK_no hi hv]
    have h := crK_at (pk := allV) hi
    have e : (⟨b.now, [], b.bad⟩ : Blk) = b := by
      obtain ⟨s, vs, bad⟩ := b
      have hv : vs = [] := hv
      subst hv
      rfl
    rw [e]
    exact List.ext_getElem? fun t => by
      rw [List.getElem?_set]
      split
      · rename_i e; subst e
        rw [if_pos (List.getElem?_eq_some_iff.1 h).1, h]
      · rfl
  · rw [crK_yes hi hv, now_sett hv]
/-- What is owned in the reference's loops. -/
abbrev rLd (q g cap n : Nat) (rb : List RB) (rest : List Value) (l : List (Value × List Sec)) (L : List HP) : List HP := pts q (.cells #[.slice (some ⟨g, 0, none⟩) n cap] 112) :: pts g (.cells (rbs rb ++ rest).toArray 128) :: rdV l :: L
section
variable (w : World) (L : List HP) (q g cap n : Nat)
theorem rmay_in (i : Nat) (hO : Own w L) (hq : ∀ w', Own w' L → w'.heap[q]? = some (.cells #[.slice (some ⟨g, 0, none⟩) n cap] 112)) (hl : i < n) : Calls Tryz.prog 92 #[.pointer (some ⟨q, 0, none⟩), .int .i64 i] w (Ret w (.int .i64 0) L) := by
  have HQ := Lib.hid hq
  have h1 : ¬ ((i : Int) < 0) := by omega
  have h2 : ¬ ((n : Int) ≤ i) := by omega
  clear hq hl
  go_enter Tryz.func92, Tryz.ntmps92
  go_wp2_with (first | (refine own_load1 (b := q) (off := 0) (cs := #[.slice (some ⟨g, 0, none⟩) n cap]) (t := 112) (v := .slice (some ⟨g, 0, none⟩) n cap) rfl rfl rfl row_blks (HQ.out _ hO) rfl ?_))
  go_ret
  exact ⟨rfl, hO, Same.refl _⟩
set_option maxHeartbeats 800000 in
theorem rread_in (i : Nat) (b : Blk) (rb : List RB) (rest : List Value) (A : Option Addr) (c : Nat) (hO : Own w L) (hq : ∀ w', Own w' L → w'.heap[q]? = some (.cells #[.slice (some ⟨g, 0, none⟩) n cap] 112)) (hg : ∀ w', Own w' L → w'.heap[g]? = some (.cells (rbs rb ++ rest).toArray 128))
    (hr : ∀ w', Own w' L → Rd w' 32 (.slice A b.vs.length c) b.vs.length (secs b.vs)) (hl : i < n) (hb : rb[i]? = some (.slice A b.vs.length c, b)) (h32 : ∀ x ∈ rb, x.2.s.length = 32) (h32v : ∀ s ∈ b.vs, s.length = 32) : Calls Tryz.prog 102 #[.pointer (some ⟨q, 0, none⟩), .int .i64 i] w (Ret w (.tuple #[secV b.now, .int .i64 0]) L) := by
  have HQ : Hid (∀ a o w', Own w' (pts a o :: L) → w'.heap[q]? = some (.cells #[.slice (some ⟨g, 0, none⟩) n cap] 112)) := Lib.hid fun a o w' h => hq w' (own_drop h)
  have HG : Hid (∀ a o w', Own w' (pts a o :: L) → w'.heap[g]? = some (.cells (rbs rb ++ rest).toArray 128)) := Lib.hid fun a o w' h => hg w' (own_drop h)
  have hs32 : b.s.length = 32 := h32 _ (List.mem_of_getElem? hb)
  have H32 := Lib.hid hs32
  have HR := Lib.hid (rb_row (rest := rest) h32 hb)
  have HF := Lib.hid (rb_fit (rest := rest) h32 hb)
  have HV := Lib.hid (rb_v (rest := rest) h32 hb)
  have hl2 : (i : Int) < n := by omega
  have HL := Lib.hid hl
  have hS := Same.refl w
  have hr2 := hr w hO
  have hmx := hr2.max
  cases hvs : b.vs.getLast? with
  | none =>
    have e0 : b.vs = [] := List.getLast?_eq_none_iff.1 hvs
    have enow : Hid (b.now = b.s) := by show _ = _; simp [Blk.now, hvs]
    rw [e0] at HV
    clear hmx hvs e0 hr hr2 hq hg hb h32 h32v hs32 hl
    go_enter Tryz.func102, Tryz.ntmps102
    go_wp2_with (first | (refine own_alloc (T := 94) rfl rfl zero_rsec rfl hO ?_; clear hO; intro ga u hO hSn; replace hS := hS.trans hSn; clear hSn) | (go_at_call 92; (with_reducible refine Calls.mono (rmay_in _ _ q g cap n i hO (HQ.out _ _) HL.out) ?_); clear hO; rintro e u ⟨rfl, hO, hSn⟩; replace hS := hS.trans hSn; clear hSn) | (refine own_load1 (b := g) (off := i * 34 + 32) (v := .slice A 0 c) rfl rfl rfl row_rsecs (HG.out _ _ _ hO) HV.out ?_) | (refine own_loadrow (b := g) (off := i * 34) (vs := bcs b.s) rfl rfl rfl row_rsec sz_rsec (HG.out _ _ _ hO) (by have := HF.out; omega) HR.out ?_) | (refine own_load1 (b := q) (off := 0) (cs := #[.slice (some ⟨g, 0, none⟩) n cap]) (t := 112) (v := .slice (some ⟨g, 0, none⟩) n cap) rfl rfl rfl row_blks (HQ.out _ _ _ hO) rfl ?_) | (refine own_store_all (k := 0) rfl rfl rfl rfl sz_rsec hO rfl (secA_size H32.out) (by rfl) (bcs_all _) ?_; clear hO; intro u hO hSn; replace hS := hS.trans hSn; clear hSn; simp only [List.set_cons_zero, List.set_cons_succ] at hO))
    refine bodyPost_ret (results_cell_tmp rfl rfl (own_get 0 hO rfl) row_rsec (info_rsec H32.out)) rfl ⟨by rw [enow.out]; rfl, own_drop hO, hS⟩
  | some s =>
    have hne : b.vs ≠ [] := fun e => by rw [e] at hvs; cases hvs
    have hlen : 0 < b.vs.length := List.length_pos_iff.2 hne
    have hat : b.vs[b.vs.length - 1]? = some s := by rw [← List.getLast?_eq_getElem?]; exact hvs
    have enow : Hid (b.now = s) := by show _ = _; simp [Blk.now, hvs]
    have h32s : Hid (s.length = 32) := h32v s (List.mem_of_getElem? hat)
    obtain ⟨ad2, rfl, _⟩ := vers_cell hr2 h32v hat
    have HC2 : Hid (∀ a o w', Own w' (pts a o :: L) → ∀ (j : Nat) (u : Value), (bcs s)[j]? = some u → w'.cell? ((ad2.add ((b.vs.length - 1) * 32)).add j) = some u) := Lib.hid fun a o w' h => by
      obtain ⟨ad3, e3, h3⟩ := vers_cell (hr w' (own_drop h)) h32v hat
      cases e3
      exact h3
    have hlt : ((b.vs.length - 1 : Nat) : Int) < b.vs.length := by omega
    have hpos : (0 : Int) < b.vs.length := by omega
    have hsub : IntKind.i64.wrap ((b.vs.length : Int) - 1) = ((b.vs.length - 1 : Nat) : Int) := by rw [IntKind.wrap_i64] <;> omega
    clear hvs hr hr2 hq hg hb h32 h32v hs32 hl hat hne hlen
    go_enter Tryz.func102, Tryz.ntmps102
    go_wp2_with (first | (refine own_alloc (T := 94) rfl rfl zero_rsec rfl hO ?_; clear hO; intro ga u hO hSn; replace hS := hS.trans hSn; clear hSn) | (go_at_call 92; (with_reducible refine Calls.mono (rmay_in _ _ q g cap n i hO (HQ.out _ _) HL.out) ?_); clear hO; rintro e u ⟨rfl, hO, hSn⟩; replace hS := hS.trans hSn; clear hSn) | (refine own_load1 (b := g) (off := i * 34 + 32) (v := .slice (some ad2) b.vs.length c) rfl rfl rfl row_rsecs (HG.out _ _ _ hO) HV.out ?_) | (refine own_loadrow_at (ad := ad2.add ((b.vs.length - 1) * 32)) (vs := bcs s) rfl rfl rfl row_rsec sz_rsec (by rw [bcs_length]; exact h32s.out) (HC2.out _ _ _ hO) ?_) | (refine own_load1 (b := q) (off := 0) (cs := #[.slice (some ⟨g, 0, none⟩) n cap]) (t := 112) (v := .slice (some ⟨g, 0, none⟩) n cap) rfl rfl rfl row_blks (HQ.out _ _ _ hO) rfl ?_) | (refine own_store_all (k := 0) rfl rfl rfl rfl sz_rsec hO rfl (secA_size h32s.out) (by rfl) (bcs_all _) ?_; clear hO; intro u hO hSn; replace hS := hS.trans hSn; clear hSn; simp only [List.set_cons_zero, List.set_cons_succ] at hO))
    refine bodyPost_ret (results_cell_tmp rfl rfl (own_get 0 hO rfl) row_rsec (info_rsec h32s.out)) rfl ⟨by rw [enow.out]; rfl, own_drop hO, hS⟩
end
end Go.Proofs.YtlmkcnkidkoilaaGreat.H
