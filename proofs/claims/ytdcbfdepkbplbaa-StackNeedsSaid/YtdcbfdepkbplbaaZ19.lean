/- The reference's Pop. The reference's Settle. -/
import Derived.Test.YtdcbfdepkbplbaaZ18
import Derived.Test.YtdcbfdepkbplbaaZ12
import Derived.Test.YtdcbfdepkbplbaaZ11
set_option linter.unusedVariables false
set_option linter.unusedSimpArgs false
set_option maxRecDepth 100000
namespace Go.Proofs.Ytdcbfdepkbplbaa.H
open Go.RowKit
theorem y_slice_to {P : Program} {ops : Array Oper} {C : World → Prop} {a : Act} {o : Oper} {T e : TypeId} {x hi : Operand} {ad : Addr} {n c m : Nat} (hw : Region.wanted o (yielded ops a.tmps) = true) (ho : o.op = .slice T x none (some hi) none) (hx : a.eval x = .slice (some ad) n c) (hhi : a.eval hi = .int .i64 m)
    (ht : P.underlying T = some (.slice e)) (hs : (P.info? e).isSome = true) (hm : m ≤ c) : YieldsIn P ops C o (.slice (some ad) m c) a := by
  refine y_run hw (fun w hC => ?_)
  obtain ⟨i, hi'⟩ := Option.isSome_iff_exists.1 hs
  have h0 : (0 : Int) ≤ m := by omega
  have h1 : (m : Int) ≤ c := by omega
  have hr : (Instr.slice T (.slice (some ad) n c) none (some (.int .i64 m)) none).run P w = .ok (.slice (some ad) m c) w := by
    simp [Instr.slice, run_underlying ht, Instr.sliceBounds, run_sliceBound, sizeOf, typeInfo, hi', h0, h1]
    try (intro hc0; simp [Addr.add])
  simp only [execOp, ho, hx, hhi]
  simp [run_sliceAt_slice, hhi, hr, Instr.sliceAt, run_underlying ht]
theorem some_on : (Try.prog.info? 93).isSome = true := by kernel_rfl
/-- What the append of Pop has brought. -/
def popHL (D : Nat → Bool) (x : Value × Value) (ps : List On) : List HP :=
  if D 13 then [owns 93 4 x.2 ps.length (cellsO ps)] else if D 1 then [owns 93 4 x.1 0 []] else []
theorem pop_1 {D : Nat → Bool} {x : Value × Value} {ps : List On} (h1 : D 1 = false) (h13 : D 13 = false) : popHL D x ps = [] := by simp [popHL, h1, h13]
theorem pop_2 {D : Nat → Bool} {x : Value × Value} {ps : List On} (h1 : D 1 = true) (h13 : D 13 = false) : popHL D x ps = [owns 93 4 x.1 0 []] := by simp [popHL, h1, h13]
theorem pop_3 {D : Nat → Bool} {x : Value × Value} {ps : List On} (h13 : D 13 = true) : popHL D x ps = [owns 93 4 x.2 ps.length (cellsO ps)] := by simp [popHL, h13]
theorem y_loadrow_at {P : Program} {ops : Array Oper} {C : World → Prop} {aF : Act} {o : Oper} {T : TypeId} {x : Operand} {ad : Addr} {n : Nat} {vs : List Value} (hw : Region.wanted o (yielded ops aF.tmps) = true) (ho : o.op = .load T x) (hx : aF.eval x = .pointer (some ad))
    (hT : isRowB P T = some true) (hsz : (P.info? T).map (·.size) = some n) (hn : vs.length = n) (hc : ∀ w, C w → ∀ (j : Nat) (u : Value), vs[j]? = some u → w.cell? (ad.add j) = some u) : YieldsIn P ops C o (.agg vs.toArray) aF := by
  refine y_run hw (fun w hC => ?_)
  simp only [execOp, ho, hx, Sem.run_bind, run_loadrow_at hT hsz hn (hc w hC)]
  rfl
section
variable (w : World) (L : List HP) (q : Nat) (m : Stk)
theorem rpop_no (hO : Own w (rstk q m :: L)) (hk : m.Ok) (hl : m.l = []) :
    Calls Try.prog 57 #[.pointer (some ⟨q, 0, none⟩)] w (Ret w (.tuple #[.agg #[.int .i64 0, .int .i64 0, .string ⟨#[]⟩], .int .i64 5]) (rstk q m :: L)) := by
  obtain ⟨vb, vl, hO⟩ := rstk_open.1 hO
  obtain ⟨A, cap, rfl⟩ := (rAt_of hO hk.base).rd.slice
  have hlen : m.l.length = 0 := by rw [hl]; rfl
  have hO : Own w (pts q (.cells #[vb, .slice A m.l.length cap, .int .i64 m.next] 86) :: owns 5 1 vb 32 (bcs m.base) :: owns 93 4 (.slice A m.l.length cap) m.l.length (cellsO m.l) :: L) := hO
  clear hk hl
  go_enter Try.func57, Try.ntmps57
  go_wp2_with (first | (refine own_alloc (T := 33) rfl rfl zero_pat rfl hO ?_; clear hO; intro g w2 hO hS2) | (refine own_load1 (b := q) (off := 1) (cs := #[vb, .slice A m.l.length cap, .int .i64 m.next]) (t := 86) (v := .slice A m.l.length cap) rfl rfl rfl row_ons (own_get 1 hO rfl) rfl ?_) | (refine own_store_all (k := 0) rfl rfl rfl rfl sz_pat hO rfl rfl rfl rfl ?_; clear hO; intro w6 hO hS6; simp only [List.set_cons_zero] at hO))
  exact bodyPost_ret (results_cell_tmp rfl rfl (own_get 0 hO rfl) row_pat sz_pat) rfl ⟨rfl, rstk_open.2 ⟨vb, _, own_drop hO⟩, hS2.trans hS6⟩
set_option maxHeartbeats 3200000 in
theorem rpop_ok (ps : List On) (o : On) (hO : Own w (rstk q m :: L)) (hk : m.Ok) (hl : m.l = ps ++ [o]) :
    Calls Try.prog 57 #[.pointer (some ⟨q, 0, none⟩)] w (Ret w (.tuple #[.agg #[.int .i64 o.p.blk, .int .i64 o.p.off, .string o.p.dat], .int .i64 0]) (rstk q m.popped :: L)) := by
  obtain ⟨vb, vl, hO⟩ := rstk_open.1 hO
  have hlen : m.l.length = ps.length + 1 := by rw [hl]; simp
  have hx : m.l[ps.length]? = some o := by rw [hl]; simp
  obtain ⟨A, cap, rfl⟩ := (rAt_of hO hk.base).rd.slice
  obtain ⟨ad, rfl, _⟩ := (rAt_of hO hk.base).some hx
  have hmx := (rAt_of hO hk.base).rd.max
  have HX := Lib.hid hx
  have HML := Lib.hid hl
  have H200 : Hid (m.l.length ≤ 200) := hk.len
  have HMX := Lib.hid hmx
  have hne : ((m.l.length : Int) == 0) = false := by rw [hlen]; simp; omega
  have hne2 : (m.l.length = 0) = False := eq_false (by omega)
  have hw1 : IntKind.i64.wrap ((m.l.length : Int) - 1) = (ps.length : Int) := by rw [IntKind.wrap_i64] <;> (have := hk.len; omega)
  have hm1 : (ps.length : Int) < m.l.length := by omega
  have HLT : Hid (m.l.length = ps.length + 1) := hlen
  have HB : Hid (m.base.length = 32) := hk.base
  have hO : Own w (pts q (.cells #[vb, .slice (some ad) m.l.length cap, .int .i64 m.next] 86) :: owns 5 1 vb 32 (bcs m.base) :: owns 93 4 (.slice (some ad) m.l.length cap) m.l.length (cellsO m.l) :: L) := hO
  clear hk hl hx hmx hlen
  go_enter Try.func57, Try.ntmps57
  go_upto_region 5 with (first | (refine own_alloc (T := 33) rfl rfl zero_pat rfl hO ?_; clear hO; intro g w2 hO hS2) | (refine own_load1 (b := q) (off := 1) (cs := #[vb, .slice (some ad) m.l.length cap, .int .i64 m.next]) (t := 86) (v := .slice (some ad) m.l.length cap) rfl rfl rfl row_ons (own_get 1 hO rfl) rfl ?_))
  refine wp_region_own (α := Nat) (fun y => [.pointer (some ⟨q, 0, none⟩), .pointer (some ⟨q, 0, none⟩), .pointer (some ⟨q, 1, none⟩), .slice (some ad) m.l.length cap, .pointer (some ⟨q, 0, none⟩), .pointer (some ⟨q, 0, none⟩), .pointer (some ⟨q, 1, none⟩), .slice (some ad) m.l.length cap, .int .i64 m.l.length, .int .i64 ps.length, .pointer (some (ad.add (ps.length * 4))), .pointer (some ((ad.add (ps.length * 4)).add 1)), .agg #[.int .i64 o.p.blk, .int .i64 o.p.off, .string o.p.dat], .pointer (some ⟨y, 0, none⟩), undef]) (fun D y => mk (D 13) (pts y (.cells (if D 14 then #[.int .i64 o.p.blk, .int .i64 o.p.off, .string o.p.dat] else #[.int .i64 0, .int .i64 0, .string ⟨#[]⟩]) 33)) ++ (pts g (.cells #[.int .i64 0, .int .i64 0, .string ⟨#[]⟩] 33) :: pts q (.cells #[vb, .slice (some ad) m.l.length cap, .int .i64 m.next] 86) :: owns 5 1 vb 32 (bcs m.base) :: owns 93 4 (.slice (some ad) m.l.length cap) m.l.length (cellsO m.l) :: L)) w2 0 47 (fun _ => rfl) mixed (by kernel_rfl) rfl ?_ (Same.drew _) (fun _ _ _ _ hd h => ⟨hd ▸ h.1, h.2⟩) ?_ ?_
  · exact own_heap hO (fun _ _ h => h)
  · clear hO
    refine ⟨?_, ?_, ?_, ?_, ?_, ?_, ?_, ?_, ?_, ?_, ?_, ?_, ?_, ?_, ?_, trivial⟩
    · (refine fs_pure (fun _ _ => rfl) (fun D x hD hcl hp => ?_); simp only [List.append_eq, List.cons_append, List.nil_append, putO]; simp only [Act.put, List.setIfInBounds_toArray, List.set_cons_zero, List.set_cons_succ]; first | exact y_skip rfl | exact y_run rfl (by intro w h; go_simp; first | done | rfl))
    · (refine fs_pure (fun _ _ => rfl) (fun D x hD hcl hp => ?_); simp only [List.append_eq, List.cons_append, List.nil_append, putO]; simp only [Act.put, List.setIfInBounds_toArray, List.set_cons_zero, List.set_cons_succ]; first | exact y_skip rfl | exact y_run rfl (by intro w h; go_simp; first | done | rfl))
    · (refine fs_pure (fun _ _ => rfl) (fun D x hD hcl hp => ?_); simp only [List.append_eq, List.cons_append, List.nil_append, putO]; simp only [Act.put, List.setIfInBounds_toArray, List.set_cons_zero, List.set_cons_succ]; first | exact y_skip rfl | exact y_run rfl (by intro w h; go_simp; first | done | rfl))
    · (refine fs_pure (fun _ _ => rfl) (fun D x hD hcl hp => ?_); simp only [List.append_eq, List.cons_append, List.nil_append, putO]; simp only [Act.put, List.setIfInBounds_toArray, List.set_cons_zero, List.set_cons_succ]; first | exact y_skip rfl | exact (y_load1 (b := q) (off := 1) (cs := #[vb, .slice (some ad) m.l.length cap, .int .i64 m.next]) (t := 86) (v := .slice (some ad) m.l.length cap) rfl rfl rfl row_ons (fun w h => own_get 1 (own_drops h.1) rfl) rfl) | exact y_run rfl (by intro w h; go_simp; first | done | rfl))
    · (refine fs_pure (fun _ _ => rfl) (fun D x hD hcl hp => ?_); simp only [List.append_eq, List.cons_append, List.nil_append, putO]; simp only [Act.put, List.setIfInBounds_toArray, List.set_cons_zero, List.set_cons_succ]; first | exact y_skip rfl | exact y_run rfl (by intro w h; go_simp; first | done | rfl))
    · (refine fs_pure (fun _ _ => rfl) (fun D x hD hcl hp => ?_); simp only [List.append_eq, List.cons_append, List.nil_append, putO]; simp only [Act.put, List.setIfInBounds_toArray, List.set_cons_zero, List.set_cons_succ]; first | exact y_skip rfl | exact y_run rfl (by intro w h; go_simp; first | done | rfl))
    · (refine fs_pure (fun _ _ => rfl) (fun D x hD hcl hp => ?_); simp only [List.append_eq, List.cons_append, List.nil_append, putO]; simp only [Act.put, List.setIfInBounds_toArray, List.set_cons_zero, List.set_cons_succ]; first | exact y_skip rfl | exact y_run rfl (by intro w h; go_simp; first | done | rfl))
    · (refine fs_pure (fun _ _ => rfl) (fun D x hD hcl hp => ?_); simp only [List.append_eq, List.cons_append, List.nil_append, putO]; simp only [Act.put, List.setIfInBounds_toArray, List.set_cons_zero, List.set_cons_succ]; first | exact y_skip rfl | exact (y_load1 (b := q) (off := 1) (cs := #[vb, .slice (some ad) m.l.length cap, .int .i64 m.next]) (t := 86) (v := .slice (some ad) m.l.length cap) rfl rfl rfl row_ons (fun w h => own_get 1 (own_drops h.1) rfl) rfl) | exact y_run rfl (by intro w h; go_simp; first | done | rfl))
    · (refine fs_pure (fun _ _ => rfl) (fun D x hD hcl hp => ?_); simp only [List.append_eq, List.cons_append, List.nil_append, putO]; simp only [Act.put, List.setIfInBounds_toArray, List.set_cons_zero, List.set_cons_succ]; first | exact y_skip rfl | exact y_run rfl (by intro w h; go_simp; first | done | rfl))
    · (refine fs_pure (fun _ _ => rfl) (fun D x hD hcl hp => ?_); simp only [List.append_eq, List.cons_append, List.nil_append, putO]; simp only [Act.put, List.setIfInBounds_toArray, List.set_cons_zero, List.set_cons_succ]; first | exact y_skip rfl | exact y_run rfl (by intro w h; go_simp; first | done | rfl))
    · (refine fs_pure (fun _ _ => rfl) (fun D x hD hcl hp => ?_); simp only [List.append_eq, List.cons_append, List.nil_append, putO]; simp only [Act.put, List.setIfInBounds_toArray, List.set_cons_zero, List.set_cons_succ]; first | exact y_skip rfl | exact y_run rfl (by intro w h; go_simp; first | done | rfl))
    · (refine fs_pure (fun _ _ => rfl) (fun D x hD hcl hp => ?_); simp only [List.append_eq, List.cons_append, List.nil_append, putO]; simp only [Act.put, List.setIfInBounds_toArray, List.set_cons_zero, List.set_cons_succ]; first | exact y_skip rfl | exact y_run rfl (by intro w h; go_simp; first | done | rfl))
    · (refine fs_pure (fun _ _ => rfl) (fun D x hD hcl hp => ?_); simp only [List.append_eq, List.cons_append, List.nil_append, putO]; simp only [Act.put, List.setIfInBounds_toArray, List.set_cons_zero, List.set_cons_succ]; first | exact y_skip rfl | exact (y_loadrow_at (ad := (ad.add (ps.length * 4)).add 1) (vs := [.int .i64 o.p.blk, .int .i64 o.p.off, .string o.p.dat]) rfl rfl rfl row_pat sz_pat rfl (fun w h => ((rAt_of (q := q) (vb := vb) (vl := .slice (some ad) m.l.length cap) (m := m) (own_drop (own_drops h.1)) HB.out).cell HX.out).2.2)) | exact y_run rfl (by intro w h; go_simp; first | done | rfl))
    · skip
      intro D x w5 hD hcl hp hO hS5
      simp only [List.append_eq, List.cons_append, List.nil_append, putO]
      simp only [Act.put, List.setIfInBounds_toArray, List.set_cons_zero, List.set_cons_succ]
      have h14 := dep_no hcl hD 14 rfl
      have hO2 := hO
      simp only [hD, mk_f, List.nil_append] at hO2
      refine own_alloc (T := 33) rfl rfl zero_pat rfl hO2 ?_
      intro g2 w6 hO6 hS6
      refine wpList_nil ⟨rfl, g2, (by intro j hj; rcases j with _ | j; (focus (first | rfl | (exfalso; simp_all; done))); rcases j with _ | j; (focus (first | rfl | (exfalso; simp_all; done))); rcases j with _ | j; (focus (first | rfl | (exfalso; simp_all; done))); rcases j with _ | j; (focus (first | rfl | (exfalso; simp_all; done))); rcases j with _ | j; (focus (first | rfl | (exfalso; simp_all; done))); rcases j with _ | j; (focus (first | rfl | (exfalso; simp_all; done))); rcases j with _ | j; (focus (first | rfl | (exfalso; simp_all; done))); rcases j with _ | j; (focus (first | rfl | (exfalso; simp_all; done))); rcases j with _ | j; (focus (first | rfl | (exfalso; simp_all; done))); rcases j with _ | j; (focus (first | rfl | (exfalso; simp_all; done))); rcases j with _ | j; (focus (first | rfl | (exfalso; simp_all; done))); rcases j with _ | j; (focus (first | rfl | (exfalso; simp_all; done))); rcases j with _ | j; (focus (first | rfl | (exfalso; simp_all; done))); rcases j with _ | j; (focus (first | rfl | (exfalso; simp_all; done))); rcases j with _ | j; (focus (first | rfl | (exfalso; simp_all; done))); rfl), fun d hd _ => by cases hd; rfl, ?_, hS5.trans hS6⟩
      show Own w6 (mk true (pts g2 (.cells (if D 14 then _ else _) _)) ++ _)
      rw [h14]
      exact hO6
    · skip
      intro D x w5 hD hcl hp hO hS5
      simp only [List.append_eq, List.cons_append, List.nil_append, putO]
      simp only [Act.put, List.setIfInBounds_toArray, List.set_cons_zero, List.set_cons_succ]
      have h13 := dep_yes hp (j := 13) rfl
      have hO2 := hO
      simp only [h13, hD, mk_t] at hO2
      refine own_store_all (k := 0) (vs := #[.int .i64 o.p.blk, .int .i64 o.p.off, .string o.p.dat]) rfl rfl rfl rfl sz_pat hO2 rfl rfl rfl rfl ?_
      intro w6 hO6 hS6
      refine wpList_nil ⟨rfl, _, (by intro j hj; rcases j with _ | j; (focus (first | rfl | (exfalso; simp_all; done))); rcases j with _ | j; (focus (first | rfl | (exfalso; simp_all; done))); rcases j with _ | j; (focus (first | rfl | (exfalso; simp_all; done))); rcases j with _ | j; (focus (first | rfl | (exfalso; simp_all; done))); rcases j with _ | j; (focus (first | rfl | (exfalso; simp_all; done))); rcases j with _ | j; (focus (first | rfl | (exfalso; simp_all; done))); rcases j with _ | j; (focus (first | rfl | (exfalso; simp_all; done))); rcases j with _ | j; (focus (first | rfl | (exfalso; simp_all; done))); rcases j with _ | j; (focus (first | rfl | (exfalso; simp_all; done))); rcases j with _ | j; (focus (first | rfl | (exfalso; simp_all; done))); rcases j with _ | j; (focus (first | rfl | (exfalso; simp_all; done))); rcases j with _ | j; (focus (first | rfl | (exfalso; simp_all; done))); rcases j with _ | j; (focus (first | rfl | (exfalso; simp_all; done))); rcases j with _ | j; (focus (first | rfl | (exfalso; simp_all; done))); rcases j with _ | j; (focus (first | rfl | (exfalso; simp_all; done))); rfl), (fun d hd _ => by cases hd), ?_, hS5.trans hS6⟩
      show Own w6 (mk (D 13) _ ++ _)
      rw [h13]
      exact hO6
  · intro y w9 D hD hO hS9
    simp only [List.append_eq, List.cons_append, List.nil_append, putO]
    simp only [Act.put, List.setIfInBounds_toArray, List.set_cons_zero, List.set_cons_succ]
    simp only [hD 13 (by decide), hD 14 (by decide), mk_t, if_true, List.cons_append, List.nil_append] at hO
    simp only [Exit.then]
    clear hD
    go_upto_region 6 with fail
    refine wp_region_own (α := Value × Value) (fun x => [.pointer (some ⟨q, 0, none⟩), x.1, .pointer (some ⟨q, 0, none⟩), .pointer (some ⟨q, 0, none⟩), .pointer (some ⟨q, 1, none⟩), .slice (some ad) m.l.length cap, .pointer (some ⟨q, 0, none⟩), .pointer (some ⟨q, 0, none⟩), .pointer (some ⟨q, 1, none⟩), .slice (some ad) m.l.length cap, .int .i64 m.l.length, .int .i64 ps.length, .slice (some ad) ps.length cap, x.2, .pointer (some ⟨q, 0, none⟩), .pointer (some ⟨q, 1, none⟩), undef]) (fun D x => popHL D x ps ++ (pts y (.cells #[.int .i64 o.p.blk, .int .i64 o.p.off, .string o.p.dat] 33) :: pts g (.cells #[.int .i64 0, .int .i64 0, .string ⟨#[]⟩] 33) :: pts q (.cells #[vb, (if D 16 then x.2 else .slice (some ad) m.l.length cap), .int .i64 m.next] 86) :: owns 5 1 vb 32 (bcs m.base) :: owns 93 4 (.slice (some ad) m.l.length cap) m.l.length (cellsO m.l) :: L)) w9 (undef, undef) 47 (fun _ => rfl) mixed (by kernel_rfl) rfl ?_ (Same.drew _) (fun _ _ _ _ hd h => ⟨hd ▸ h.1, h.2⟩) ?_ ?_
    · exact own_heap hO (fun _ _ h => h)
    · clear hO
      refine ⟨?_, ?_, ?_, ?_, ?_, ?_, ?_, ?_, ?_, ?_, ?_, ?_, ?_, ?_, ?_, ?_, ?_, trivial⟩
      · (refine fs_pure (fun _ _ => rfl) (fun D x hD hcl hp => ?_); simp only [List.append_eq, List.cons_append, List.nil_append, putO]; simp only [Act.put, List.setIfInBounds_toArray, List.set_cons_zero, List.set_cons_succ]; first | exact y_skip rfl | exact y_run rfl (by intro w h; go_simp; first | done | rfl))
      · skip
        intro D x w5 hD hcl hp hO hS5
        simp only [List.append_eq, List.cons_append, List.nil_append, putO]
        simp only [Act.put, List.setIfInBounds_toArray, List.set_cons_zero, List.set_cons_succ]
        have h13 := dep_no hcl hD 13 rfl
        have h16 := dep_no hcl h13 16 rfl
        have hO2 := hO
        simp only [pop_1 hD h13, List.nil_append] at hO2
        refine own_lit0 rfl rfl Try.underlying84 sz_on hO2 ?_
        intro g3 w6 hO6 hS6
        refine wpList_nil ⟨rfl, (.slice (some ⟨g3, 0, none⟩) 0 0, undef), (by intro j hj; rcases j with _ | j; (focus (first | rfl | (exfalso; simp_all; done))); rcases j with _ | j; (focus (first | rfl | (exfalso; simp_all; done))); rcases j with _ | j; (focus (first | rfl | (exfalso; simp_all; done))); rcases j with _ | j; (focus (first | rfl | (exfalso; simp_all; done))); rcases j with _ | j; (focus (first | rfl | (exfalso; simp_all; done))); rcases j with _ | j; (focus (first | rfl | (exfalso; simp_all; done))); rcases j with _ | j; (focus (first | rfl | (exfalso; simp_all; done))); rcases j with _ | j; (focus (first | rfl | (exfalso; simp_all; done))); rcases j with _ | j; (focus (first | rfl | (exfalso; simp_all; done))); rcases j with _ | j; (focus (first | rfl | (exfalso; simp_all; done))); rcases j with _ | j; (focus (first | rfl | (exfalso; simp_all; done))); rcases j with _ | j; (focus (first | rfl | (exfalso; simp_all; done))); rcases j with _ | j; (focus (first | rfl | (exfalso; simp_all; done))); rcases j with _ | j; (focus (first | rfl | (exfalso; simp_all; done))); rcases j with _ | j; (focus (first | rfl | (exfalso; simp_all; done))); rcases j with _ | j; (focus (first | rfl | (exfalso; simp_all; done))); rcases j with _ | j; (focus (first | rfl | (exfalso; simp_all; done))); rfl), fun d hd _ => by cases hd; rfl, ?_, hS5.trans hS6⟩
        show Own w6 (popHL (upd D 1) _ ps ++ (_ :: _ :: pts q (.cells #[vb, (if D 16 = true then _ else _), _] _) :: _))
        rw [pop_2 (D := upd D 1) rfl h13, h16]
        rw [h16] at hO6
        exact hO6
      · (refine fs_pure (fun _ _ => rfl) (fun D x hD hcl hp => ?_); simp only [List.append_eq, List.cons_append, List.nil_append, putO]; simp only [Act.put, List.setIfInBounds_toArray, List.set_cons_zero, List.set_cons_succ]; first | exact y_skip rfl | exact y_run rfl (by intro w h; go_simp; first | done | rfl))
      · (refine fs_pure (fun _ _ => rfl) (fun D x hD hcl hp => ?_); simp only [List.append_eq, List.cons_append, List.nil_append, putO]; simp only [Act.put, List.setIfInBounds_toArray, List.set_cons_zero, List.set_cons_succ]; first | exact y_skip rfl | exact y_run rfl (by intro w h; go_simp; first | done | rfl))
      · (refine fs_pure (fun _ _ => rfl) (fun D x hD hcl hp => ?_); simp only [List.append_eq, List.cons_append, List.nil_append, putO]; simp only [Act.put, List.setIfInBounds_toArray, List.set_cons_zero, List.set_cons_succ]; first | exact y_skip rfl | exact y_run rfl (by intro w h; go_simp; first | done | rfl))
      · (refine fs_pure (fun _ _ => rfl) (fun D x hD hcl hp => ?_); simp only [List.append_eq, List.cons_append, List.nil_append, putO]; simp only [Act.put, List.setIfInBounds_toArray, List.set_cons_zero, List.set_cons_succ]; first | exact y_skip rfl | exact (y_load1 (b := q) (off := 1) (cs := #[vb, (if D 16 then x.2 else .slice (some ad) m.l.length cap), .int .i64 m.next]) (t := 86) (v := .slice (some ad) m.l.length cap) rfl rfl rfl row_ons (fun w h => own_get 2 (own_drops h.1) rfl) (by have h16 := dep_no hcl hD 16 rfl; rw [h16]; rfl)) | exact y_run rfl (by intro w h; go_simp; first | done | rfl))
      · (refine fs_pure (fun _ _ => rfl) (fun D x hD hcl hp => ?_); simp only [List.append_eq, List.cons_append, List.nil_append, putO]; simp only [Act.put, List.setIfInBounds_toArray, List.set_cons_zero, List.set_cons_succ]; first | exact y_skip rfl | exact y_run rfl (by intro w h; go_simp; first | done | rfl))
      · (refine fs_pure (fun _ _ => rfl) (fun D x hD hcl hp => ?_); simp only [List.append_eq, List.cons_append, List.nil_append, putO]; simp only [Act.put, List.setIfInBounds_toArray, List.set_cons_zero, List.set_cons_succ]; first | exact y_skip rfl | exact y_run rfl (by intro w h; go_simp; first | done | rfl))
      · (refine fs_pure (fun _ _ => rfl) (fun D x hD hcl hp => ?_); simp only [List.append_eq, List.cons_append, List.nil_append, putO]; simp only [Act.put, List.setIfInBounds_toArray, List.set_cons_zero, List.set_cons_succ]; first | exact y_skip rfl | exact y_run rfl (by intro w h; go_simp; first | done | rfl))
      · (refine fs_pure (fun _ _ => rfl) (fun D x hD hcl hp => ?_); simp only [List.append_eq, List.cons_append, List.nil_append, putO]; simp only [Act.put, List.setIfInBounds_toArray, List.set_cons_zero, List.set_cons_succ]; first | exact y_skip rfl | exact (y_load1 (b := q) (off := 1) (cs := #[vb, (if D 16 then x.2 else .slice (some ad) m.l.length cap), .int .i64 m.next]) (t := 86) (v := .slice (some ad) m.l.length cap) rfl rfl rfl row_ons (fun w h => own_get 2 (own_drops h.1) rfl) (by have h16 := dep_no hcl hD 16 rfl; rw [h16]; rfl)) | exact y_run rfl (by intro w h; go_simp; first | done | rfl))
      · (refine fs_pure (fun _ _ => rfl) (fun D x hD hcl hp => ?_); simp only [List.append_eq, List.cons_append, List.nil_append, putO]; simp only [Act.put, List.setIfInBounds_toArray, List.set_cons_zero, List.set_cons_succ]; first | exact y_skip rfl | exact y_run rfl (by intro w h; go_simp; first | done | rfl))
      · (refine fs_pure (fun _ _ => rfl) (fun D x hD hcl hp => ?_); simp only [List.append_eq, List.cons_append, List.nil_append, putO]; simp only [Act.put, List.setIfInBounds_toArray, List.set_cons_zero, List.set_cons_succ]; first | exact y_skip rfl | exact y_run rfl (by intro w h; go_simp; first | done | rfl))
      · (refine fs_pure (fun _ _ => rfl) (fun D x hD hcl hp => ?_); simp only [List.append_eq, List.cons_append, List.nil_append, putO]; simp only [Act.put, List.setIfInBounds_toArray, List.set_cons_zero, List.set_cons_succ]; first | exact y_skip rfl | exact (y_slice_to rfl rfl rfl rfl Try.underlying84 some_on (by have := HLT.out; have := HMX.out; omega)) | exact y_run rfl (by intro w h; go_simp; first | done | rfl))
      · skip
        intro D x w5 hD hcl hp hO hS5
        simp only [List.append_eq, List.cons_append, List.nil_append, putO]
        simp only [Act.put, List.setIfInBounds_toArray, List.set_cons_zero, List.set_cons_succ]
        have h16 := dep_no hcl hD 16 rfl
        have h1 := dep_yes hp (j := 1) rfl
        have hO2 := hO
        simp only [pop_2 h1 hD, List.cons_append, List.nil_append] at hO2
        have hrd : Rd w5 4 (.slice (some ad) ps.length cap) ps.length (cellsO ps) := by
          have h := (owns_rd (own_drop (own_drop (own_drop (own_drop (own_drop hO2)))))).low (k := ps.length) (c' := cap) (by have := HLT.out; omega) (by have := HLT.out; have := HMX.out; omega) HMX.out.2
          rw [HML.out, cellsO_append, List.take_append_of_le_length (by rw [cellsO_length]; omega), List.take_of_length_le (by rw [cellsO_length]; omega)] at h
          exact h
        refine own_append (n := 0) (xs := []) (m := ps.length) (news := cellsO ps) rfl rfl rfl rfl Try.underlying84 info_on3 rfl (by decide) hO2 hrd (cellsO_one _) (by have := HLT.out; have := H200.out; unfold maxLen; omega) (by have := HLT.out; have := H200.out; omega) ?_
        intro v' w6 hO6 hS6 hv'
        refine wpList_nil ⟨rfl, (x.1, v'), (by intro j hj; rcases j with _ | j; (focus (first | rfl | (exfalso; simp_all; done))); rcases j with _ | j; (focus (first | rfl | (exfalso; simp_all; done))); rcases j with _ | j; (focus (first | rfl | (exfalso; simp_all; done))); rcases j with _ | j; (focus (first | rfl | (exfalso; simp_all; done))); rcases j with _ | j; (focus (first | rfl | (exfalso; simp_all; done))); rcases j with _ | j; (focus (first | rfl | (exfalso; simp_all; done))); rcases j with _ | j; (focus (first | rfl | (exfalso; simp_all; done))); rcases j with _ | j; (focus (first | rfl | (exfalso; simp_all; done))); rcases j with _ | j; (focus (first | rfl | (exfalso; simp_all; done))); rcases j with _ | j; (focus (first | rfl | (exfalso; simp_all; done))); rcases j with _ | j; (focus (first | rfl | (exfalso; simp_all; done))); rcases j with _ | j; (focus (first | rfl | (exfalso; simp_all; done))); rcases j with _ | j; (focus (first | rfl | (exfalso; simp_all; done))); rcases j with _ | j; (focus (first | rfl | (exfalso; simp_all; done))); rcases j with _ | j; (focus (first | rfl | (exfalso; simp_all; done))); rcases j with _ | j; (focus (first | rfl | (exfalso; simp_all; done))); rcases j with _ | j; (focus (first | rfl | (exfalso; simp_all; done))); rfl), fun d hd _ => by cases hd; rfl, ?_, hS5.trans hS6⟩
        show Own w6 (popHL (upd D 13) _ ps ++ (_ :: _ :: pts q (.cells #[vb, (if D 16 = true then _ else _), _] _) :: _))
        rw [pop_3 (D := upd D 13) rfl, h16]
        rw [Nat.zero_add, List.nil_append, h16] at hO6
        exact hO6
      · (refine fs_pure (fun _ _ => rfl) (fun D x hD hcl hp => ?_); simp only [List.append_eq, List.cons_append, List.nil_append, putO]; simp only [Act.put, List.setIfInBounds_toArray, List.set_cons_zero, List.set_cons_succ]; first | exact y_skip rfl | exact y_run rfl (by intro w h; go_simp; first | done | rfl))
      · (refine fs_pure (fun _ _ => rfl) (fun D x hD hcl hp => ?_); simp only [List.append_eq, List.cons_append, List.nil_append, putO]; simp only [Act.put, List.setIfInBounds_toArray, List.set_cons_zero, List.set_cons_succ]; first | exact y_skip rfl | exact y_run rfl (by intro w h; go_simp; first | done | rfl))
      · skip
        intro D x w5 hD hcl hp hO hS5
        simp only [List.append_eq, List.cons_append, List.nil_append, putO]
        simp only [Act.put, List.setIfInBounds_toArray, List.set_cons_zero, List.set_cons_succ]
        have h13 := dep_yes hp (j := 13) rfl
        have hO2 := hO
        simp only [pop_3 h13, hD, List.cons_append, List.nil_append] at hO2
        obtain ⟨A3, c3, e3⟩ := (owns_rd hO2).slice
        refine own_store1 (k := 3) (b := q) (off := 1) (v := x.2) (cs := #[vb, .slice (some ad) m.l.length cap, .int .i64 m.next]) (cs' := #[vb, x.2, .int .i64 m.next]) rfl rfl rfl rfl sz_ons hO2 rfl (by rw [e3]; rfl) (by simp) rfl ?_
        intro w6 hO6 hS6
        refine wpList_nil ⟨rfl, x, (by intro j hj; rcases j with _ | j; (focus (first | rfl | (exfalso; simp_all; done))); rcases j with _ | j; (focus (first | rfl | (exfalso; simp_all; done))); rcases j with _ | j; (focus (first | rfl | (exfalso; simp_all; done))); rcases j with _ | j; (focus (first | rfl | (exfalso; simp_all; done))); rcases j with _ | j; (focus (first | rfl | (exfalso; simp_all; done))); rcases j with _ | j; (focus (first | rfl | (exfalso; simp_all; done))); rcases j with _ | j; (focus (first | rfl | (exfalso; simp_all; done))); rcases j with _ | j; (focus (first | rfl | (exfalso; simp_all; done))); rcases j with _ | j; (focus (first | rfl | (exfalso; simp_all; done))); rcases j with _ | j; (focus (first | rfl | (exfalso; simp_all; done))); rcases j with _ | j; (focus (first | rfl | (exfalso; simp_all; done))); rcases j with _ | j; (focus (first | rfl | (exfalso; simp_all; done))); rcases j with _ | j; (focus (first | rfl | (exfalso; simp_all; done))); rcases j with _ | j; (focus (first | rfl | (exfalso; simp_all; done))); rcases j with _ | j; (focus (first | rfl | (exfalso; simp_all; done))); rcases j with _ | j; (focus (first | rfl | (exfalso; simp_all; done))); rcases j with _ | j; (focus (first | rfl | (exfalso; simp_all; done))); rfl), (fun d hd _ => by cases hd), ?_, hS5.trans hS6⟩
        show Own w6 (popHL (upd D 16) _ ps ++ (_ :: _ :: pts q (.cells #[vb, _, _] _) :: _))
        rw [pop_3 (D := upd D 16) h13]
        exact hO6
    · intro x w10 D hD hO hS10
      simp only [List.append_eq, List.cons_append, List.nil_append, putO]
      simp only [Act.put, List.setIfInBounds_toArray, List.set_cons_zero, List.set_cons_succ]
      simp only [hD 1 (by decide), hD 13 (by decide), hD 16 (by decide), popHL, if_true, List.cons_append, List.nil_append] at hO
      simp only [Exit.then]
      clear hD
      go_wp2_with (first | (refine own_loadrow (b := y) (off := 0) (cs := #[.int .i64 o.p.blk, .int .i64 o.p.off, .string o.p.dat]) (t := 33) (vs := [.int .i64 o.p.blk, .int .i64 o.p.off, .string o.p.dat]) rfl rfl rfl row_pat sz_pat (own_get 1 hO rfl) (by simp) rfl ?_) | (refine own_store_all (k := 2) (b := g) (vs := #[.int .i64 o.p.blk, .int .i64 o.p.off, .string o.p.dat]) rfl rfl rfl rfl sz_pat hO rfl rfl rfl rfl ?_; clear hO; intro w11 hO hS11; simp only [List.set_cons_zero, List.set_cons_succ] at hO))
      have hl1 : m.popped.l = ps := by show m.l.dropLast = ps; rw [HML.out]; simp
      refine bodyPost_ret (results_cell_tmp rfl rfl (own_get 2 hO rfl) row_pat sz_pat) rfl ⟨rfl, rstk_open.2 ⟨vb, x.2, ?_⟩, hS2.trans (hS9.trans (hS10.trans hS11))⟩
      unfold rstkL
      rw [hl1]
      exact own_sub (own_perm hO (perm_count (l' := [pts q (.cells #[vb, x.2, .int .i64 m.next] 86), owns 5 1 vb 32 (bcs m.base), owns 93 4 x.2 ps.length (cellsO ps)] ++ (pts y (.cells #[.int .i64 o.p.blk, .int .i64 o.p.off, .string o.p.dat] 33) :: pts g (.cells #[.int .i64 o.p.blk, .int .i64 o.p.off, .string o.p.dat] 33) :: owns 93 4 (.slice (some ad) m.l.length cap) m.l.length (cellsO m.l) :: L)) fun x => by simp only [List.count_append, List.count_cons, List.count_nil]; omega)) (List.Sublist.append (List.Sublist.refl _) (.cons _ (.cons _ (.cons _ (List.Sublist.refl _)))))
end
end Go.Proofs.Ytdcbfdepkbplbaa.H
set_option linter.unusedVariables false
set_option linter.unusedSimpArgs false
set_option maxRecDepth 100000
namespace Go.Proofs.Ytdcbfdepkbplbaa.H
open Go.RowKit
theorem row_on : isRowB Try.prog 93 = some true := by kernel_rfl
theorem left_step {l : List On} {s : List Int} {k : Nat} {d : On} (hd : l[k]? = some d) : leftL (l.take (k + 1)) s = leftL (l.take k) s ++ (if s.contains (d.n : Int) then [] else [d]) := by
  obtain ⟨h1, h2⟩ := List.getElem?_eq_some_iff.1 hd
  unfold leftL
  rw [List.take_succ_eq_append_getElem h1, h2, List.filter_append]
  congr 1
  by_cases h : s.contains (d.n : Int) = true <;> simp only [List.filter_cons, h, List.filter_nil] <;> simp
theorem leftL_len (l : List On) (s : List Int) (k : Nat) : (leftL (l.take k) s).length ≤ l.length := by
  unfold leftL
  exact Nat.le_trans (List.length_filter_le _ _) (by rw [List.length_take]; omega)
/-- The reading of what stands in four cells. -/
theorem on_cells {w : World} {ad : Addr} {c : Nat} {l : List On} (h : Rd w 4 (.slice (some ad) l.length c) l.length (cellsO l)) {k : Nat} {o : On} (hk : l[k]? = some o) :
    w.cell? (ad.add (k * 4)) = some (.int .i64 o.n) ∧ w.cell? ((ad.add (k * 4)).add 0) = some (.int .i64 o.n) ∧ (∀ (j : Nat) (u : Value), o.cells[j]? = some u → w.cell? ((ad.add (k * 4)).add j) = some u) := by
  have h0 := h.cell (cellsO_at l k o hk 0 (.int .i64 o.n) rfl)
  exact ⟨by rwa [addr_add, Nat.add_zero] at h0, h0, fun j u hu => h.cell (cellsO_at l k o hk j u hu)⟩
section
variable (w : World) (L : List HP) (q : Nat) (m : Stk)
theorem rmay_no (sv : Value) (l : List Int) (hO : Own w (rstk q m :: L)) (hk : m.Ok) (hs : ∀ w', Own w' L → Rd w' 1 sv l.length (ints l)) (e : Int) (he : (OutL m.l l ∧ e = 2) ∨ (¬ OutL m.l l ∧ BusyL m.l l ∧ e = 12)) :
    Calls Try.prog 51 #[.pointer (some ⟨q, 0, none⟩), sv] w (Ret w (.int .i64 e) (rstk q m :: L)) := by
  obtain ⟨vb, vl, hO⟩ := rstk_open.1 hO
  refine (rmay_c w _ q vb vl m sv l hO (fun w' h => rAt_of h hk.base) hk (fun w' h => hs w' (own_drop (own_drop (own_drop h))))).mono fun x w' h => ?_
  have key : Ret w (.int .i64 e) (rstkL q vb vl m ++ L) x w' := by
    rcases he with ⟨h1, rfl⟩ | ⟨h1, h2, rfl⟩
    · rcases h with ⟨_, h⟩ | ⟨h', _⟩ | ⟨h', _⟩
      · exact h
      · exact (h' h1).elim
      · exact (h' h1).elim
    · rcases h with ⟨h', _⟩ | ⟨_, _, h⟩ | ⟨_, h', _⟩
      · exact (h1 h').elim
      · exact h
      · exact (h' h2).elim
  exact ⟨key.1, rstk_open.2 ⟨vb, vl, key.2.1⟩, key.2.2⟩
theorem rsettle_no (sv : Value) (l : List Int) (hO : Own w (rstk q m :: L)) (hk : m.Ok) (hs : ∀ w', Own w' L → Rd w' 1 sv l.length (ints l)) (e : Int) (he : (OutL m.l l ∧ e = 2) ∨ (¬ OutL m.l l ∧ BusyL m.l l ∧ e = 12)) :
    Calls Try.prog 58 #[.pointer (some ⟨q, 0, none⟩), sv] w (Ret w (.int .i64 e) (rstk q m :: L)) := by
  have HM := Lib.hid (rmay_no w L q m sv l hO hk hs e he)
  have hn1 : (e != 0) = true := by rcases he with ⟨_, rfl⟩ | ⟨_, _, rfl⟩ <;> rfl
  clear hk hs he
  go_enter Try.func58, Try.ntmps58
  go_wp2_with (first | (go_at_call 51; refine HM.out.mono ?_; clear hO; rintro e w1 ⟨rfl, hO, hS1⟩))
  go_ret
  exact ⟨rfl, hO, hS1⟩
set_option maxHeartbeats 3200000 in
theorem rsettle_ok (sv : Value) (s : List Int) (hO : Own w (rstk q m :: L)) (hk : m.Ok) (hs : ∀ w', Own w' L → Rd w' 1 sv s.length (ints s)) (h1 : ¬ OutL m.l s) (h2 : ¬ BusyL m.l s) :
    Calls Try.prog 58 #[.pointer (some ⟨q, 0, none⟩), sv] w (Ret w (.int .i64 0) (rstk q (m.settled s) :: L)) := by
  obtain ⟨vb, vl, hO⟩ := rstk_open.1 hO
  have hmay : Calls Try.prog 51 #[.pointer (some ⟨q, 0, none⟩), sv] w (Ret w (.int .i64 0) (rstkL q vb vl m ++ L)) :=
    (rmay_c w _ q vb vl m sv s hO (fun w' h => rAt_of h hk.base) hk (fun w' h => hs w' (own_drop (own_drop (own_drop h))))).mono fun x w' h => by
      rcases h with ⟨h', _⟩ | ⟨_, h', _⟩ | ⟨_, _, h⟩
      · exact (h1 h').elim
      · exact (h2 h').elim
      · exact h
  have HM := Lib.hid hmay
  have HK := Lib.hid hk
  have HS := Lib.hid hs
  obtain ⟨A, cap, rfl⟩ := (rAt_of hO hk.base).rd.slice
  have hmx := (rAt_of hO hk.base).rd.max
  clear hk hs hmay h1 h2
  go_enter Try.func58, Try.ntmps58
  go_wp2_with (first | (go_at_call 51; refine HM.out.mono ?_; clear hO; rintro e w1 ⟨rfl, hO, hS1⟩) | (go_at_call 52; refine (rwith_c _ _ q vb (.slice A m.l.length cap) m sv s hO (fun w' h => rAt_of h HK.out.base) HK.out (fun w' h => HS.out w' (own_drop (own_drop (own_drop h))))).mono ?_; clear hO; rintro e w2 ⟨v2, rfl, hO, hS2⟩; obtain ⟨A2, c2, rfl⟩ := (owns_rd hO).slice) | (refine own_store1 (k := 1) (b := q) (off := 0) (cs := #[vb, .slice A m.l.length cap, .int .i64 m.next]) (cs' := #[.slice A2 32 c2, .slice A m.l.length cap, .int .i64 m.next]) rfl rfl rfl rfl sz_bys17 hO rfl rfl (by simp) rfl ?_; clear hO; intro w3 hO hS3; simp only [List.set_cons_zero, List.set_cons_succ] at hO))
  have hO : Own w3 (owns 5 1 (.slice A2 32 c2) 32 (bcs (appAll m.base (selL m.l s))) :: pts q (.cells #[.slice A2 32 c2, .slice A m.l.length cap, .int .i64 m.next] 86) :: owns 5 1 vb 32 (bcs m.base) :: owns 93 4 (.slice A m.l.length cap) m.l.length (cellsO m.l) :: L) := hO
  go_loopw [6, 7] (fun v i wr => ∃ k : Nat, k ≤ m.l.length ∧ i = .int .i64 k ∧ Own wr (owns 93 4 v (leftL (m.l.take k) s).length (cellsO (leftL (m.l.take k) s)) :: owns 5 1 (.slice A2 32 c2) 32 (bcs (appAll m.base (selL m.l s))) :: pts q (.cells #[.slice A2 32 c2, .slice A m.l.length cap, .int .i64 m.next] 86) :: owns 5 1 vb 32 (bcs m.base) :: owns 93 4 (.slice A m.l.length cap) m.l.length (cellsO m.l) :: L) ∧ Same w wr) (fun _ i _ => m.l.length - (intOf i).toNat)
  case atStart => exact ⟨0, Nat.zero_le _, rfl, by rw [List.take_zero]; exact owns_nil hO, hS1.trans (hS2.trans hS3)⟩
  case round =>
    clear hO hS1 hS2 hS3
    obtain ⟨k, hk, rfl, hO, hS⟩ := hrel
    by_cases hlt : k < m.l.length
    · obtain ⟨d, hd⟩ : ∃ d, m.l[k]? = some d := ⟨_, List.getElem?_eq_getElem hlt⟩
      obtain ⟨ad, rfl⟩ := (owns_rd (own_drop (own_drop (own_drop (own_drop hO))))).addr (by rw [cellsO_length]; omega)
      have HC : Hid (∀ (w' : World) (B : HP), Own w' (B :: owns 5 1 (.slice A2 32 c2) 32 (bcs (appAll m.base (selL m.l s))) :: pts q (.cells #[.slice A2 32 c2, .slice (some ad) m.l.length cap, .int .i64 m.next] 86) :: owns 5 1 vb 32 (bcs m.base) :: owns 93 4 (.slice (some ad) m.l.length cap) m.l.length (cellsO m.l) :: L) → w'.cell? (ad.add (k * 4)) = some (.int .i64 d.n) ∧ w'.cell? ((ad.add (k * 4)).add 0) = some (.int .i64 d.n) ∧ (∀ (j : Nat) (u : Value), d.cells[j]? = some u → w'.cell? ((ad.add (k * 4)).add j) = some u)) := fun w' B h => on_cells (owns_rd (own_drop (own_drop (own_drop (own_drop h))))) hd
      have hm1 : (k : Int) < m.l.length := by omega
      have HST := Lib.hid (left_step (s := s) hd)
      have HLE : Hid ((leftL (m.l.take k) s).length ≤ 200) := Nat.le_trans (leftL_len _ _ _) HK.out.len
      have hc1 := (HC.out _ _ hO).1
      have hc2 := (HC.out _ _ hO).2.1
      clear hd
      cases hc : s.contains (d.n : Int) with
      | true =>
        have HCT := Lib.hid hc
        go_wp2_with (first | (refine own_load1 (b := q) (off := 1) (cs := #[.slice A2 32 c2, .slice (some ad) m.l.length cap, .int .i64 m.next]) (t := 86) (v := .slice (some ad) m.l.length cap) rfl rfl rfl row_ons (own_get 2 hO rfl) rfl ?_) | (go_at_call 67; have hq := rhas_c _ _ _ s (d.n : Int) hO (fun w' h => HS.out w' (own_drop (own_drop (own_drop (own_drop (own_drop h)))))); rw [HCT.out] at hq; refine hq.mono ?_; clear hq hO hc1 hc2 hc; rintro e w2 ⟨rfl, hO, hS2⟩))
        go_roundw
        case rel =>
          refine ⟨k + 1, by omega, by go_num, ?_, hS.trans hS2⟩
          rw [HST.out, HCT.out, if_pos rfl, List.append_nil]
          exact hO
        case measure => simp [intOf]; omega
      | false =>
        have HCT := Lib.hid hc
        go_wp2_with (first | (refine own_load1 (b := q) (off := 1) (cs := #[.slice A2 32 c2, .slice (some ad) m.l.length cap, .int .i64 m.next]) (t := 86) (v := .slice (some ad) m.l.length cap) rfl rfl rfl row_ons (own_get 2 hO rfl) rfl ?_) | (go_at_call 67; have hq := rhas_c _ _ _ s (d.n : Int) hO (fun w' h => HS.out w' (own_drop (own_drop (own_drop (own_drop (own_drop h)))))); rw [HCT.out] at hq; refine hq.mono ?_; clear hq hO hc1 hc2 hc; rintro e w2 ⟨rfl, hO, hS2⟩) | (refine own_loadrow_at (ad := ad.add (k * 4)) (vs := [.int .i64 d.n, .int .i64 d.p.blk, .int .i64 d.p.off, .string d.p.dat]) rfl rfl rfl row_on sz_on rfl (HC.out _ _ hO).2.2 ?_) | (refine own_append (m := 1) (n := (leftL (m.l.take k) s).length) (xs := (cellsO (leftL (m.l.take k) s))) (news := [.int .i64 d.n, .int .i64 d.p.blk, .int .i64 d.p.off, .string d.p.dat]) rfl rfl rfl rfl Try.underlying84 info_on3 rfl (by decide) (own_perm (own_alloc_new hO (.cells #[.int .i64 d.n, .int .i64 d.p.blk, .int .i64 d.p.off, .string d.p.dat] 93)) (List.Perm.swap _ _ _)) ?_ (on_one d) ?_ ?_ ?_; (exact rd_block (own_get 1 (own_perm (own_alloc_new hO (.cells #[.int .i64 d.n, .int .i64 d.p.blk, .int .i64 d.p.off, .string d.p.dat] 93)) (List.Perm.swap _ _ _)) rfl) rfl (by simp) (by simp) (by simp)); (have := HLE.out; unfold maxLen; omega); (have := HLE.out; omega); clear hO; intro v' w9 hO hS9 hv'))
        go_roundw
        case rel =>
          refine ⟨k + 1, by omega, by go_num, ?_, hS.trans (hS2.trans ((Same.alloc _ _).trans hS9))⟩
          rw [HST.out, HCT.out, if_neg (by simp), List.length_append, cellsO_append]
          exact own_skip hO
        case measure => simp [intOf]; omega
    · have hke : k = m.l.length := by omega
      subst hke
      rw [List.take_length] at hO
      obtain ⟨A3, c3, e3⟩ := (owns_rd hO).slice
      have HE3 := Lib.hid e3
      clear e3
      go_wp2_with (first | (refine own_load1 (b := q) (off := 1) (cs := #[.slice A2 32 c2, .slice A m.l.length cap, .int .i64 m.next]) (t := 86) (v := .slice A m.l.length cap) rfl rfl rfl row_ons (own_get 2 hO rfl) rfl ?_) | (refine own_store1 (k := 2) (b := q) (off := 1) (v := u6) (cs := #[.slice A2 32 c2, .slice A m.l.length cap, .int .i64 m.next]) (cs' := #[.slice A2 32 c2, u6, .int .i64 m.next]) rfl rfl rfl rfl sz_ons hO rfl (by rw [HE3.out]; rfl) (by simp) rfl ?_; clear hO; intro w4 hO hS4; simp only [List.set_cons_zero, List.set_cons_succ] at hO))
      go_ret
      refine ⟨rfl, rstk_open.2 ⟨.slice A2 32 c2, u6, ?_⟩, hS.trans hS4⟩
      exact own_sub (own_perm hO (perm_count (l' := [pts q (.cells #[.slice A2 32 c2, u6, .int .i64 m.next] 86), owns 5 1 (.slice A2 32 c2) 32 (bcs (appAll m.base (selL m.l s))), owns 93 4 u6 (leftL m.l s).length (cellsO (leftL m.l s))] ++ (owns 5 1 vb 32 (bcs m.base) :: owns 93 4 (.slice A m.l.length cap) m.l.length (cellsO m.l) :: L)) fun x => by simp only [List.count_append, List.count_cons, List.count_nil]; omega)) (List.Sublist.append (List.Sublist.refl _) (.cons _ (.cons _ (List.Sublist.refl _))))
end
end Go.Proofs.Ytdcbfdepkbplbaa.H
