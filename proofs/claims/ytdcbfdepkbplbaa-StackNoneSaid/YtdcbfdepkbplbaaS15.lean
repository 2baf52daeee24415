/- Contract of slices.Delete at one element. -/
import Derived.Test.YtdcbfdepkbplbaaS14
set_option linter.unusedVariables false
set_option linter.unusedSimpArgs false
set_option maxRecDepth 100000
namespace Go.Proofs.Ytdcbfdepkbplbaa.H
open Go.RowKit
section
variable {P : Program} {ops : Array Oper} {rest : List Oper} {o : Oper} {a : Act} {Q : Exit → Act → World → Prop} {w : World} {L : List HP} {C : World → Prop} {N : Act → Prop}
theorem wv_slice_from2 {ol : List Oper} {T e : TypeId} {x lo : Operand} {A A' : Option Addr} {n c m r c' : Nat} (hw : Region.wanted o (yielded ops a.tmps) = true) (ho : o.op = .slice T x (some lo) none none) (hx : a.eval x = .slice A n c) (hlo : a.eval lo = .int .i64 m)
    (ht : P.underlying T = some (.slice e)) (hs : (P.info? e).map (·.size) = some 1) (hm : m ≤ n) (hc : n ≤ c) (hA : (if c = m then A else A.map (·.add m)) = A') (hr : n - m = r) (hc' : c - m = c') (h : wpVals P ops C N ol (a.put o.dst (.slice A' r c'))) : wpVals P ops C N (o :: ol) a := by
  subst hr hc'
  exact wv_slice_from hw ho hx hlo ht hs hm hc hA h
theorem wv_slice_to {ol : List Oper} {T e : TypeId} {x hi : Operand} {ad : Addr} {n c m : Nat} (hw : Region.wanted o (yielded ops a.tmps) = true) (ho : o.op = .slice T x none (some hi) none) (hx : a.eval x = .slice (some ad) n c) (hhi : a.eval hi = .int .i64 m)
    (ht : P.underlying T = some (.slice e)) (hs : (P.info? e).map (·.size) = some 1) (hm : m ≤ c) (h : wpVals P ops C N ol (a.put o.dst (.slice (some ad) m c))) : wpVals P ops C N (o :: ol) a := by
  refine wv_run hw (fun w hC => ?_) h
  obtain ⟨i, hi', hz⟩ := Option.map_eq_some_iff.1 hs
  have h0 : (0 : Int) ≤ m := by omega
  have h1 : (m : Int) ≤ c := by omega
  have hr : (Instr.slice T (.slice (some ad) n c) none (some (.int .i64 m)) none).run P w = .ok (.slice (some ad) m c) w := by
    simp [Instr.slice, run_underlying ht, Instr.sliceBounds, run_sliceBound, sizeOf, typeInfo, hi', hz, h0, h1]
    intro hc0
    simp [Addr.add]
  simp only [execOp, ho, hx, hhi]
  simp [run_sliceAt_slice, hhi, hr, Instr.sliceAt, run_underlying ht]
/-- append where there is room, of what may lie in the same row. -/
theorem own_append_room {T e : TypeId} {s x : Operand} {bytes g sLen sCap m c k : Nat} {z : Value} {A : Option Addr} {cur : Array Value} {news new : List Value} (hw : Region.wanted o (yielded ops a.tmps) = true)
    (ho : o.op = .call { callee := .builtin .append, args := #[s, x], argTypes := #[T, T] }) (hs : a.eval s = .slice (some ⟨g, 0, none⟩) sLen sCap) (hx : a.eval x = .slice A m c) (ht : P.underlying T = some (.slice e)) (hinfo : (P.info? e).map (fun i => (i.zero, i.size, i.bytes)) = some (some z, 1, bytes))
    (hO : Own w L) (hk : L[k]? = some (pts g (.cells cur e))) (hr : Rd w 1 (.slice A m c) m news) (h1 : ∀ u ∈ news, u.oneCell' = true) (hroom : sLen + m ≤ sCap) (hfit : sLen + m ≤ cur.size) (hnew : cur.toList.take sLen ++ news ++ cur.toList.drop (sLen + m) = new)
    (h : ∀ w', Own w' (L.set k (pts g (.cells new.toArray e))) → Same w w' → wpList P ops Q rest (a.put o.dst (.slice (some ⟨g, 0, none⟩) (sLen + m) sCap)) w') : wpList P ops Q (o :: rest) a w := by
  obtain ⟨i, hi, hzz⟩ := Option.map_eq_some_iff.1 hinfo
  simp only [Prod.mk.injEq] at hzz
  obtain ⟨hz', hsz', hby⟩ := hzz
  have hg := own_get k hO hk
  subst hnew
  obtain ⟨hl, A', c', e1, hc1, hcm, hcell⟩ := hr.out
  cases e1
  have hl' : news.length = m := by simpa using hl
  have hkl : k < L.length := (List.getElem?_eq_some_iff.1 hk).1
  cases A with
  | some ad =>
    have hrun := run_append_room (P := P) w T o.type e i ht hi g sLen sCap cur hg ad m c news (by rw [hsz']; exact hl) (fun j u hu => by obtain ⟨ad', h2, h3⟩ := hcell j u hu; cases h2; exact h3) h1 hroom (by rw [hsz', hl']; simpa using hfit)
    rw [hsz', Nat.mul_one, hl'] at hrun
    refine ev (w1 := _) hw ?_ (h _ (own_back (own_put (own_at hO hk) (fun i hi x hx => setRow_keeps w g _ i hi x hx) (setRow_heap w g _ _ e _ hg)) hkl) (Same.setRow _ _ _))
    simp only [execOp, ho]
    simp [resolve, invoke, builtin, hs, hx, hrun, Result.andThen]
  | none =>
    have hm0 : news = [] := by
      cases news with
      | nil => rfl
      | cons u r => obtain ⟨ad', h2, _⟩ := hcell 0 u (by simp); cases h2
    subst hm0
    obtain rfl : m = 0 := by simpa using hl'.symm
    have hrun : (Builtin.append_ #[T, T] o.type #[.slice (some ⟨g, 0, none⟩) sLen sCap, .slice none 0 c]).run P w = .ok (.slice (some ⟨g, 0, none⟩) (sLen + 0) sCap) w := by
      have : sLen ≤ sCap := by omega
      simp [Builtin.append_, run_underlying ht, sizeOf, typeInfo, hi, Builtin.lenOf, Builtin.firstCells, this, storeCells]
    have e2 : (cur.toList.take sLen ++ ([] : List Value) ++ cur.toList.drop (sLen + 0)).toArray = cur := by simp
    refine ev hw ?_ (h w ?_ (Same.refl _))
    · simp only [execOp, ho]
      simp [resolve, invoke, builtin, hs, hx, hrun, Result.andThen]
    · rw [e2]
      have : L.set k (pts g (.cells cur e)) = L := by
        obtain ⟨h3, h4⟩ := List.getElem?_eq_some_iff.1 hk
        rw [← h4, List.set_getElem_self]
      rw [this]
      exact hO
/-- clear of some cells of a row. -/
theorem own_clear {T e : TypeId} {s : Operand} {g off n c k : Nat} {z : Value} {cur : Array Value} {new : List Value} (hw : Region.wanted o (yielded ops a.tmps) = true)
    (ho : o.op = .call { callee := .builtin .clear, args := #[s], argTypes := #[T] }) (hs : a.eval s = .slice (some ⟨g, off, none⟩) (n + 1) c) (ht : P.underlying T = some (.slice e)) (hv : ∀ w, (zeroValue e).run P w = .ok z w) (hz : z.cells = #[z]) (h1 : z.oneCell' = true)
    (hO : Own w L) (hk : L[k]? = some (pts g (.cells cur e))) (hfit : off + (n + 1) ≤ cur.size) (hnew : cur.toList.take off ++ List.replicate (n + 1) z ++ cur.toList.drop (off + (n + 1)) = new)
    (h : ∀ w', Own w' (L.set k (pts g (.cells new.toArray e))) → Same w w' → wpList P ops Q rest (a.put o.dst (.tuple #[])) w') : wpList P ops Q (o :: rest) a w := by
  have hg := own_get k hO hk
  subst hnew
  have hzc : (Builtin.zeroCells z.cells (n + 1)).toList = List.replicate (n + 1) z := by
    rw [hz]
    simp [Builtin.zeroCells]
    apply List.ext_getElem
    · simp
    · intro i h1 h2
      simp [Nat.mod_one]
  have hst := run_storeCells_at P g off e (List.replicate (n + 1) z) 0 cur w hg (by simpa using hfit) (by intro v hv'; rw [List.eq_of_mem_replicate hv']; exact h1)
  simp only [Nat.add_zero, List.length_replicate] at hst
  have hrun : (Builtin.clear_ #[T] o.type #[.slice (some ⟨g, off, none⟩) (n + 1) c]).run P w = .ok (.tuple #[]) (w.setRow g (cur.toList.take off ++ List.replicate (n + 1) z ++ cur.toList.drop (off + (n + 1))).toArray) := by
    simp [Builtin.clear_, run_underlying ht, hv, hzc, hst]
  refine ev (w1 := _) hw ?_ (h _ (own_back (own_put (own_at hO hk) (fun i hi x hx => setRow_keeps w g _ i hi x hx) (setRow_heap w g _ _ e _ hg)) (List.getElem?_eq_some_iff.1 hk).1) (Same.setRow _ _ _))
  simp only [execOp, ho]
  simp [resolve, invoke, builtin, hs, hrun, Result.andThen]
end
theorem zero_ptr : ∀ w, (zeroValue 68).run Try.prog w = .ok (.pointer none) w := by intro w; simp [zeroValue, typeInfo, go_sem]; rfl
/-- Without the i-th, the place behind the last cleared. -/
def delRow (cur : List Value) (i k : Nat) : List Value := cur.take i ++ (cur.take (k + 1)).drop (i + 1) ++ .pointer none :: cur.drop (k + 1)
theorem del_mid {cur : List Value} {i k : Nat} (hi : i ≤ k) (hk : k + 1 ≤ cur.length) : (cur.take i ++ (cur.take (k + 1)).drop (i + 1) ++ cur.drop (i + (k - i))).take k ++ [.pointer none] ++ (cur.take i ++ (cur.take (k + 1)).drop (i + 1) ++ cur.drop (i + (k - i))).drop (k + 1) = delRow cur i k := by
  have l1 : (cur.take i ++ (cur.take (k + 1)).drop (i + 1)).length = k := by simp; omega
  rw [List.take_append_of_le_length (Nat.le_of_eq l1.symm), List.take_of_length_le (Nat.le_of_eq l1), List.drop_append, List.drop_of_length_le (l := cur.take i ++ (cur.take (k + 1)).drop (i + 1)) (by rw [l1]; omega), l1, List.drop_drop]
  unfold delRow
  rw [show i + (k - i) + (k + 1 - k) = k + 1 by omega]
  simp
set_option maxHeartbeats 1600000 in
theorem delete_c (w : World) (L : List HP) (g k cap i : Nat) (cur : List Value) (hO : Own w (pts g (.cells cur.toArray 68) :: L)) (hi : i ≤ k) (hk : k + 1 ≤ cap) (hc : cur.length = cap) (hm : cap ≤ maxLen) (h200 : k ≤ 200) (hone : ∀ u ∈ cur.take (k + 1), u.oneCell' = true) :
    Calls Try.prog 42 #[.slice (some ⟨g, 0, none⟩) (k + 1) cap, .int .i64 i, .int .i64 (i + 1 : Nat)] w
      (Ret w (.slice (some ⟨g, 0, none⟩) k cap) (pts g (.cells (delRow cur i k).toArray 68) :: L)) := by
  obtain ⟨n, hn⟩ : ∃ n, n = k + 1 := ⟨_, rfl⟩
  obtain ⟨j, hj⟩ : ∃ j, j = i + 1 := ⟨_, rfl⟩
  obtain ⟨r, hr⟩ : ∃ r, n - j = r := ⟨_, rfl⟩
  obtain ⟨c', hc'⟩ : ∃ c', cap - j = c' := ⟨_, rfl⟩
  obtain ⟨A', hA⟩ : ∃ A', (if cap = j then some (⟨g, 0, none⟩ : Addr) else (some (⟨g, 0, none⟩ : Addr)).map (·.add j)) = A' := ⟨_, rfl⟩
  rw [← hn, ← hj]
  unfold maxLen at hm
  have HE : Hid (r = k - i ∧ i + r = k ∧ n = k + 1 ∧ j = i + 1 ∧ cur.length = cap ∧ i + r ≤ cap ∧ n ≤ cap ∧ j ≤ n ∧ i ≤ n) := by show _ ∧ _; omega
  have HA := Lib.hid hA
  have HIC : Hid (i ≤ cap) := by show _ ≤ _; omega
  have HRR := Lib.hid hr
  have HCC := Lib.hid hc'
  have hir : i + r = k := HE.out.2.1
  have hne : ((i : Int) == (j : Int)) = false := by simp; omega
  have HRD : Hid (∀ w', Own w' (pts g (.cells cur.toArray 68) :: L) → Rd w' 1 (.slice A' r c') r ((cur.take n).drop j)) := fun w' h => by
    have h1 := rd_block (own_get 0 h rfl) (size := 1) (n := n) (c := cap) (xs := cur.take n) (by simp) (by simp; omega) (by omega) (by omega)
    have h2 := rd_from h1 (by omega) HA.out
    rw [HRR.out, HCC.out] at h2
    exact h2
  have q1 : i ≤ j := by omega
  have q2 : j ≤ n := by omega
  have q3 : n ≤ cap := by omega
  have q4 : k ≤ n := by omega
  have q5 : (cap = k) = False := by simp; omega
  have q6 : (n = i) = False := by simp; omega
  have HONE : Hid (∀ u ∈ (cur.take n).drop j, u.oneCell' = true) := fun u hu => hone u (by rw [← hn]; exact List.mem_of_mem_drop hu)
  have hnk : n - k = 1 := by omega
  have HI : Hid (i ≤ k) := hi
  clear hA hr hc' hn hj hc hi hk hone
  go_enter Try.func42, Try.ntmps42
  go_wp2
  refine wp_region_seq (Cls w (pts g (.cells cur.toArray 68) :: L)) 6 33 mixed (by kernel_rfl) rfl (cls_drew hO) ?_
  simp only [List.take_succ_cons, List.take_zero]
  repeat (first
    | (apply wv_skip rfl; simp only [Act.put, List.setIfInBounds_toArray, List.set_cons_zero, List.set_cons_succ])
    | (refine wv_slice_from2 rfl rfl rfl rfl Try.underlying70 sz_ptr HE.out.2.2.2.2.2.2.2.1 HE.out.2.2.2.2.2.2.1 HA.out HRR.out HCC.out ?_; simp only [Act.put, List.setIfInBounds_toArray, List.set_cons_zero, List.set_cons_succ])
    | (refine wv_slice_to rfl rfl rfl rfl Try.underlying70 sz_ptr HIC.out ?_; simp only [Act.put, List.setIfInBounds_toArray, List.set_cons_zero, List.set_cons_succ])
    | (apply wv_load1 rfl rfl rfl; (first | exact row_int | exact row_str | exact row_bool | exact row_u8 | exact row_bys | exact row_pats | exact row_err); (intro w h; (first | exact own_get 0 h.1 rfl | exact own_get 1 h.1 rfl | exact own_get 2 h.1 rfl | exact own_get 3 h.1 rfl | exact own_get 4 h.1 rfl | exact own_get 5 h.1 rfl | exact own_get 6 h.1 rfl | exact own_get 7 h.1 rfl)); (first | (simp only [List.getElem?_toArray, List.getElem?_cons_succ, List.getElem?_cons_zero]; rfl) | rfl); simp only [Act.put, List.setIfInBounds_toArray, List.set_cons_zero, List.set_cons_succ])
    | (apply wv_loadrow rfl rfl rfl; (first | exact row_pat); exact sz_pat; (intro w h; (first | exact own_get 0 h.1 rfl | exact own_get 1 h.1 rfl | exact own_get 2 h.1 rfl | exact own_get 3 h.1 rfl | exact own_get 4 h.1 rfl | exact own_get 5 h.1 rfl | exact own_get 6 h.1 rfl | exact own_get 7 h.1 rfl)); (focus (simp; done)); (first | (simp only [List.drop_zero, List.drop_succ_cons, List.take_succ_cons, List.take_zero]; rfl) | rfl); simp only [Act.put, List.setIfInBounds_toArray, List.set_cons_zero, List.set_cons_succ])
    | (apply wv_run rfl; (focus (intro w h; go_simp; first | done | rfl)); simp only [Act.put, List.setIfInBounds_toArray, List.set_cons_zero, List.set_cons_succ])
    | (apply wv_call rfl; (focus (intro w; go_simp; first | done | exact ⟨rfl, rfl⟩)); (focus (intro w h; apply cls_call h; fail)); simp only [Act.put, List.setIfInBounds_toArray, List.set_cons_zero, List.set_cons_succ]))
  refine wv_nil ?_
  simp only [List.drop_succ_cons, List.drop_zero]
  intro w5 ⟨hO5, hS5⟩
  clear hO
  have HD : Hid (cur.take i ++ (cur.take n).drop j ++ cur.drop (i + r) = cur.take i ++ (cur.take (k + 1)).drop (i + 1) ++ cur.drop (i + (k - i))) := by
    have h := HE.out
    show _ = _
    rw [h.1, h.2.2.1, h.2.2.2.1]
  have HL2 : Hid ((cur.take i ++ (cur.take (k + 1)).drop (i + 1) ++ cur.drop (i + (k - i))).length = cap) := by
    have h := HE.out
    have := HI.out
    show _ = _
    simp only [List.length_append, List.length_take, List.length_drop]
    omega
  go_wp2_with (first | (refine own_append_room (sLen := i) (m := r) (k := 0) (cur := cur.toArray) (news := (cur.take n).drop j) (new := cur.take i ++ (cur.take (k + 1)).drop (i + 1) ++ cur.drop (i + (k - i))) rfl rfl rfl rfl Try.underlying70 info_ptr hO5 rfl (HRD.out _ hO5) HONE.out HE.out.2.2.2.2.2.1 (by rw [List.size_toArray, HE.out.2.2.2.2.1]; exact HE.out.2.2.2.2.2.1) HD.out ?_; clear hO5; intro w6 hO hS6; simp only [List.set_cons_zero] at hO) | (refine own_clear (n := 0) (k := 0) (g := g) (off := k) (cur := (cur.take i ++ (cur.take (k + 1)).drop (i + 1) ++ cur.drop (i + (k - i))).toArray) (new := delRow cur i k) rfl rfl rfl Try.underlying70 zero_ptr rfl rfl hO rfl ?_ ?_ ?_; (rw [List.size_toArray, HL2.out]; have := HE.out; omega); (exact del_mid HI.out (by have := HE.out; omega)); clear hO; intro w7 hO hS7; simp only [List.set_cons_zero] at hO))
  go_ret
  exact ⟨rfl, hO, hS5.trans (hS6.trans hS7)⟩
end Go.Proofs.Ytdcbfdepkbplbaa.H
