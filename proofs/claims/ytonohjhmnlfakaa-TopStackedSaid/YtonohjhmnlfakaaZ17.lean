/- Laws of cuts, appends where there is room, and clears, at elements of whatever size; Delete, Clone, Clip of entries. Delete of one entry; Clone, Clip of entries. -/
import Derived.Test.YtonohjhmnlfakaaZ16
import Derived.Test.YtonohjhmnlfakaaZ03
set_option linter.unusedVariables false
set_option linter.unusedSimpArgs false
set_option maxRecDepth 100000
namespace Go.Proofs.Ytonohjhmnlfakaa.H
open Go.RowKit
theorem rd_fromZ {w : World} {A A' : Option Addr} {n c m sz : Nat} {xs : List Value} (h : Rd w sz (.slice A n c) n xs) (hm : m ≤ n) (hA : (if c = m then A else A.map (·.add (m * sz))) = A') : Rd w sz (.slice A' (n - m) (c - m)) (n - m) (xs.drop (m * sz)) := by
  have hx := h.max
  have hl := h.out.1
  by_cases e : c = m
  · rw [if_pos e] at hA
    subst hA
    have hnm : n = m := by omega
    have : xs.drop (m * sz) = [] := List.drop_eq_nil_of_le (by rw [hl, hnm]; exact Nat.le_refl _)
    rw [this, show n - m = 0 by omega]
    exact ⟨by simp, A, _, rfl, Nat.zero_le _, by omega, fun j u hu => by simp at hu⟩
  · rw [if_neg e] at hA
    subst hA
    have h2 := h.cut (lo := m) (k := n - m) (c' := c - m) (by omega) (by omega) (by omega)
    rw [List.take_of_length_le (by rw [List.length_drop, hl, ← Nat.sub_mul]; exact Nat.le_refl _)] at h2
    exact h2
section
variable {P : Program} {ops : Array Oper} {rest : List Oper} {o : Oper} {a : Act} {Q : Exit → Act → World → Prop} {w : World} {L : List HP} {C : World → Prop} {N : Act → Prop}
theorem run_slice_fromZ {w : World} {T e : TypeId} {A A' : Option Addr} {n c m sz : Nat} (ht : P.underlying T = some (.slice e)) (hs : (P.info? e).map (·.size) = some sz) (hm : m ≤ n) (hc : n ≤ c) (hA : (if c = m then A else A.map (·.add (m * sz))) = A') :
    (Instr.slice T (.slice A n c) (some (.int .i64 m)) none none).run P w = .ok (.slice A' (n - m) (c - m)) w := by
  obtain ⟨i, hi, hz⟩ := Option.map_eq_some_iff.1 hs
  subst hA
  have h0 : (0 : Int) ≤ m := by omega
  have h1 : (m : Int) ≤ n := by omega
  have h2 : (n : Int) ≤ c := by omega
  simp [Instr.slice, run_underlying ht, Instr.sliceBounds, run_sliceBound, sizeOf, typeInfo, hi, hz, h0, h1, h2]
theorem wv_slice_fromZ {ol : List Oper} {T e : TypeId} {x lo : Operand} {A A' : Option Addr} {n c m r c' sz : Nat} (hw : Region.wanted o (yielded ops a.tmps) = true) (ho : o.op = .slice T x (some lo) none none) (hx : a.eval x = .slice A n c) (hlo : a.eval lo = .int .i64 m)
    (ht : P.underlying T = some (.slice e)) (hs : (P.info? e).map (·.size) = some sz) (hm : m ≤ n) (hc : n ≤ c) (hA : (if c = m then A else A.map (·.add (m * sz))) = A') (hr : n - m = r) (hc' : c - m = c') (h : wpVals P ops C N ol (a.put o.dst (.slice A' r c'))) : wpVals P ops C N (o :: ol) a := by
  subst hr hc'
  refine wv_run hw (fun w hC => ?_) h
  have hr := run_slice_fromZ (P := P) (w := w) ht hs hm hc hA
  simp only [execOp, ho, hx, hlo]
  simp [run_sliceAt_slice, hlo, hr, Instr.sliceAt, run_underlying ht]
theorem wv_slice_toZ {ol : List Oper} {T e : TypeId} {x hi : Operand} {ad : Addr} {n c m sz : Nat} (hw : Region.wanted o (yielded ops a.tmps) = true) (ho : o.op = .slice T x none (some hi) none) (hx : a.eval x = .slice (some ad) n c) (hhi : a.eval hi = .int .i64 m)
    (ht : P.underlying T = some (.slice e)) (hs : (P.info? e).map (·.size) = some sz) (hm : m ≤ c) (h : wpVals P ops C N ol (a.put o.dst (.slice (some ad) m c))) : wpVals P ops C N (o :: ol) a := by
  refine wv_run hw (fun w hC => ?_) h
  obtain ⟨i, hi', hz⟩ := Option.map_eq_some_iff.1 hs
  have h0 : (0 : Int) ≤ m := by omega
  have h1 : (m : Int) ≤ c := by omega
  have hr : (Instr.slice T (.slice (some ad) n c) none (some (.int .i64 m)) none).run P w = .ok (.slice (some ad) m c) w := by
    simp [Instr.slice, run_underlying ht, Instr.sliceBounds, run_sliceBound, sizeOf, typeInfo, hi', hz, h0, h1]
    intro hc0
    simp [Addr.add]
  simp only [execOp, ho, hx, hhi]
  simp [run_sliceAt_slice, hhi, hr, Instr.sliceAt, run_underlying ht]
/-- append where there is room, of what may lie in the same row. -/
theorem own_append_roomZ {T e : TypeId} {s x : Operand} {bytes g sLen sCap m c k sz : Nat} {z : Value} {A : Option Addr} {cur : Array Value} {news new : List Value} (hw : Region.wanted o (yielded ops a.tmps) = true)
    (ho : o.op = .call { callee := .builtin .append, args := #[s, x], argTypes := #[T, T] }) (hs : a.eval s = .slice (some ⟨g, 0, none⟩) sLen sCap) (hx : a.eval x = .slice A m c) (ht : P.underlying T = some (.slice e)) (hinfo : (P.info? e).map (fun i => (i.zero, i.size, i.bytes)) = some (some z, sz, bytes)) (hsz0 : 0 < sz)
    (hO : Own w L) (hk : L[k]? = some (pts g (.cells cur e))) (hr : Rd w sz (.slice A m c) m news) (h1 : ∀ u ∈ news, u.oneCell' = true) (hroom : sLen + m ≤ sCap) (hfit : (sLen + m) * sz ≤ cur.size) (hnew : cur.toList.take (sLen * sz) ++ news ++ cur.toList.drop ((sLen + m) * sz) = new)
    (h : ∀ w', Own w' (L.set k (pts g (.cells new.toArray e))) → Same w w' → wpList P ops Q rest (a.put o.dst (.slice (some ⟨g, 0, none⟩) (sLen + m) sCap)) w') : wpList P ops Q (o :: rest) a w := by
  obtain ⟨i, hi, hzz⟩ := Option.map_eq_some_iff.1 hinfo
  simp only [Prod.mk.injEq] at hzz
  obtain ⟨hz', hsz', hby⟩ := hzz
  have hg := own_get k hO hk
  subst hnew
  obtain ⟨hl, A', c', e1, hc1, hcm, hcell⟩ := hr.out
  cases e1
  have hkl : k < L.length := (List.getElem?_eq_some_iff.1 hk).1
  have hadd : sLen * sz + news.length = (sLen + m) * sz := by rw [hl, Nat.add_mul]
  cases A with
  | some ad =>
    have hrun := run_append_room (P := P) w T o.type e i ht hi g sLen sCap cur hg ad m c news (by rw [hsz']; exact hl) (fun j u hu => by obtain ⟨ad', h2, h3⟩ := hcell j u hu; cases h2; exact h3) h1 hroom (by rw [hsz', hadd]; exact hfit)
    rw [hsz', hadd] at hrun
    refine ev (w1 := _) hw ?_ (h _ (own_back (own_put (own_at hO hk) (fun i hi x hx => setRow_keeps w g _ i hi x hx) (setRow_heap w g _ _ e _ hg)) hkl) (Same.setRow _ _ _))
    simp only [execOp, ho]
    simp [resolve, invoke, builtin, hs, hx, hrun, Result.andThen]
  | none =>
    have hm0 : news = [] := by
      cases news with
      | nil => rfl
      | cons u r => obtain ⟨ad', h2, _⟩ := hcell 0 u (by simp); cases h2
    subst hm0
    have hmz : m = 0 := by
      have h0 : m * sz = 0 := by simpa using hl.symm
      rcases Nat.mul_eq_zero.1 h0 with h | h
      · exact h
      · omega
    subst hmz
    have hrun : (Builtin.append_ #[T, T] o.type #[.slice (some ⟨g, 0, none⟩) sLen sCap, .slice none 0 c]).run P w = .ok (.slice (some ⟨g, 0, none⟩) (sLen + 0) sCap) w := by
      have : sLen ≤ sCap := by omega
      simp [Builtin.append_, run_underlying ht, sizeOf, typeInfo, hi, Builtin.lenOf, Builtin.firstCells, this, storeCells]
    have e2 : (cur.toList.take (sLen * sz) ++ ([] : List Value) ++ cur.toList.drop ((sLen + 0) * sz)).toArray = cur := by simp
    refine ev hw ?_ (h w ?_ (Same.refl _))
    · simp only [execOp, ho]
      simp [resolve, invoke, builtin, hs, hx, hrun, Result.andThen]
    · rw [e2]
      have : L.set k (pts g (.cells cur e)) = L := by
        obtain ⟨h3, h4⟩ := List.getElem?_eq_some_iff.1 hk
        rw [← h4, List.set_getElem_self]
      rw [this]
      exact hO
/-- clear of some elements of a row: whatever stands there then. -/
theorem own_clearZ {T e : TypeId} {s : Operand} {g lo n c k sz : Nat} {z : Value} {cur : Array Value} (hw : Region.wanted o (yielded ops a.tmps) = true)
    (ho : o.op = .call { callee := .builtin .clear, args := #[s], argTypes := #[T] }) (hs : a.eval s = .slice (some ⟨g, lo, none⟩) (n + 1) c) (ht : P.underlying T = some (.slice e)) (hv : ∀ w, (zeroValue e).run P w = .ok z w) (hz : z.cells.size = sz) (h1 : ∀ u ∈ z.cells.toList, u.oneCell' = true) (hsz : 0 < sz)
    (hO : Own w L) (hk : L[k]? = some (pts g (.cells cur e))) (hfit : lo + (n + 1) * sz ≤ cur.size)
    (h : ∀ zl w', zl.length = (n + 1) * sz → Own w' (L.set k (pts g (.cells (cur.toList.take lo ++ zl ++ cur.toList.drop (lo + (n + 1) * sz)).toArray e))) → Same w w' → wpList P ops Q rest (a.put o.dst (.tuple #[])) w') : wpList P ops Q (o :: rest) a w := by
  have hg := own_get k hO hk
  obtain ⟨zl, hzl⟩ : ∃ zl, zl = (Builtin.zeroCells z.cells (n + 1)).toList := ⟨_, rfl⟩
  have hlen : zl.length = (n + 1) * sz := by rw [hzl]; simp [Builtin.zeroCells, hz]
  have hone : ∀ u ∈ zl, u.oneCell' = true := fun u hu => by
    rw [hzl] at hu
    simp only [Builtin.zeroCells, Array.toList_map, Array.toList_range] at hu
    obtain ⟨j, _, rfl⟩ := List.mem_map.1 hu
    have hj : j % z.cells.size < z.cells.size := Nat.mod_lt _ (by omega)
    rw [getElem!_pos z.cells (j % z.cells.size) hj]
    exact h1 _ (by rw [Array.mem_toList_iff]; exact Array.getElem_mem _)
  have hst := run_storeCells_at P g lo e zl 0 cur w hg (by rw [hlen]; simpa using hfit) hone
  simp only [Nat.add_zero, hlen] at hst
  have hrun : (Builtin.clear_ #[T] o.type #[.slice (some ⟨g, lo, none⟩) (n + 1) c]).run P w = .ok (.tuple #[]) (w.setRow g (cur.toList.take lo ++ zl ++ cur.toList.drop (lo + (n + 1) * sz)).toArray) := by
    simp [Builtin.clear_, run_underlying ht, hv, ← hzl, hst]
  refine ev (w1 := _) hw ?_ (h zl _ hlen (own_back (own_put (own_at hO hk) (fun i hi x hx => setRow_keeps w g _ i hi x hx) (setRow_heap w g _ _ e _ hg)) (List.getElem?_eq_some_iff.1 hk).1) (Same.setRow _ _ _))
  simp only [execOp, ho]
  simp [resolve, invoke, builtin, hs, hrun, Result.andThen]
end
theorem zero_entv : ∀ w, (zeroValue 79).run Try.prog w = .ok (.agg #[.int .i64 0, .int .i64 0, .int .i64 0, .string ⟨#[]⟩, .slice none 0 0]) w := by
  intro w
  obtain ⟨i, hi, hz⟩ := Option.map_eq_some_iff.1 zero_ent
  simp [zeroValue, typeInfo, hi, hz]
theorem cellsW_take (l : List We) (k : Nat) : (cellsW l).take (k * 5) = cellsW (l.take k) := by
  induction l generalizing k with
  | nil => simp [cellsW]
  | cons x l ih =>
    have e1 : cellsW (x :: l) = We.cells x ++ cellsW l := rfl
    have h5 : (We.cells x).length = 5 := rfl
    cases k with
    | zero => simp [cellsW]
    | succ k =>
      have e2 : cellsW ((x :: l).take (k + 1)) = We.cells x ++ cellsW (l.take k) := rfl
      rw [e1, e2, show (k + 1) * 5 = (We.cells x).length + k * 5 by omega, List.take_length_add_append, ih]
theorem cellsW_drop (l : List We) (k : Nat) : (cellsW l).drop (k * 5) = cellsW (l.drop k) := by
  induction l generalizing k with
  | nil => simp [cellsW]
  | cons x l ih =>
    have e1 : cellsW (x :: l) = We.cells x ++ cellsW l := rfl
    have h5 : (We.cells x).length = 5 := rfl
    cases k with
    | zero => simp
    | succ k => rw [e1, show (k + 1) * 5 = (We.cells x).length + k * 5 by omega, List.drop_length_add_append, ih]; rfl
theorem cellsW_one {l : List We} (h : ∀ x ∈ l, x.2.oneCell' = true) : ∀ u ∈ cellsW l, u.oneCell' = true := by
  intro u hu
  obtain ⟨x, hx, h2⟩ := List.mem_flatMap.1 hu
  unfold We.cells at h2
  simp at h2
  rcases h2 with rfl | rfl | rfl | rfl | rfl
  · rfl
  · rfl
  · rfl
  · rfl
  · exact h x hx
end Go.Proofs.Ytonohjhmnlfakaa.H
set_option linter.unusedVariables false
set_option linter.unusedSimpArgs false
set_option maxRecDepth 100000
namespace Go.Proofs.Ytonohjhmnlfakaa.H
open Go.RowKit
set_option maxHeartbeats 1600000 in
theorem delete_e (w : World) (L : List HP) (v : Value) (we : List We) (i k : Nat) (hO : Own w (owns 79 5 v (k + 1) (cellsW we) :: L)) (hl : we.length = k + 1) (hi : i ≤ k) (h200 : k ≤ 200) (hone : ∀ x ∈ we, x.2.oneCell' = true) :
    Calls Try.prog 82 #[v, .int .i64 i, .int .i64 (i + 1 : Nat)] w (RetX w (fun v' : Value => v') (fun v' => owns 79 5 v' k (cellsW (we.eraseIdx i)) :: L)) := by
  obtain ⟨g, cap, rest, rfl, hk, hmax, hsz, hcl, hO⟩ := owns_open hO (fun e => by
    have h := owns_row hO
    rw [e] at h
    rcases h.2 with ⟨_, h2⟩ | ⟨g, cap, cur, e1, _⟩
    · omega
    · cases e1)
  obtain ⟨n, hn⟩ : ∃ n, n = k + 1 := ⟨_, rfl⟩
  obtain ⟨j, hj⟩ : ∃ j, j = i + 1 := ⟨_, rfl⟩
  obtain ⟨r, hr⟩ : ∃ r, n - j = r := ⟨_, rfl⟩
  obtain ⟨c', hc'⟩ : ∃ c', cap - j = c' := ⟨_, rfl⟩
  obtain ⟨A', hA⟩ : ∃ A', (if cap = j then some (⟨g, 0, none⟩ : Addr) else (some (⟨g, 0, none⟩ : Addr)).map (·.add (j * 5))) = A' := ⟨_, rfl⟩
  have HM := Lib.hid hmax
  rw [← hn] at hl hk hcl ⊢
  rw [← hj]
  unfold maxLen at hmax
  obtain ⟨cur, hcur⟩ : ∃ cur, cur = cellsW we ++ rest := ⟨_, rfl⟩
  rw [← hcur] at hO hsz
  have HE : Hid (r = k - i ∧ i + r = k ∧ n = k + 1 ∧ j = i + 1 ∧ cur.length = cap * 5 ∧ i + r ≤ cap ∧ n ≤ cap ∧ j ≤ n ∧ i ≤ n) := by
    refine ⟨?_, ?_, ?_, ?_, hsz, ?_, ?_, ?_, ?_⟩ <;> omega
  have HA := Lib.hid hA
  have HIC : Hid (i ≤ cap) := by show _ ≤ _; omega
  have HRR := Lib.hid hr
  have HCC := Lib.hid hc'
  have hir : i + r = k := HE.out.2.1
  have hne : ((i : Int) == (j : Int)) = false := by simp; omega
  have hctake : cur.take (n * 5) = cellsW we := by
    rw [hcur, List.take_append_of_le_length (by rw [hcl]; exact Nat.le_refl _), List.take_of_length_le (by rw [hcl]; exact Nat.le_refl _)]
  have HCT := Lib.hid hctake
  have HRD : Hid (∀ w', Own w' (pts g (.cells cur.toArray 79) :: L) → Rd w' 5 (.slice A' r c') r ((cellsW we).drop (j * 5))) := Lib.hid fun w' h => by
    have h1 := rd_block (own_get 0 h rfl) (size := 5) (n := n) (c := cap) (xs := cellsW we) (by rw [← hctake]) (by rw [List.size_toArray, hsz]; omega) (by omega) (by omega)
    have h2 := rd_fromZ h1 (by omega) HA.out
    rw [HRR.out, HCC.out] at h2
    exact h2
  have q1 : i ≤ j := by omega
  have q2 : j ≤ n := by omega
  have q3 : n ≤ cap := by omega
  have q4 : k ≤ n := by omega
  have q5 : (cap = k) = False := by simp; omega
  have q6 : (n = i) = False := by simp; omega
  have HONE : Hid (∀ u ∈ (cellsW we).drop (j * 5), u.oneCell' = true) := fun u hu => cellsW_one hone u (List.mem_of_mem_drop hu)
  have hnk : n - k = 1 := by omega
  have HI : Hid (i ≤ k) := hi
  have HL := Lib.hid hl
  clear hA hr hc' hn hj hi hk hone hcur hcl hsz hl hctake
  go_enter Try.func82, Try.ntmps82
  go_wp2
  refine wp_region_seq (Cls w (pts g (.cells cur.toArray 79) :: L)) 6 33 mixed (by kernel_rfl) rfl (cls_drew hO) ?_
  simp only [List.append_eq, List.cons_append, List.nil_append, List.take_succ_cons, List.take_zero]
  repeat (first
    | (apply wv_skip rfl; simp only [Act.put, List.setIfInBounds_toArray, List.set_cons_zero, List.set_cons_succ])
    | (refine wv_slice_fromZ rfl rfl rfl rfl Try.underlying65 sz_ent HE.out.2.2.2.2.2.2.2.1 HE.out.2.2.2.2.2.2.1 HA.out HRR.out HCC.out ?_; simp only [Act.put, List.setIfInBounds_toArray, List.set_cons_zero, List.set_cons_succ])
    | (refine wv_slice_toZ rfl rfl rfl rfl Try.underlying65 sz_ent HIC.out ?_; simp only [Act.put, List.setIfInBounds_toArray, List.set_cons_zero, List.set_cons_succ])
    | (apply wv_load1 rfl rfl rfl; (first | exact row_int | exact row_str | exact row_bool | exact row_u8 | exact row_bys | exact row_pats | exact row_err); (intro w h; (first | exact own_get 0 h.1 rfl | exact own_get 1 h.1 rfl | exact own_get 2 h.1 rfl | exact own_get 3 h.1 rfl | exact own_get 4 h.1 rfl | exact own_get 5 h.1 rfl | exact own_get 6 h.1 rfl | exact own_get 7 h.1 rfl)); (first | (simp only [List.getElem?_toArray, List.getElem?_cons_succ, List.getElem?_cons_zero]; rfl) | rfl); simp only [Act.put, List.setIfInBounds_toArray, List.set_cons_zero, List.set_cons_succ])
    | (apply wv_loadrow rfl rfl rfl; (first | exact row_pat); exact sz_pat; (intro w h; (first | exact own_get 0 h.1 rfl | exact own_get 1 h.1 rfl | exact own_get 2 h.1 rfl | exact own_get 3 h.1 rfl | exact own_get 4 h.1 rfl | exact own_get 5 h.1 rfl | exact own_get 6 h.1 rfl | exact own_get 7 h.1 rfl)); (focus (simp; done)); (first | (simp only [List.drop_zero, List.drop_succ_cons, List.take_succ_cons, List.take_zero]; rfl) | rfl); simp only [Act.put, List.setIfInBounds_toArray, List.set_cons_zero, List.set_cons_succ])
    | (apply wv_run rfl; (focus (intro w h; go_simp; first | done | rfl)); simp only [Act.put, List.setIfInBounds_toArray, List.set_cons_zero, List.set_cons_succ])
    | (apply wv_call rfl; (focus (intro w; go_simp; first | done | exact ⟨rfl, rfl⟩)); (focus (intro w h; apply cls_call h; fail)); simp only [Act.put, List.setIfInBounds_toArray, List.set_cons_zero, List.set_cons_succ]))
  refine wv_nil ?_
  simp only [List.drop_succ_cons, List.drop_zero]
  intro w5 ⟨hO5, hS5⟩
  clear hO
  obtain ⟨new, hnew⟩ : ∃ new, cur.take (i * 5) ++ (cellsW we).drop (j * 5) ++ cur.drop ((i + r) * 5) = new := ⟨_, rfl⟩
  have HNEW := Lib.hid hnew
  have HNL : Hid (new.length = cap * 5) := by
    show _ = _
    have h := HE.out
    have hl2 : (cellsW we).length = n * 5 := by rw [cellsW_length, HL.out]
    rw [← hnew]
    simp only [List.length_append, List.length_take, List.length_drop, h.2.2.2.2.1, hl2]
    omega
  have HTK : Hid (new.take (k * 5) = cellsW (we.eraseIdx i)) := by
    show _ = _
    have h := HE.out
    have hl2 : (cellsW we).length = n * 5 := by rw [cellsW_length, HL.out]
    have e1 : cur.take (i * 5) = (cellsW we).take (i * 5) := by
      rw [← HCT.out, List.take_take, Nat.min_eq_left (by omega)]
    have l1 : ((cellsW we).take (i * 5) ++ (cellsW we).drop (j * 5)).length = k * 5 := by
      rw [List.length_append, List.length_take, List.length_drop, hl2]; omega
    rw [← hnew, e1, List.take_append_of_le_length (by rw [l1]; exact Nat.le_refl _), List.take_of_length_le (by rw [l1]; exact Nat.le_refl _), cellsW_take, cellsW_drop, ← cellsW_app, List.eraseIdx_eq_take_drop_succ, h.2.2.2.1]
  clear hnew
  go_wp2_with (first | (refine own_append_roomZ (sLen := i) (m := r) (k := 0) (cur := cur.toArray) (news := (cellsW we).drop (j * 5)) (new := new) rfl rfl rfl rfl Try.underlying65 info_ent3 (by decide) hO5 rfl (HRD.out _ hO5) HONE.out HE.out.2.2.2.2.2.1 (by rw [List.size_toArray, HE.out.2.2.2.2.1]; exact Nat.mul_le_mul_right _ HE.out.2.2.2.2.2.1) HNEW.out ?_; clear hO5; intro w6 hO hS6; simp only [List.set_cons_zero] at hO) | (refine own_clearZ (n := 0) (k := 0) (g := g) (lo := k * 5) (sz := 5) (cur := new.toArray) rfl rfl rfl Try.underlying65 zero_entv rfl (by intro u hu; simp [Value.cells] at hu; rcases hu with rfl | rfl | rfl <;> rfl) (by decide) hO rfl ?_ ?_; (rw [List.size_toArray, HNL.out]; have := HE.out; omega); clear hO; intro zl w7 hzl hO hS7; simp only [List.set_cons_zero] at hO; replace hzl := Lib.hid hzl))
  go_ret
  refine ⟨.slice (some ⟨g, 0, none⟩) k cap, rfl, ?_, hS5.trans (hS6.trans hS7)⟩
  have h := HE.out
  refine owns_of_pts hO ?_ (by omega) HM.out ?_
  · have := hzl.out
    rw [List.size_toArray]
    simp only [List.length_append, List.length_take, List.length_drop, HNL.out, this]
    omega
  · show ((new.take (k * 5) ++ zl ++ new.drop (k * 5 + (0 + 1) * 5))).take (k * 5) = _
    have l2 : (new.take (k * 5)).length = k * 5 := by rw [List.length_take, HNL.out]; omega
    rw [List.append_assoc, List.take_append_of_le_length (by rw [l2]; exact Nat.le_refl _), List.take_of_length_le (by rw [l2]; exact Nat.le_refl _), HTK.out]
section
variable (w : World) (L : List HP)
theorem clip_e (A : Option Addr) (n c : Nat) (hO : Own w L) {l : List Value} (h : Rd w 5 (.slice A n c) n l) (hA : A = none → c = 0) : Calls Try.prog 41 #[.slice A n c] w (Ret w (.slice A n n) L) := by
  have hm := h.max
  clear h
  cases A with
  | none =>
    have h0 : c = 0 := hA rfl
    have h1 : n = 0 := by omega
    subst h0
    subst h1
    clear hA
    go_enter Try.func41, Try.ntmps41
    go_wp2
    go_ret
    exact ⟨rfl, hO, Same.refl _⟩
  | some ad =>
    clear hA
    go_enter Try.func41, Try.ntmps41
    go_wp2
    go_ret
    exact ⟨rfl, hO, Same.refl _⟩
theorem eqe_nil (w : World) (c : Nat) : (binOp .eql 65 (.slice none 0 c) (.slice none 0 0)).run Try.prog w = .ok (.bool true) w := by
  simp [binOp, run_equal_slice_nil _ _ _ _ _ _ Try.underlying65]
theorem eqe_some (w : World) (ad : Addr) (n c : Nat) : (binOp .eql 65 (.slice (some ad) n c) (.slice none 0 0)).run Try.prog w = .ok (.bool false) w := by
  simp [binOp, run_equal_slice_nil _ _ _ _ _ _ Try.underlying65]
/-- Clone: a new slice with the same. -/
theorem clone_e (A : Option Addr) (n c : Nat) (xs : List Value) (hO : Own w L) (hr : ∀ w', Own w' L → Rd w' 5 (.slice A n c) n xs) (h1 : ∀ u ∈ xs, u.oneCell' = true) (hn : n ≤ 1000000) :
    Calls Try.prog 58 #[.slice A n c] w (RetX w (fun v : Value => v) (fun v => owns 79 5 v n xs :: L)) := by
  have HR := Lib.hid hr
  have H1 := Lib.hid h1
  have HN := Lib.hid hn
  have hS := Same.refl w
  cases A with
  | none =>
    have h0 := (hr w hO).out
    have hxs : xs = [] := by
      obtain ⟨_, A', c', e, _, _, hc⟩ := h0
      cases e
      cases xs with
      | nil => rfl
      | cons u r => obtain ⟨ad', h2, _⟩ := hc 0 u (by simp); cases h2
    have hn0 : n = 0 := by
      have := h0.1
      rw [hxs] at this
      simp at this
      omega
    subst hxs hn0
    have he := eqe_nil w c
    clear hr h1 hn h0
    go_enter Try.func58, Try.ntmps58
    go_wp2
    go_ret
    exact ⟨.slice none 0 0, rfl, owns_nil hO, hS⟩
  | some ad =>
    have he := eqe_some w ad n c
    clear hr h1 hn
    go_enter Try.func58, Try.ntmps58
    go_wp2_with (first | (refine own_lit0 rfl rfl Try.underlying65 sz_ent hO ?_; clear hO; intro g0 u hO hSn; replace hS := hS.trans hSn; clear hSn) | (refine own_append (m := n) (news := xs) rfl rfl rfl rfl Try.underlying65 info_ent3 (by simp [Value.cells]) (by decide) hO (HR.out _ (own_drop hO)) H1.out ?_ ?_ ?_; (have := HN.out; simp only [maxLen]; omega); (have := HN.out; omega); clear hO; intro v' u hO hSn hv'; clear hv'; replace hS := hS.trans hSn; clear hSn))
    rw [Nat.zero_add, List.nil_append] at hO
    go_ret
    exact ⟨v', rfl, hO, hS⟩
end
end Go.Proofs.Ytonohjhmnlfakaa.H
