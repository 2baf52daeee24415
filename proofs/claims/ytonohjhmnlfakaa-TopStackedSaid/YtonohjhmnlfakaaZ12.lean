/- Lasting, Read of the program's disk. Pure laws of a disk's maps; append onto a full slice that is read; slices.Clip. Write, Spoil of the program's disk. Write, Spoil of the program's disk. -/
import Derived.Test.YtonohjhmnlfakaaZ11
import Derived.ArgAppend
set_option linter.unusedVariables false
set_option linter.unusedSimpArgs false
set_option maxRecDepth 100000
namespace Go.Proofs.Ytonohjhmnlfakaa.H
open Go.RowKit
/-- A sector as a value. -/
abbrev secV (s : Sec) : Value := .agg (bcs s).toArray
abbrev sec0 : Sec := List.replicate 32 0
theorem secA_size {s : Sec} (h : s.length = 32) : (bcs s).toArray.size = 32 := by simp [bcs_length, h]
theorem info_sec {s : Sec} (h : s.length = 32) : (Try.prog.info? 47).map (·.size) = some (bcs s).toArray.size := by rw [secA_size h]; exact sz_sec
theorem bcs_all (s : Sec) : (bcs s).toArray.toList.all (·.oneCell') = true := by
  rw [List.all_eq_true]
  intro v hv
  exact bcs_one s v (by simpa using hv)
section
variable (w : World) (L : List HP) (d : Nat) (m : List Blk)
/-- What a lasting sector's cells are. -/
theorem last_cell {w : World} {L : List HP} {A : Option Addr} {c : Nat} {m : List Blk} {i : Nat} {b : Blk} (h : Own w (owns 47 32 (.slice A m.length c) m.length (secs (m.map (·.s))) :: L)) (h32 : ∀ b ∈ m, b.s.length = 32) (hi : m[i]? = some b) :
    ∃ ad, A = some ad ∧ ∀ (j : Nat) (u : Value), (bcs b.s)[j]? = some u → w.cell? ((ad.add (i * 32)).add j) = some u := by
  have hr := owns_rd h
  have hm : (m.map (·.s))[i]? = some b.s := by rw [List.getElem?_map, hi]; rfl
  have h32' : ∀ s ∈ m.map (·.s), s.length = 32 := fun s hs => by obtain ⟨b, hb, rfl⟩ := List.mem_map.1 hs; exact h32 b hb
  have hb : (bcs b.s).length = 32 := by rw [bcs_length, h32 b (List.mem_of_getElem? hi)]
  have h0 := secs_at h32' hm (j := 0) (u := (bcs b.s)[0]) (List.getElem?_eq_getElem (by omega))
  obtain ⟨ad, rfl⟩ := hr.addr (by have := (List.getElem?_eq_some_iff.1 h0).1; omega)
  exact ⟨ad, rfl, fun j u hu => hr.cell (secs_at h32' hm hu)⟩
theorem vers_cell {w : World} {A : Option Addr} {c : Nat} {l : List Sec} {i : Nat} {s : Sec} (hr : Rd w 32 (.slice A l.length c) l.length (secs l)) (h32 : ∀ s ∈ l, s.length = 32) (hi : l[i]? = some s) :
    ∃ ad, A = some ad ∧ ∀ (j : Nat) (u : Value), (bcs s)[j]? = some u → w.cell? ((ad.add (i * 32)).add j) = some u := by
  have hb : (bcs s).length = 32 := by rw [bcs_length, h32 s (List.mem_of_getElem? hi)]
  have h0 := secs_at h32 hi (j := 0) (u := (bcs s)[0]) (List.getElem?_eq_getElem (by omega))
  obtain ⟨ad, rfl⟩ := hr.addr (by have := (List.getElem?_eq_some_iff.1 h0).1; omega)
  exact ⟨ad, rfl, fun j u hu => hr.cell (secs_at h32 hi hu)⟩
theorem build0 : Try.prog.info? 47 = Try.prog.info? 47 := rfl
theorem lasting_ok (i : Nat) (b : Blk) (hO : Own w (diskP d m :: L)) (hi : m[i]? = some b) : Calls Try.prog 20 #[.pointer (some ⟨d, 0, none⟩), .int .i64 i] w (Ret w (.tuple #[secV b.s, .int .i64 0]) (diskP d m :: L)) := by
  have HI := Lib.hid hi
  have hS := Same.refl w
  clear hi
  go_enter Try.func20, Try.ntmps20
  go_upto_region 4 with (first | (refine own_alloc (T := 47) rfl rfl zero_sec rfl hO ?_; clear hO; intro g u hO hSn; replace hS := hS.trans hSn; clear hSn) | (go_at_call 61; (with_reducible refine Calls.mono (call_at 1 (fun L' h => may_ok _ L' d m i b h HI.out) rfl hO) ?_); clear hO; rintro e u ⟨rfl, hO, hSn⟩; replace hS := hS.trans hSn; clear hSn; simp only [List.set_cons_zero, List.set_cons_succ] at hO))
  obtain ⟨lv, bv, bb, fv, fb, l, hk, hO⟩ := disk_open.1 (own_perm hO (List.Perm.swap _ _ _))
  have HK := Lib.hid hk
  have h32 : Hid (b.s.length = 32) := hk.s32 b (List.mem_of_getElem? HI.out)
  obtain ⟨A, c, rfl⟩ := (owns_rd (own_at hO (k := 1) rfl)).slice
  obtain ⟨ad, rfl, hc⟩ := last_cell (own_at hO (k := 1) rfl) hk.s32 HI.out
  have HC := Lib.hid hc
  have hl : (i : Int) < m.length := by have := (List.getElem?_eq_some_iff.1 HI.out).1; omega
  clear hk hc
  go_wp2_with (first | (apply own_load1 rfl rfl rfl; (first | exact row_secs | exact row_mv | exact row_mb); (first | exact own_get 0 hO rfl | exact own_get 1 hO rfl | exact own_get 2 hO rfl | exact own_get 3 hO rfl | exact own_get 4 hO rfl | exact own_get 5 hO rfl | exact own_get 6 hO rfl | exact own_get 7 hO rfl); (first | (simp only [List.getElem?_toArray, List.getElem?_cons_succ, List.getElem?_cons_zero]; rfl) | rfl)) | (refine own_loadrow_at (ad := ad.add (i * 32)) (vs := bcs b.s) rfl rfl rfl row_sec sz_sec (by rw [bcs_length]; exact h32.out) HC.out ?_) | (refine own_store_all (k := 5) rfl rfl rfl rfl sz_sec hO rfl (secA_size h32.out) (by rfl) (bcs_all _) ?_; clear hO; intro u hO hSn; replace hS := hS.trans hSn; clear hSn; simp only [List.set_cons_zero, List.set_cons_succ] at hO))
  refine bodyPost_ret (results_cell_tmp rfl rfl (own_get 5 hO rfl) row_sec (info_sec h32.out)) rfl ⟨rfl, ?_, hS⟩
  exact disk_open.2 ⟨_, _, _, _, _, _, HK.out, own_drop (own_at hO (k := 5) rfl)⟩
theorem build_sec (w : World) : (Instr.build 47 #[]).run Try.prog w = .ok (secV sec0) w := by
  first | kernel_rfl | (go_simp; done)
theorem own_build0 {ops : Array Oper} {rest : List Oper} {o : Oper} {a : Act} {Q : Exit → Act → World → Prop} {w : World} (hw : Region.wanted o (yielded ops a.tmps) = true) (ho : o.op = .build 47 #[]) (h : wpList Try.prog ops Q rest (a.put o.dst (secV sec0)) w) : wpList Try.prog ops Q (o :: rest) a w := by
  refine ev hw ?_ h
  simp only [execOp, ho]
  simp [build_sec, Sem.run_bind]
theorem lasting_nil (i : Int) (hO : Own w L) : Calls Try.prog 20 #[.pointer none, .int .i64 i] w (Ret w (.tuple #[secV sec0, .int .i64 1]) L) := by
  have hS := Same.refl w
  go_enter Try.func20, Try.ntmps20
  go_wp2_with (first | (refine own_alloc (T := 47) rfl rfl zero_sec rfl hO ?_; clear hO; intro g u hO hSn; replace hS := hS.trans hSn; clear hSn) | (go_at_call 61; (with_reducible refine Calls.mono (may_nil _ _ i hO) ?_); clear hO; rintro e u ⟨rfl, hO, hSn⟩; replace hS := hS.trans hSn; clear hSn) | (refine own_build0 rfl rfl ?_) | (refine own_store_all (k := 0) rfl rfl rfl rfl sz_sec hO rfl (secA_size (by simp)) (by rfl) (bcs_all _) ?_; clear hO; intro u hO hSn; replace hS := hS.trans hSn; clear hSn; simp only [List.set_cons_zero, List.set_cons_succ] at hO))
  refine bodyPost_ret (results_cell_tmp rfl rfl (own_get 0 hO rfl) row_sec (info_sec (by simp))) rfl ⟨rfl, own_drop hO, hS⟩
theorem lasting_no (i : Int) (hO : Own w (diskP d m :: L)) (hi : i < 0 ∨ (m.length : Int) ≤ i) : Calls Try.prog 20 #[.pointer (some ⟨d, 0, none⟩), .int .i64 i] w (Ret w (.tuple #[secV sec0, .int .i64 2]) (diskP d m :: L)) := by
  have HI := Lib.hid hi
  have hS := Same.refl w
  clear hi
  go_enter Try.func20, Try.ntmps20
  go_wp2_with (first | (refine own_alloc (T := 47) rfl rfl zero_sec rfl hO ?_; clear hO; intro g u hO hSn; replace hS := hS.trans hSn; clear hSn) | (go_at_call 61; (with_reducible refine Calls.mono (call_at 1 (fun L' h => may_no _ L' d m i h HI.out) rfl hO) ?_); clear hO; rintro e u ⟨rfl, hO, hSn⟩; replace hS := hS.trans hSn; clear hSn; simp only [List.set_cons_zero, List.set_cons_succ] at hO) | (refine own_build0 rfl rfl ?_) | (refine own_store_all (k := 0) rfl rfl rfl rfl sz_sec hO rfl (secA_size (by simp)) (by rfl) (bcs_all _) ?_; clear hO; intro u hO hSn; replace hS := hS.trans hSn; clear hSn; simp only [List.set_cons_zero, List.set_cons_succ] at hO))
  refine bodyPost_ret (results_cell_tmp rfl rfl (own_get 0 hO rfl) row_sec (info_sec (by simp))) rfl ⟨rfl, own_drop hO, hS⟩
/-- A block as it was written last. -/
def Blk.now (b : Blk) : Sec := (b.vs.getLast?).getD b.s
end
end Go.Proofs.Ytonohjhmnlfakaa.H
set_option linter.unusedVariables false
set_option linter.unusedSimpArgs false
set_option maxRecDepth 100000
namespace Go.Proofs.Ytonohjhmnlfakaa.H
open Go.RowKit
theorem mset_nil (k : Int) (v : Value) : mset [] k v = [(k, v)] := rfl
theorem mset_cons (q : Int × Value) (f : List (Int × Value)) (k : Int) (v : Value) : mset (q :: f) k v = if q.1 = k then (k, v) :: f else q :: mset f k v := by
  unfold mset
  rw [List.findIdx?_cons]
  by_cases h : q.1 = k
  · simp [h]
  · simp only [h, decide_false, if_false, Bool.false_eq_true]
    cases f.findIdx? (fun q => decide (q.1 = k)) <;> simp
theorem mget_nil (k : Int) : mget [] k = none := rfl
theorem mget_cons (q : Int × Value) (f : List (Int × Value)) (k : Int) : mget (q :: f) k = if q.1 = k then some q.2 else mget f k := by
  unfold mget
  rw [List.find?_cons]
  by_cases h : q.1 = k <;> simp [h]
theorem mget_mset {f : List (Int × Value)} {k : Int} {v : Value} (k' : Int) : mget (mset f k v) k' = if k' = k then some v else mget f k' := by
  induction f with
  | nil =>
    rw [mset_nil, mget_cons, mget_nil]
    by_cases h : k' = k
    · simp [h]
    · have h1 : ¬ k = k' := fun e => h e.symm
      simp [h, h1]
  | cons q f ih =>
    rw [mset_cons]
    by_cases hq : q.1 = k
    · rw [if_pos hq, mget_cons, mget_cons]
      by_cases h : k' = k
      · simp [h]
      · have h1 : ¬ k = k' := fun e => h e.symm
        have h2 : ¬ q.1 = k' := fun e => h (by rw [← e, hq])
        simp [h, h1, h2]
    · rw [if_neg hq, mget_cons, ih, mget_cons]
      by_cases h : k' = k
      · subst h; simp [hq]
      · simp [h]
theorem mem_mset {f : List (Int × Value)} {k : Int} {v : Value} {q : Int × Value} (h : q ∈ mset f k v) : q = (k, v) ∨ q ∈ f := by
  induction f with
  | nil => rw [mset_nil] at h; simpa using h
  | cons x f ih =>
    rw [mset_cons] at h
    split at h
    · rcases List.mem_cons.1 h with h | h
      · exact .inl h
      · exact .inr (List.mem_cons_of_mem _ h)
    · rcases List.mem_cons.1 h with h | h
      · exact .inr (h ▸ List.mem_cons_self ..)
      · rcases ih h with h | h
        · exact .inl h
        · exact .inr (List.mem_cons_of_mem _ h)
theorem mget_mdel {f : List (Int × Value)} {k : Int} (k' : Int) : mget (mdel f k) k' = if k' = k then none else mget f k' := by
  induction f with
  | nil => simp [mdel, mget_nil]
  | cons q f ih =>
    have e : mdel (q :: f) k = if q.1 = k then mdel f k else q :: mdel f k := by unfold mdel; rw [List.filter_cons]; by_cases h : q.1 = k <;> simp [h]
    rw [e]
    by_cases hq : q.1 = k
    · rw [if_pos hq, ih, mget_cons]
      by_cases h : k' = k
      · simp [h]
      · have h2 : ¬ q.1 = k' := fun e => h (by rw [← e, hq])
        simp [h, h2]
    · rw [if_neg hq, mget_cons, ih, mget_cons]
      by_cases h : k' = k
      · subst h; simp [hq]
      · simp [h]
theorem mem_mdel {f : List (Int × Value)} {k : Int} {q : Int × Value} (h : q ∈ mdel f k) : q ∈ f ∧ q.1 ≠ k := by
  unfold mdel at h
  rw [List.mem_filter] at h
  exact ⟨h.1, by simpa using h.2⟩
/-- A block with one version more. -/
abbrev Blk.wr (b : Blk) (s : Sec) : Blk := ⟨b.s, b.vs ++ [s], b.bad⟩
theorem map_set_s {m : List Blk} {i : Nat} {b b' : Blk} (hi : m[i]? = some b) (h : b'.s = b.s) : (m.set i b').map (·.s) = m.map (·.s) := by
  refine List.ext_getElem? (fun t => ?_)
  rw [List.getElem?_map, List.getElem?_map, List.getElem?_set]
  split
  · rename_i e
    subst e
    rw [if_pos (List.getElem?_eq_some_iff.1 hi).1, hi]
    simp [h]
  · rfl
theorem set_at {m : List Blk} {i j : Nat} {b' x : Blk} (h : (m.set i b')[j]? = some x) : (j = i ∧ x = b') ∨ (j ≠ i ∧ m[j]? = some x) := by
  rw [List.getElem?_set] at h
  split at h
  · rename_i e
    split at h
    · cases h; exact .inl ⟨e.symm, rfl⟩
    · cases h
  · rename_i e
    exact .inr ⟨fun e' => e e'.symm, h⟩
theorem DiskOk.write {m : List Blk} {fv fb : List (Int × Value)} {l : List (Value × List Sec)} (hk : DiskOk m fv fb l) {i : Nat} {b : Blk} (hi : m[i]? = some b) {s : Sec} (hs : s.length = 32) {A : Option Addr} {c : Nat} :
    DiskOk (m.set i (b.wr s)) (mset fv i (.slice A (b.vs.length + 1) c)) fb ((.slice A (b.vs.length + 1) c, b.vs ++ [s]) :: l) where
  len := by rw [List.length_set]; exact hk.len
  s32 := fun x hx => by
    rcases List.mem_or_eq_of_mem_set hx with hx | rfl
    · exact hk.s32 x hx
    · exact hk.s32 b (List.mem_of_getElem? hi)
  v32 := fun x hx y hy => by
    rcases List.mem_or_eq_of_mem_set hx with hx | rfl
    · exact hk.v32 x hx y hy
    · rcases List.mem_append.1 hy with hy | hy
      · exact hk.v32 b (List.mem_of_getElem? hi) y hy
      · rw [List.mem_singleton.1 hy]; exact hs
  keyv := fun q hq => by
    have hl := (List.getElem?_eq_some_iff.1 hi).1
    rcases mem_mset hq with rfl | hq
    · exact ⟨i, b.wr s, by rw [List.getElem?_set, if_pos rfl, if_pos hl], rfl, by simp⟩
    · obtain ⟨j, x, h1, h2, h3⟩ := hk.keyv q hq
      by_cases e : j = i
      · subst e; exact ⟨j, b.wr s, by rw [List.getElem?_set, if_pos rfl, if_pos hl], h2, by simp⟩
      · exact ⟨j, x, by rw [List.getElem?_set, if_neg (fun h => e h.symm)]; exact h1, h2, h3⟩
  vers := fun j x hx => by
    rcases set_at hx with ⟨rfl, rfl⟩ | ⟨hne, hx⟩
    · exact ⟨A, c, by rw [mget_mset, if_pos rfl]; simp, by simp⟩
    · obtain ⟨A', c', h1, h2⟩ := hk.vers j x hx
      exact ⟨A', c', by rw [mget_mset, if_neg (by omega)]; exact h1, List.mem_cons_of_mem _ h2⟩
  keyb := fun q hq => by rw [List.length_set]; exact hk.keyb q hq
  bads := fun j x hx => by
    rcases set_at hx with ⟨rfl, rfl⟩ | ⟨hne, hx⟩
    · exact hk.bads j b hi
    · exact hk.bads j x hx
theorem DiskOk.spoil {m : List Blk} {fv fb : List (Int × Value)} {l : List (Value × List Sec)} (hk : DiskOk m fv fb l) {i : Nat} {b : Blk} (hi : m[i]? = some b) (bad : Bool) :
    DiskOk (m.set i ⟨b.s, b.vs, bad⟩) fv (mset fb i (.bool bad)) l where
  len := by rw [List.length_set]; exact hk.len
  s32 := fun x hx => by
    rcases List.mem_or_eq_of_mem_set hx with hx | rfl
    · exact hk.s32 x hx
    · exact hk.s32 b (List.mem_of_getElem? hi)
  v32 := fun x hx y hy => by
    rcases List.mem_or_eq_of_mem_set hx with hx | rfl
    · exact hk.v32 x hx y hy
    · exact hk.v32 b (List.mem_of_getElem? hi) y hy
  keyv := fun q hq => by
    have hl := (List.getElem?_eq_some_iff.1 hi).1
    obtain ⟨j, x, h1, h2, h3⟩ := hk.keyv q hq
    by_cases e : j = i
    · subst e
      rw [hi] at h1
      cases h1
      exact ⟨j, ⟨b.s, b.vs, bad⟩, by rw [List.getElem?_set, if_pos rfl, if_pos hl], h2, h3⟩
    · exact ⟨j, x, by rw [List.getElem?_set, if_neg (fun h => e h.symm)]; exact h1, h2, h3⟩
  vers := fun j x hx => by
    rcases set_at hx with ⟨rfl, rfl⟩ | ⟨hne, hx⟩
    · exact hk.vers j b hi
    · exact hk.vers j x hx
  keyb := fun q hq => by
    rw [List.length_set]
    rcases mem_mset hq with rfl | hq
    · exact ⟨i, (List.getElem?_eq_some_iff.1 hi).1, rfl⟩
    · exact hk.keyb q hq
  bads := fun j x hx => by
    rcases set_at hx with ⟨rfl, rfl⟩ | ⟨hne, hx⟩
    · rw [mget_mset, if_pos rfl]; rfl
    · rw [mget_mset, if_neg (by omega)]; exact hk.bads j x hx
theorem DiskOk.none {m : List Blk} {fv fb : List (Int × Value)} {l : List (Value × List Sec)} (hk : DiskOk m fv fb l) {i : Nat} {b : Blk} (hi : m[i]? = some b) (h : b.vs = []) : mget fv i = none := by
  refine mget_none (fun q hq e => ?_)
  obtain ⟨j, x, h1, h2, h3⟩ := hk.keyv q hq
  have : j = i := by omega
  subst this
  rw [hi] at h1
  cases h1
  exact h3 h
section
variable {P : Program} {ops : Array Oper} {rest : List Oper} {o : Oper} {a : Act} {Q : Exit → Act → World → Prop} {w : World} {L : List HP}
/-- append onto a full slice that is read: always a new one. -/
theorem run_append_full {T e ty : TypeId} {z : Value} {size bytes n m : Nat} {A : Option Addr} {vx : Value} {xs news : List Value} (ht : P.underlying T = some (.slice e)) (hinfo : (P.info? e).map (fun i => (i.zero, i.size, i.bytes)) = some (some z, size, bytes)) (hz : z.cells.size = size) (hsz : 0 < size)
    (hO : Own w L) (hold : Rd w size (.slice A n n) n xs) (hr : Rd w size vx m news) (hm : 0 < m) (h1 : ∀ u ∈ news, u.oneCell' = true) (h63 : n + m ≤ maxLen) (hb : (n + m) * bytes ≤ 140737488355328) :
    ∃ v' w', (Builtin.append_ #[T, T] ty #[.slice A n n, vx]).run P w = .ok v' w' ∧ Own w' (owns e size v' (n + m) (xs ++ news) :: L) ∧ Same w w' := by
  obtain ⟨i, hi, hzz⟩ := Option.map_eq_some_iff.1 hinfo
  simp only [Prod.mk.injEq] at hzz
  obtain ⟨hz', hsz', hby⟩ := hzz
  obtain ⟨hl, A2, c, rfl, hc, hcm, hcell⟩ := hr.out
  have hpos : 0 < news.length := by rw [hl]; exact Nat.mul_pos hm hsz
  obtain ⟨ad, rfl⟩ := hr.addr hpos
  have hcl : ∀ (j : Nat) (u : Value), news[j]? = some u → w.cell? (ad.add j) = some u := fun j u hu => by
    obtain ⟨ad', h1, h2⟩ := hcell j u hu
    cases h1
    exact h2
  obtain ⟨hol, A3, c3, e3, _, _, hocell⟩ := hold.out
  cases e3
  have key : ∃ v' w', (Builtin.append_ #[T, T] ty #[.slice A n n, .slice (some ad) m c]).run P w = .ok v' w' ∧ w'.ownsRow w.heap.size e size v' (n + m) (xs ++ news) ∧ w.grownBy w' none := by
    cases A with
    | some b => exact run_append_arg_grows (P := P) w T ty e i z size bytes ht hi hz' hsz' hby hz hsz b n n xs hol (fun j u hj => by obtain ⟨ad', h1, h2⟩ := hocell j u hj; cases h1; exact h2) ad m c news hl hcl (by omega) h63 hb
    | none =>
      have hx : xs = [] := by
        cases xs with
        | nil => rfl
        | cons u r => obtain ⟨ad', h1, _⟩ := hocell 0 u (by simp); cases h1
      subst hx
      have hn0 : n = 0 := by
        have h0 : n * size = 0 := by simpa using hol.symm
        rcases Nat.mul_eq_zero.1 h0 with h | h
        · exact h
        · omega
      subst hn0
      obtain ⟨v', w', hrun, r1, r2, _⟩ := run_append_own (P := P) w w.heap.size T ty e i z size bytes ht hi hz' hsz' hby hz hsz (.slice none 0 0) 0 [] (World.ownsRow_nil w _ e size) ad m c news hl hcl h1 h63 hb (Nat.le_refl _)
      exact ⟨v', w', hrun, r1, r2⟩
  obtain ⟨v', w', hrun, hrow, hg⟩ := key
  have hb : Below w.heap.size w w' := ⟨hg.os, hg.tape, hg.output, hg.size, fun k hk => hg.block k hk (by simp)⟩
  exact ⟨v', w', hrun, owns_new hO hrow hb, same_below hb⟩
end
section
variable (w : World) (L : List HP)
theorem clip_c (A : Option Addr) (n c : Nat) (hO : Own w L) {l : List Value} (h : Rd w 32 (.slice A n c) n l) (hA : A = none → c = 0) : Calls Try.prog 84 #[.slice A n c] w (Ret w (.slice A n n) L) := by
  have hm := h.max
  clear h
  cases A with
  | none =>
    have h0 : c = 0 := hA rfl
    have h1 : n = 0 := by omega
    subst h0
    subst h1
    clear hA
    go_enter Try.func84, Try.ntmps84
    go_wp2
    go_ret
    exact ⟨rfl, hO, Same.refl _⟩
  | some ad =>
    clear hA
    go_enter Try.func84, Try.ntmps84
    go_wp2
    go_ret
    exact ⟨rfl, hO, Same.refl _⟩
end
end Go.Proofs.Ytonohjhmnlfakaa.H
set_option linter.unusedVariables false
set_option linter.unusedSimpArgs false
set_option maxRecDepth 100000
namespace Go.Proofs.Ytonohjhmnlfakaa.H
open Go.RowKit
theorem fill_all : ∀ (l pre cs : List Value), cs.length = l.length → (l.zipIdx pre.length).foldl (fun (a : Array Value) (x : Value × Nat) => a.setIfInBounds (0 + x.2) x.1) (pre ++ cs).toArray = (pre ++ l).toArray
  | [], pre, cs, h => by
    have : cs = [] := List.eq_nil_of_length_eq_zero h
    subst this
    rfl
  | v :: l, pre, [], h => by simp at h
  | v :: l, pre, c :: cs, h => by
    have ih := fill_all l (pre ++ [v]) cs (by simpa using h)
    rw [List.length_append, List.length_singleton] at ih
    rw [List.zipIdx_cons, List.foldl_cons]
    simp only [Nat.zero_add] at ih ⊢
    have e : (pre ++ c :: cs).toArray.setIfInBounds pre.length v = ((pre ++ [v]) ++ cs).toArray := by simp
    rw [e, ih]
    simp
theorem fill_one {n : Nat} {l cs : List Value} (hl : l.length = n) (hc : cs.length = n) : Instr.fill (fun i => some (i * n, n)) cs.toArray [(0, .agg l.toArray)] = some l.toArray := by
  have h := fill_all l [] cs (by omega)
  simp only [List.length_nil, List.nil_append] at h
  subst hl
  simp only [Instr.fill, Value.cells, Nat.zero_mul, Nat.zero_add, List.size_toArray, ne_eq, not_true, decide_false, Bool.false_or, hc, gt_iff_lt, Nat.lt_irrefl, decide_true, Bool.false_eq_true, if_false]
  simp only [Nat.zero_add] at h
  have e : (l.toArray.zipIdx).foldl (fun (a : Array Value) (x : Value × Nat) => a.setIfInBounds x.2 x.1) cs.toArray = l.toArray := by
    rw [← Array.foldl_toList, Array.toList_zipIdx]
    exact h
  exact congrArg some e
theorem run_bs1 {s : Sec} (h : s.length = 32) (w : World) : (Instr.buildSlice 69 1 #[(0, secV s)]).run Try.prog w = .ok (.slice (some ⟨w.heap.size, 0, none⟩) 1 1) (w.alloc (.cells (bcs s).toArray 47)) := by
  obtain ⟨i, hi, hz⟩ := Option.map_eq_some_iff.1 zero_sec
  have hsz : i.size = 32 := by have := sz_sec; rw [hi] at this; simpa using this
  have hc : (bcs s).length = 32 := by rw [bcs_length, h]
  have hk : ∀ cs : List Value, cs.length = 32 → Instr.fill (fun i => some (i * 32, 32)) cs.toArray [(0, secV s)] = some (bcs s).toArray := fun cs hcs => fill_one hc hcs
  simp [Instr.buildSlice, run_underlying Try.underlying69, sizeOf, typeInfo, zeroValue, hi, hz, hsz, Value.cells, hk, newRow]
end Go.Proofs.Ytonohjhmnlfakaa.H
set_option linter.unusedVariables false
set_option linter.unusedSimpArgs false
set_option maxRecDepth 100000
namespace Go.Proofs.Ytonohjhmnlfakaa.H
open Go.RowKit
section
variable (w : World) (L : List HP) (d : Nat) (m : List Blk)
theorem write_nil (i : Int) (s : Sec) (hO : Own w L) : Calls Try.prog 56 #[.pointer none, .int .i64 i, secV s] w (Ret w (.int .i64 1) L) := by
  have hS := Same.refl w
  go_enter Try.func56, Try.ntmps56
  go_wp2_with (first | (refine own_box_agg (x := .tmp 2) rfl rfl rfl hO ?_; clear hO; intro bx u hO hSn; replace hS := hS.trans hSn; clear hSn) | (go_at_call 61; (with_reducible refine Calls.mono (may_nil _ _ i hO) ?_); clear hO; rintro e u ⟨rfl, hO, hSn⟩; replace hS := hS.trans hSn; clear hSn))
  go_ret
  exact ⟨rfl, own_drop hO, hS⟩
theorem write_no (i : Int) (s : Sec) (hO : Own w (diskP d m :: L)) (hi : i < 0 ∨ (m.length : Int) ≤ i) : Calls Try.prog 56 #[.pointer (some ⟨d, 0, none⟩), .int .i64 i, secV s] w (Ret w (.int .i64 2) (diskP d m :: L)) := by
  have HI := Lib.hid hi
  have hS := Same.refl w
  clear hi
  go_enter Try.func56, Try.ntmps56
  go_wp2_with (first | (refine own_box_agg (x := .tmp 2) rfl rfl rfl hO ?_; clear hO; intro bx u hO hSn; replace hS := hS.trans hSn; clear hSn) | (go_at_call 61; (with_reducible refine Calls.mono (call_at 1 (fun L' h => may_no _ L' d m i h HI.out) rfl hO) ?_); clear hO; rintro e u ⟨rfl, hO, hSn⟩; replace hS := hS.trans hSn; clear hSn; simp only [List.set_cons_zero, List.set_cons_succ] at hO))
  go_ret
  exact ⟨rfl, own_drop hO, hS⟩
theorem write_bad (i : Nat) (b : Blk) (s : Sec) (hO : Own w (diskP d m :: L)) (hi : m[i]? = some b) (hb : b.bad = true) : Calls Try.prog 56 #[.pointer (some ⟨d, 0, none⟩), .int .i64 i, secV s] w (Ret w (.int .i64 10) (diskP d m :: L)) := by
  have HI := Lib.hid hi
  have HB := Lib.hid hb
  have hS := Same.refl w
  clear hi hb
  go_enter Try.func56, Try.ntmps56
  go_upto_region 4 with (first | (refine own_box_agg (x := .tmp 2) rfl rfl rfl hO ?_; clear hO; intro bx u hO hSn; replace hS := hS.trans hSn; clear hSn) | (go_at_call 61; (with_reducible refine Calls.mono (call_at 1 (fun L' h => may_ok _ L' d m i b h HI.out) rfl hO) ?_); clear hO; rintro e u ⟨rfl, hO, hSn⟩; replace hS := hS.trans hSn; clear hSn; simp only [List.set_cons_zero, List.set_cons_succ] at hO))
  obtain ⟨lv, bv, bb, fv, fb, l, hk, hO⟩ := disk_open.1 (own_perm hO (List.Perm.swap _ _ _))
  have HK := Lib.hid hk
  have hbad := hk.bads i b HI.out
  rw [HB.out] at hbad
  have HBAD := Lib.hid hbad
  clear hk hbad
  go_wp2_with (first | (apply own_load1 rfl rfl rfl; (first | exact row_secs | exact row_mv | exact row_mb); (first | exact own_get 0 hO rfl | exact own_get 1 hO rfl | exact own_get 2 hO rfl | exact own_get 3 hO rfl | exact own_get 4 hO rfl | exact own_get 5 hO rfl | exact own_get 6 hO rfl | exact own_get 7 hO rfl); (first | (simp only [List.getElem?_toArray, List.getElem?_cons_succ, List.getElem?_cons_zero]; rfl) | rfl)) | (refine own_mlookup (i := 3) (b := bb) (k := (i : Int)) (f := fb) rfl rfl rfl rfl und_mb und_i zero_b hO rfl HBAD.out ?_))
  go_ret
  exact ⟨rfl, disk_open.2 ⟨_, _, _, _, _, _, HK.out, own_drop (own_at hO (k := 5) rfl)⟩, hS⟩
theorem full_rd {w : World} {A : Option Addr} {n c : Nat} {xs : List Value} (h : Rd w 32 (.slice A n c) n xs) : Rd w 32 (.slice A n n) n xs := by
  obtain ⟨h1, A', c', e, h2, h3, h4⟩ := h.out
  cases e
  exact ⟨h1, A, n, rfl, Nat.le_refl _, by omega, h4⟩
theorem own_bs1 {ops : Array Oper} {rest : List Oper} {o : Oper} {a : Act} {Q : Exit → Act → World → Prop} {w : World} {x : Operand} {s : Sec} (hw : Region.wanted o (yielded ops a.tmps) = true) (ho : o.op = .buildSlice 69 1 #[(0, x)]) (hx : a.eval x = secV s) (hs : s.length = 32) (h : wpList Try.prog ops Q rest (a.put o.dst (.slice (some ⟨w.heap.size, 0, none⟩) 1 1)) (w.alloc (.cells (bcs s).toArray 47))) : wpList Try.prog ops Q (o :: rest) a w := by
  refine ev hw ?_ h
  have e : (#[(0, x)] : Array (Nat × Operand)).map (fun (i, x) => (i, a.eval x)) = #[(0, secV s)] := by simp [hx]
  simp only [execOp, ho, e, Sem.run_bind, run_bs1 hs]
  rfl
theorem own_appf {ops : Array Oper} {rest : List Oper} {o : Oper} {a : Act} {Q : Exit → Act → World → Prop} {w : World} {L : List HP} {P : Program} {T e : TypeId} {s x : Operand} {z : Value} {size bytes n m : Nat} {A : Option Addr} {vx : Value} {xs news : List Value} (hw : Region.wanted o (yielded ops a.tmps) = true)
    (ho : o.op = .call { callee := .builtin .append, args := #[s, x], argTypes := #[T, T] }) (hs : a.eval s = .slice A n n) (hx : a.eval x = vx) (ht : P.underlying T = some (.slice e)) (hinfo : (P.info? e).map (fun i => (i.zero, i.size, i.bytes)) = some (some z, size, bytes)) (hz : z.cells.size = size) (hsz : 0 < size)
    (hO : Own w L) (hold : Rd w size (.slice A n n) n xs) (hr : Rd w size vx m news) (hm : 0 < m) (h1 : ∀ u ∈ news, u.oneCell' = true) (h63 : n + m ≤ maxLen) (hb : (n + m) * bytes ≤ 140737488355328)
    (h : ∀ v' w', Own w' (owns e size v' (n + m) (xs ++ news) :: L) → Same w w' → wpList P ops Q rest (a.put o.dst v') w') : wpList P ops Q (o :: rest) a w := by
  obtain ⟨v', w', hrun, hO', hS⟩ := run_append_full (P := P) (ty := o.type) ht hinfo hz hsz hO hold hr hm h1 h63 hb
  refine ev hw ?_ (h v' w' hO' hS)
  simp only [execOp, ho]
  simp [resolve, invoke, builtin, hs, hx, hrun, Result.andThen]
theorem info_sec3 : (Try.prog.info? 47).map (fun i => (i.zero, i.size, i.bytes)) = some (some (.agg (Array.replicate 32 (.int .u8 0))), 32, 32) := by kernel_rfl
/-- What is owned on the way of Write's last step. -/
def wHL (B : List HP) (bv : Nat) (fv : List (Int × Value)) (i : Int) (n : Nat) (xs : List Value) (cs : Array Value) (a b c : Bool) (x : Nat × Value) : List HP :=
  if c then owns 47 32 x.2 n xs :: mapP bv (mset fv i x.2) :: B
  else if b then owns 47 32 x.2 n xs :: mapP bv fv :: B
  else if a then pts x.1 (.cells cs 47) :: mapP bv fv :: B
  else mapP bv fv :: B
theorem wHL_base {w : World} {B : List HP} {bv : Nat} {fv : List (Int × Value)} {i : Int} {n : Nat} {xs : List Value} {cs : Array Value} {a b c : Bool} {x : Nat × Value} (h : Own w (wHL B bv fv i n xs cs a b c x)) : Own w B := by
  unfold wHL at h
  split at h
  · exact own_drop (own_drop h)
  · split at h
    · exact own_drop (own_drop h)
    · split at h
      · exact own_drop (own_drop h)
      · exact own_drop h
theorem wHL_map {w : World} {B : List HP} {bv : Nat} {fv : List (Int × Value)} {i : Int} {n : Nat} {xs : List Value} {cs : Array Value} {a b c : Bool} {x : Nat × Value} (hc : c = false) (h : Own w (wHL B bv fv i n xs cs a b c x)) : ∃ L, Own w (mapP bv fv :: L) := by
  subst hc
  unfold wHL at h
  rw [if_neg (by simp)] at h
  split at h
  · exact ⟨_, own_perm h (List.Perm.swap _ _ _)⟩
  · split at h
    · exact ⟨_, own_perm h (List.Perm.swap _ _ _)⟩
    · exact ⟨_, h⟩
set_option maxHeartbeats 1600000 in
theorem write_ok (i : Nat) (b : Blk) (s : Sec) (hO : Own w (diskP d m :: L)) (hi : m[i]? = some b) (hb : b.bad = false) (hs : s.length = 32) (hlim : b.vs.length ≤ 1000000) : Calls Try.prog 56 #[.pointer (some ⟨d, 0, none⟩), .int .i64 i, secV s] w (Ret w (.int .i64 0) (diskP d (m.set i (b.wr s)) :: L)) := by
  have HI := Lib.hid hi
  have HB := Lib.hid hb
  have H32 := Lib.hid hs
  have HLIM := Lib.hid hlim
  have hS := Same.refl w
  clear hi hb hs hlim
  go_enter Try.func56, Try.ntmps56
  go_upto_region 4 with (first | (refine own_box_agg (x := .tmp 2) rfl rfl rfl hO ?_; clear hO; intro bx u hO hSn; replace hS := hS.trans hSn; clear hSn) | (go_at_call 61; (with_reducible refine Calls.mono (call_at 1 (fun L' h => may_ok _ L' d m i b h HI.out) rfl hO) ?_); clear hO; rintro e u ⟨rfl, hO, hSn⟩; replace hS := hS.trans hSn; clear hSn; simp only [List.set_cons_zero, List.set_cons_succ] at hO))
  obtain ⟨lv, bv, bb, fv, fb, l, hk, hO⟩ := disk_open.1 (own_perm hO (List.Perm.swap _ _ _))
  have HK := Lib.hid hk
  have hbad := hk.bads i b HI.out
  rw [HB.out] at hbad
  have HBAD := Lib.hid hbad
  obtain ⟨A, c, hv, hmem⟩ := hk.vers i b HI.out
  have HV := Lib.hid hv
  have HMEM := Lib.hid hmem
  have hA0 : A = none → c = 0 := fun hA => by
    subst hA
    have hr := rdV_rd (own_at hO (k := 4) rfl) hmem
    cases hn : b.vs with
    | nil =>
      rw [hk.none HI.out hn] at hv
      simp only [Option.getD_none] at hv
      injection hv with _ _ h3
      exact h3.symm
    | cons s0 r =>
      have hpos : 0 < (secs b.vs).length := by
        have e1 := hr.out.1
        rw [e1, hn, List.length_cons]
        omega
      obtain ⟨ad, h⟩ := hr.addr hpos
      cases h
  have HA := Lib.hid hA0
  clear hA0
  clear hk hbad hv hmem
  go_upto_region 6 with (first | (apply own_load1 rfl rfl rfl; (first | exact row_secs | exact row_mv | exact row_mb); (first | exact own_get 0 hO rfl | exact own_get 1 hO rfl | exact own_get 2 hO rfl | exact own_get 3 hO rfl | exact own_get 4 hO rfl | exact own_get 5 hO rfl | exact own_get 6 hO rfl | exact own_get 7 hO rfl); (first | (simp only [List.getElem?_toArray, List.getElem?_cons_succ, List.getElem?_cons_zero]; rfl) | rfl)) | (refine own_mlookup (i := 3) (b := bb) (k := (i : Int)) (f := fb) rfl rfl rfl rfl und_mb und_i zero_b hO rfl HBAD.out ?_))
  have hO : Own u (mapP bv fv :: pts d (.cells #[lv, .map (some bv), .map (some bb)] 101) :: owns 47 32 lv m.length (secs (m.map (·.s))) :: mapP bb fb :: rdV l :: pts bx (.cells (bcs s).toArray 47) :: L) := own_at hO (k := 2) rfl
  refine wp_region_own (α := Nat × Value) (fun x => [.pointer (some ⟨d, 0, none⟩), .pointer (some ⟨d, 0, none⟩), .pointer (some ⟨d, 1, none⟩), .map (some bv), .int .i64 i, .pointer (some ⟨d, 0, none⟩), .pointer (some ⟨d, 0, none⟩), .pointer (some ⟨d, 1, none⟩), .map (some bv), .int .i64 i, .slice A b.vs.length c, .slice A b.vs.length b.vs.length, secV s, .slice (some ⟨x.1, 0, none⟩) 1 1, x.2, undef]) (fun D x => wHL (pts d (.cells #[lv, .map (some bv), .map (some bb)] 101) :: owns 47 32 lv m.length (secs (m.map (·.s))) :: mapP bb fb :: rdV l :: pts bx (.cells (bcs s).toArray 47) :: L) bv fv i (b.vs.length + 1) (secs b.vs ++ bcs s) (bcs s).toArray (D 13) (D 14) (D 15) x) u (0, undef) 35 (fun _ => rfl) mixed (by kernel_rfl) rfl (by exact own_heap hO (fun _ _ h => h)) (Same.drew _) (fun _ _ _ _ hd h => ⟨hd ▸ h.1, h.2⟩) ?_ ?_
  · refine ⟨?_, ?_, ?_, ?_, ?_, ?_, ?_, ?_, ?_, ?_, ?_, ?_, ?_, ?_, ?_, ?_, trivial⟩
    · (refine fs_pure (fun _ _ => rfl) (fun D x hD hcl hp => ?_); simp only [putO]; simp only [Act.put, List.setIfInBounds_toArray, List.set_cons_zero, List.set_cons_succ]; first | exact y_skip rfl | exact y_run rfl (by intro w h; go_simp; first | done | rfl))
    · (refine fs_pure (fun _ _ => rfl) (fun D x hD hcl hp => ?_); simp only [putO]; simp only [Act.put, List.setIfInBounds_toArray, List.set_cons_zero, List.set_cons_succ]; first | exact y_skip rfl | exact y_run rfl (by intro w h; go_simp; first | done | rfl))
    · (refine fs_pure (fun _ _ => rfl) (fun D x hD hcl hp => ?_); simp only [putO]; simp only [Act.put, List.setIfInBounds_toArray, List.set_cons_zero, List.set_cons_succ]; first | exact y_skip rfl | exact y_run rfl (by intro w h; go_simp; first | done | rfl))
    · (refine fs_pure (fun _ _ => rfl) (fun D x hD hcl hp => ?_); simp only [putO]; simp only [Act.put, List.setIfInBounds_toArray, List.set_cons_zero, List.set_cons_succ]; first | exact y_skip rfl | exact (y_load1 (b := d) (off := 1) (cs := #[lv, .map (some bv), .map (some bb)]) (t := 101) (v := .map (some bv)) rfl rfl rfl row_mv (fun w h => own_get 0 (wHL_base h.1) rfl) rfl) | exact y_run rfl (by intro w h; go_simp; first | done | rfl))
    · (refine fs_pure (fun _ _ => rfl) (fun D x hD hcl hp => ?_); simp only [putO]; simp only [Act.put, List.setIfInBounds_toArray, List.set_cons_zero, List.set_cons_succ]; first | exact y_skip rfl | exact y_run rfl (by intro w h; go_simp; first | done | rfl))
    · (refine fs_pure (fun _ _ => rfl) (fun D x hD hcl hp => ?_); simp only [putO]; simp only [Act.put, List.setIfInBounds_toArray, List.set_cons_zero, List.set_cons_succ]; first | exact y_skip rfl | exact y_run rfl (by intro w h; go_simp; first | done | rfl))
    · (refine fs_pure (fun _ _ => rfl) (fun D x hD hcl hp => ?_); simp only [putO]; simp only [Act.put, List.setIfInBounds_toArray, List.set_cons_zero, List.set_cons_succ]; first | exact y_skip rfl | exact y_run rfl (by intro w h; go_simp; first | done | rfl))
    · (refine fs_pure (fun _ _ => rfl) (fun D x hD hcl hp => ?_); simp only [putO]; simp only [Act.put, List.setIfInBounds_toArray, List.set_cons_zero, List.set_cons_succ]; first | exact y_skip rfl | exact y_run rfl (by intro w h; go_simp; first | done | rfl))
    · (refine fs_pure (fun _ _ => rfl) (fun D x hD hcl hp => ?_); simp only [putO]; simp only [Act.put, List.setIfInBounds_toArray, List.set_cons_zero, List.set_cons_succ]; first | exact y_skip rfl | exact (y_load1 (b := d) (off := 1) (cs := #[lv, .map (some bv), .map (some bb)]) (t := 101) (v := .map (some bv)) rfl rfl rfl row_mv (fun w h => own_get 0 (wHL_base h.1) rfl) rfl) | exact y_run rfl (by intro w h; go_simp; first | done | rfl))
    · (refine fs_pure (fun _ _ => rfl) (fun D x hD hcl hp => ?_); simp only [putO]; simp only [Act.put, List.setIfInBounds_toArray, List.set_cons_zero, List.set_cons_succ]; first | exact y_skip rfl | exact y_run rfl (by intro w h; go_simp; first | done | rfl))
    · (refine fs_pure (fun _ _ => rfl) (fun D x hD hcl hp => ?_); simp only [putO]; simp only [Act.put, List.setIfInBounds_toArray, List.set_cons_zero, List.set_cons_succ]; first | exact y_skip rfl | exact (y_mlookup rfl rfl rfl rfl und_mv und_i zero_secs (fun w h => wHL_map (behL_ok hcl hD (by kernel_rfl)) h.1) HV.out) | exact y_run rfl (by intro w h; go_simp; first | done | rfl))
    · (refine fs_pure (fun _ _ => rfl) (fun D x hD hcl hp => ?_); simp only [putO]; simp only [Act.put, List.setIfInBounds_toArray, List.set_cons_zero, List.set_cons_succ]; first | exact y_skip rfl | exact (y_call rfl (by intro w h; go_simp; first | done | exact ⟨rfl, rfl⟩) (by intro w h; apply cls_call h; exact clip_c _ _ _ _ _ h.1 (rdV_rd (own_at (wHL_base h.1) (k := 3) rfl) HMEM.out) HA.out)) | exact y_run rfl (by intro w h; go_simp; first | done | rfl))
    · (refine fs_pure (fun _ _ => rfl) (fun D x hD hcl hp => ?_); simp only [putO]; simp only [Act.put, List.setIfInBounds_toArray, List.set_cons_zero, List.set_cons_succ]; first | exact y_skip rfl | exact (y_loadrow (b := bx) (off := 0) (cs := (bcs s).toArray) (t := 47) (vs := bcs s) rfl rfl rfl row_sec sz_sec (fun w h => own_get 4 (wHL_base h.1) rfl) (by simp [bcs_length, H32.out]) (by rw [List.drop_zero]; exact List.take_of_length_le (by simp [bcs_length, H32.out]))) | exact y_run rfl (by intro w h; go_simp; first | done | rfl))
    · intro D x u5 hD hcl hp hO5 hS5
      simp only [putO]
      simp only [Act.put, List.setIfInBounds_toArray, List.set_cons_zero, List.set_cons_succ]
      have h14 : D 14 = false := behL_ok hcl hD (by kernel_rfl)
      have h15 : D 15 = false := behL_ok hcl hD (by kernel_rfl)
      simp only [hD, h14, h15] at hO5
      refine own_bs1 (s := s) rfl rfl rfl H32.out ?_
      refine wpList_nil ⟨rfl, (u5.heap.size, x.2), (by intro j hj; rcases j with _ | _ | _ | _ | _ | _ | _ | _ | _ | _ | _ | _ | _ | _ | _ | _ | j <;> first | rfl | exact absurd (hj.symm.trans hD) (by simp)), fun d hd _ => by cases hd; rfl, ?_, hS5.trans (Same.alloc _ _)⟩
      show Own _ (wHL _ _ _ _ _ _ _ (upd D 13 13) (upd D 13 14) (upd D 13 15) _)
      simp only [upd, if_true, Nat.reduceEqDiff, if_false, h14, h15]
      exact own_alloc_new hO5 _
    · intro D x u5 hD hcl hp hO5 hS5
      simp only [putO]
      simp only [Act.put, List.setIfInBounds_toArray, List.set_cons_zero, List.set_cons_succ]
      have h13 : D 13 = true := dep_yes hp (by kernel_rfl)
      have h15 : D 15 = false := behL_ok hcl hD (by kernel_rfl)
      have hD' : D 14 = false := hD
      simp only [hD', h13, h15] at hO5
      have hO5 : Own u5 (pts x.1 (.cells (bcs s).toArray 47) :: mapP bv fv :: pts d (.cells #[lv, .map (some bv), .map (some bb)] 101) :: owns 47 32 lv m.length (secs (m.map (·.s))) :: mapP bb fb :: rdV l :: pts bx (.cells (bcs s).toArray 47) :: L) := hO5
      refine own_appf (n := b.vs.length) (m := 1) (xs := secs b.vs) (news := bcs s) rfl rfl rfl rfl Try.underlying69 info_sec3 (by simp [Value.cells]) (by decide) (own_drop hO5) (full_rd (rdV_rd (own_at hO5 (k := 5) rfl) HMEM.out)) (rd_block (own_get 0 hO5 rfl) (List.take_of_length_le (by simp [bcs_length, H32.out])) (by simp [bcs_length, H32.out]) (by decide) (by decide)) (by decide) (bcs_one s) (by have := HLIM.out; simp only [maxLen]; omega) (by have := HLIM.out; omega) ?_
      intro v' w' hO6 hS6
      refine wpList_nil ⟨rfl, (x.1, v'), (by intro j hj; rcases j with _ | _ | _ | _ | _ | _ | _ | _ | _ | _ | _ | _ | _ | _ | _ | _ | j <;> first | rfl | exact absurd (hj.symm.trans hD) (by simp)), fun d hd _ => by cases hd; rfl, ?_, hS5.trans hS6⟩
      show Own _ (wHL _ _ _ _ _ _ _ (upd D 14 13) (upd D 14 14) (upd D 14 15) _)
      simp only [upd, if_true, Nat.reduceEqDiff, if_false, h13, h15]
      exact hO6
    · intro D x u5 hD hcl hp hO5 hS5
      simp only [putO]
      simp only [Act.put, List.setIfInBounds_toArray, List.set_cons_zero, List.set_cons_succ]
      have h13 : D 13 = true := ahead_yes (i := 15) rfl hcl hp (by decide) (by kernel_rfl)
      have h14 : D 14 = true := dep_yes hp (by kernel_rfl)
      have hD' : D 15 = false := hD
      simp only [hD', h13, h14] at hO5
      refine own_mset (i := 1) (b := bv) (f := fv) (k := (i : Int)) (v := x.2) rfl rfl rfl rfl rfl und_mv und_i hO5 rfl ?_
      intro w' hO6 hS6
      refine wpList_nil ⟨rfl, x, fun _ _ => rfl, fun d hd _ => (by cases hd), ?_, hS5.trans hS6⟩
      show Own _ (wHL _ _ _ _ _ _ _ (upd D 15 13) (upd D 15 14) (upd D 15 15) _)
      simp only [upd, if_true, Nat.reduceEqDiff, if_false, h13, h14]
      exact hO6
  · intro x w10 D hD hO hS10
    simp only [hD 13 (by decide), hD 14 (by decide), hD 15 (by decide)] at hO
    simp only [putO]
    simp only [Act.put, List.setIfInBounds_toArray, List.set_cons_zero, List.set_cons_succ]
    simp only [Exit.then]
    clear hD
    go_wp2
    go_ret
    have hO : Own w10 (owns 47 32 x.2 (b.vs.length + 1) (secs b.vs ++ bcs s) :: mapP bv (mset fv i x.2) :: pts d (.cells #[lv, .map (some bv), .map (some bb)] 101) :: owns 47 32 lv m.length (secs (m.map (·.s))) :: mapP bb fb :: rdV l :: pts bx (.cells (bcs s).toArray 47) :: L) := hO
    obtain ⟨A', c', e⟩ := (owns_rd hO).slice
    have hO := own_drop (own_at hO (k := 6) rfl)
    refine ⟨rfl, ?_, hS.trans hS10⟩
    refine disk_open.2 ⟨lv, bv, bb, _, _, _, HK.out.write (A := A') (c := c') HI.out H32.out, ?_⟩
    rw [map_set_s (b' := b.wr s) HI.out rfl, List.length_set, ← e]
    have es : secs b.vs ++ bcs s = secs (b.vs ++ [s]) := by rw [secs_append]; simp [secs]
    rw [es] at hO
    have hO1 := rdA_owns hO
    have hO2 : Own w10 (rdA 32 x.2 (b.vs ++ [s]).length (secs (b.vs ++ [s])) :: rdV l :: mapP bv (mset fv i x.2) :: pts d (.cells #[lv, .map (some bv), .map (some bb)] 101) :: owns 47 32 lv m.length (secs (m.map (·.s))) :: mapP bb fb :: L) := by
      rw [List.length_append, List.length_singleton]
      exact own_perm hO1 (List.Perm.cons _ (perm_at (k := 4) rfl))
    exact own_perm (rdV_cons hO2) (by
      refine List.Perm.trans (List.perm_append_comm (l₁ := [_]) (l₂ := [_, _, _, _])|>.append_right L) ?_
      exact List.Perm.trans (List.Perm.swap _ _ _) (List.Perm.cons _ (List.Perm.swap _ _ _)))
end
end Go.Proofs.Ytonohjhmnlfakaa.H
