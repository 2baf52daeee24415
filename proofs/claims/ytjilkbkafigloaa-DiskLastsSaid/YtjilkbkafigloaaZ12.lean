/- The law's same. Opening a law's argument: deeds on a disk. The law's play; DiskPlays. DiskBad: the walk. DiskVersions: the walk. -/
import Derived.Test.YtjilkbkafigloaaZ11
import Derived.OwnWalk
set_option linter.unusedVariables false
set_option linter.unusedSimpArgs false
set_option maxRecDepth 100000
namespace Go.Proofs.Ytjilkbkafigloaa.H
open Go.RowKit
/-- All sectors have 32 bytes. -/
def S32 (m : List Blk) : Prop := ∀ b ∈ m, b.s.length = 32 ∧ ∀ s ∈ b.vs, s.length = 32
theorem s32_of {w : World} {L : List HP} {d : Nat} {m : List Blk} (hO : Own w (diskP d m :: L)) : S32 m ∧ m.length ≤ 96 := by
  obtain ⟨lv, bv, bb, fv, fb, l, hk, _⟩ := disk_open.1 hO
  exact ⟨fun b hb => ⟨hk.s32 b hb, hk.v32 b hb⟩, hk.len⟩
theorem now_len {b : Blk} (h : b.s.length = 32 ∧ ∀ s ∈ b.vs, s.length = 32) : b.now.length = 32 := by
  unfold Blk.now
  cases hg : b.vs.getLast? with
  | none => exact h.1
  | some s => exact h.2 s (List.mem_of_getLast? hg)
section
variable (m : List Blk)
theorem read_both (hs : S32 m) (i : Int) : ∃ (s : Sec) (e : Int), s.length = 32 ∧ BothD 21 31 m m (fun y => #[y, .int .i64 i]) (.tuple #[secV s, .int .i64 e]) := by
  rcases dcases m i with ⟨k, b, rfl, hk⟩ | h
  · exact ⟨b.now, 0, now_len (hs b (List.mem_of_getElem? hk)), fun w L d hO => read_ok w L d m k b hO hk, fun w L q hO => rread_ok w L q m k b hO hk⟩
  · exact ⟨sec0, 2, by simp, fun w L d hO => read_no w L d m i hO h, fun w L q hO => rread_no w L q m i hO h⟩
theorem lasting_both (hs : S32 m) (i : Int) : ∃ (s : Sec) (e : Int), s.length = 32 ∧ BothD 18 32 m m (fun y => #[y, .int .i64 i]) (.tuple #[secV s, .int .i64 e]) := by
  rcases dcases m i with ⟨k, b, rfl, hk⟩ | h
  · exact ⟨b.s, 0, (hs b (List.mem_of_getElem? hk)).1, fun w L d hO => lasting_ok w L d m k b hO hk, fun w L q hO => rlasting_ok w L q m k b hO hk⟩
  · exact ⟨sec0, 2, by simp, fun w L d hO => lasting_no w L d m i hO h, fun w L q hO => rlasting_no w L q m i hO h⟩
theorem vsAt_yes {m : List Blk} {k : Nat} {b : Blk} (h : m[k]? = some b) : vsAt m k = b.vs.length := by
  unfold vsAt
  rw [if_pos (by omega), Int.toNat_natCast, h]
  rfl
theorem vsAt_no {m : List Blk} {i : Int} (h : i < 0 ∨ (m.length : Int) ≤ i) : vsAt m i = 0 := by
  unfold vsAt
  split
  · rw [List.getElem?_eq_none (by omega)]; rfl
  · rfl
theorem versions_both (i : Int) : BothD 22 33 m m (fun y => #[y, .int .i64 i]) (.int .i64 (vsAt m i)) := by
  refine ⟨fun w L d hO => versions_c w L d m i hO, fun w L q hO => ?_⟩
  rcases dcases m i with ⟨k, b, rfl, hk⟩ | h
  · rw [vsAt_yes hk]; exact rversions_ok w L q m k b hO hk
  · rw [vsAt_no h]; exact rversions_no w L q m i hO h
theorem size_both : BothD 27 30 m m (fun y => #[y]) (.int .i64 m.length) :=
  ⟨fun w L d hO => size_c w L d m hO, fun w L q hO => rsize_c w L q m hO⟩
end
theorem und_arr : Try.prog.underlying 25 = some (.array 32 5) := by kernel_rfl
set_option maxHeartbeats 3200000 in
theorem same_d (w : World) (L : List HP) (d q : Nat) (m : List Blk) (hO : Own w (diskP d m :: rdiskP q m :: L)) :
    Calls Try.prog 15 #[.pointer (some ⟨d, 0, none⟩), .pointer (some ⟨q, 0, none⟩)] w (Ret w (.bool true) (diskP d m :: rdiskP q m :: L)) := by
  obtain ⟨hs32, hlm⟩ := s32_of hO
  have HS32 := Lib.hid hs32
  have HZ := Lib.hid (size_both m)
  have hS := Same.refl w
  clear hs32
  go_enter Try.func15, Try.ntmps15
  go_wp2
  go_loopw [5] (fun i wr => ∃ j : Nat, j ≤ m.length + 2 ∧ i = .int .i64 ((j : Int) - 1) ∧ Own wr (diskP d m :: rdiskP q m :: L) ∧ Same w wr) (fun i _ => m.length + 2 - (intOf i + 1).toNat)
  case atStart => exact ⟨0, by omega, rfl, hO, hS⟩
  case round =>
    clear hO hS
    obtain ⟨j, hj, rfl, hO, hS⟩ := hrel
    by_cases hlt : j < m.length + 2
    · obtain ⟨a, e, ha, hA⟩ := read_both m HS32.out ((j : Int) - 1)
      obtain ⟨l, g, hl, hL⟩ := lasting_both m HS32.out ((j : Int) - 1)
      have HA := Lib.hid hA
      have HL := Lib.hid hL
      have HL1 := Lib.hid ha
      have HL2 := Lib.hid hl
      have HV := Lib.hid (versions_both m ((j : Int) - 1))
      have HLT := Lib.hid hlt
      obtain ⟨i0, hi0⟩ := u8_info
      have HE1 : Hid (∀ w', (Op.equalIn 10000 25 (secV a) (secV a)).run Try.prog w' = .ok true w') := Lib.hid fun w' => by
        have h := eq_sec w' (n := 0) und_arr hi0 9998 ha ha
        simpa using h
      have HE2 : Hid (∀ w', (Op.equalIn 10000 25 (secV l) (secV l)).run Try.prog w' = .ok true w') := Lib.hid fun w' => by
        have h := eq_sec w' (n := 0) und_arr hi0 9998 hl hl
        simpa using h
      have hle : (j : Int) - 1 ≤ m.length := by omega
      clear hA hL ha hl hi0
      go_upto_region 5 with (first | (go_at_call 30; (with_reducible refine Calls.mono (call_at 1 (fun L' h => HZ.out.2 _ L' q h) rfl hO) ?_); clear hO; rintro e u ⟨rfl, hO, hSn⟩; replace hS := hS.trans hSn; clear hSn; simp only [List.set_cons_zero, List.set_cons_succ] at hO) | (go_at_call 21; (with_reducible refine Calls.mono (call_at 0 (fun L' h => HA.out.1 _ L' d h) rfl hO) ?_); clear hO; rintro e u ⟨rfl, hO, hSn⟩; replace hS := hS.trans hSn; clear hSn; simp only [List.set_cons_zero, List.set_cons_succ] at hO) | (refine own_alloc (T := 26) rfl rfl zero_sec rfl hO ?_; clear hO; intro g1 u hO hSn; replace hS := hS.trans hSn; clear hSn) | (refine own_store_all (k := 0) rfl rfl rfl rfl sz_sec hO rfl (secA_size HL1.out) (by rfl) (bcs_all _) ?_; clear hO; intro u hO hSn; replace hS := hS.trans hSn; clear hSn; simp only [List.set_cons_zero, List.set_cons_succ] at hO))
      go_upto_region 6 with (first | (go_at_call 31; (with_reducible refine Calls.mono (call_at 2 (fun L' h => HA.out.2 _ L' q h) rfl hO) ?_); clear hO; rintro e u ⟨rfl, hO, hSn⟩; replace hS := hS.trans hSn; clear hSn; simp only [List.set_cons_zero, List.set_cons_succ] at hO) | (refine own_alloc (T := 28) rfl rfl zero_rsec rfl hO ?_; clear hO; intro g2 u hO hSn; replace hS := hS.trans hSn; clear hSn) | (refine own_store_all (k := 0) rfl rfl rfl rfl sz_rsec hO rfl (secA_size HL1.out) (by rfl) (bcs_all _) ?_; clear hO; intro u hO hSn; replace hS := hS.trans hSn; clear hSn; simp only [List.set_cons_zero, List.set_cons_succ] at hO))
      go_upto_region 7 with (first | (go_at_call 18; (with_reducible refine Calls.mono (call_at 2 (fun L' h => HL.out.1 _ L' d h) rfl hO) ?_); clear hO; rintro e u ⟨rfl, hO, hSn⟩; replace hS := hS.trans hSn; clear hSn; simp only [List.set_cons_zero, List.set_cons_succ] at hO) | (refine own_alloc (T := 26) rfl rfl zero_sec rfl hO ?_; clear hO; intro g3 u hO hSn; replace hS := hS.trans hSn; clear hSn) | (refine own_store_all (k := 0) rfl rfl rfl rfl sz_sec hO rfl (secA_size HL2.out) (by rfl) (bcs_all _) ?_; clear hO; intro u hO hSn; replace hS := hS.trans hSn; clear hSn; simp only [List.set_cons_zero, List.set_cons_succ] at hO))
      go_upto_region 8 with (first | (go_at_call 32; (with_reducible refine Calls.mono (call_at 4 (fun L' h => HL.out.2 _ L' q h) rfl hO) ?_); clear hO; rintro e u ⟨rfl, hO, hSn⟩; replace hS := hS.trans hSn; clear hSn; simp only [List.set_cons_zero, List.set_cons_succ] at hO) | (refine own_alloc (T := 28) rfl rfl zero_rsec rfl hO ?_; clear hO; intro g4 u hO hSn; replace hS := hS.trans hSn; clear hSn) | (refine own_store_all (k := 0) rfl rfl rfl rfl sz_rsec hO rfl (secA_size HL2.out) (by rfl) (bcs_all _) ?_; clear hO; intro u hO hSn; replace hS := hS.trans hSn; clear hSn; simp only [List.set_cons_zero, List.set_cons_succ] at hO))
      refine wp_plain_seq (Cls _ (_)) 27 (cls_here hO) ?_
      simp only [List.append_eq, List.cons_append, List.nil_append, List.take_succ_cons, List.take_zero]
      repeat (first
        | (apply wv_skip rfl; simp only [Act.put, List.setIfInBounds_toArray, List.set_cons_zero, List.set_cons_succ])
        | (apply wv_load1 rfl rfl rfl; (first | exact row_int | exact row_str | exact row_bool | exact row_u8 | exact row_bys | exact row_pats | exact row_err); (intro w h; (first | exact own_get 0 h.1 rfl | exact own_get 1 h.1 rfl | exact own_get 2 h.1 rfl | exact own_get 3 h.1 rfl | exact own_get 4 h.1 rfl | exact own_get 5 h.1 rfl | exact own_get 6 h.1 rfl | exact own_get 7 h.1 rfl)); (first | (simp only [List.getElem?_toArray, List.getElem?_cons_succ, List.getElem?_cons_zero]; rfl) | rfl); simp only [Act.put, List.setIfInBounds_toArray, List.set_cons_zero, List.set_cons_succ])
        | (apply wv_loadrow rfl rfl rfl; (first | exact row_pat); exact sz_pat; (intro w h; (first | exact own_get 0 h.1 rfl | exact own_get 1 h.1 rfl | exact own_get 2 h.1 rfl | exact own_get 3 h.1 rfl | exact own_get 4 h.1 rfl | exact own_get 5 h.1 rfl | exact own_get 6 h.1 rfl | exact own_get 7 h.1 rfl)); (focus (simp; done)); (first | (simp only [List.drop_zero, List.drop_succ_cons, List.take_succ_cons, List.take_zero]; rfl) | rfl); simp only [Act.put, List.setIfInBounds_toArray, List.set_cons_zero, List.set_cons_succ])
        | (refine wv_loadrow (b := g1) (off := 0) (cs := (bcs a).toArray) (t := 26) (vs := bcs a) rfl rfl rfl row_sec sz_sec (fun w h => own_get 3 h.1 rfl) (by simp [bcs_length, HL1.out, HL2.out]) (by rw [List.drop_zero]; exact List.take_of_length_le (by simp [bcs_length, HL1.out, HL2.out])) ?_; simp only [Act.put, List.setIfInBounds_toArray, List.set_cons_zero, List.set_cons_succ])
        | (refine wv_loadrow (b := g2) (off := 0) (cs := (bcs a).toArray) (t := 28) (vs := bcs a) rfl rfl rfl row_rsec sz_rsec (fun w h => own_get 2 h.1 rfl) (by simp [bcs_length, HL1.out, HL2.out]) (by rw [List.drop_zero]; exact List.take_of_length_le (by simp [bcs_length, HL1.out, HL2.out])) ?_; simp only [Act.put, List.setIfInBounds_toArray, List.set_cons_zero, List.set_cons_succ])
        | (refine wv_loadrow (b := g3) (off := 0) (cs := (bcs l).toArray) (t := 26) (vs := bcs l) rfl rfl rfl row_sec sz_sec (fun w h => own_get 1 h.1 rfl) (by simp [bcs_length, HL1.out, HL2.out]) (by rw [List.drop_zero]; exact List.take_of_length_le (by simp [bcs_length, HL1.out, HL2.out])) ?_; simp only [Act.put, List.setIfInBounds_toArray, List.set_cons_zero, List.set_cons_succ])
        | (refine wv_loadrow (b := g4) (off := 0) (cs := (bcs l).toArray) (t := 28) (vs := bcs l) rfl rfl rfl row_rsec sz_rsec (fun w h => own_get 0 h.1 rfl) (by simp [bcs_length, HL1.out, HL2.out]) (by rw [List.drop_zero]; exact List.take_of_length_le (by simp [bcs_length, HL1.out, HL2.out])) ?_; simp only [Act.put, List.setIfInBounds_toArray, List.set_cons_zero, List.set_cons_succ])
        | (apply wv_run rfl; (focus (intro w h; go_simp; simp only [HE1.out w, HE2.out w]; first | done | rfl)); simp only [Act.put, List.setIfInBounds_toArray, List.set_cons_zero, List.set_cons_succ])
        | (apply wv_run rfl; (focus (intro w h; go_simp; first | done | rfl)); simp only [Act.put, List.setIfInBounds_toArray, List.set_cons_zero, List.set_cons_succ])
        | (apply wv_call rfl; (focus (intro w; go_simp; first | done | exact ⟨rfl, rfl⟩)); (focus (intro w h; apply cls_call h; (first | exact call_at 4 (fun L' h => HV.out.1 _ L' d h) rfl h.1 | exact call_at 5 (fun L' h => HV.out.2 _ L' q h) rfl h.1))); simp only [Act.put, List.setIfInBounds_toArray, List.set_cons_zero, List.set_cons_succ]))
      refine wv_nil ?_
      simp only [List.drop_succ_cons, List.drop_zero]
      intro w9 ⟨hO9, hS9⟩
      clear hO
      have hO := own_drop (own_drop (own_drop (own_drop hO9)))
      replace hS := hS.trans hS9
      clear hO9 hS9
      go_wp2
      go_roundw
      case rel => exact ⟨j + 1, by have := HLT.out; omega, by go_num, hO, hS⟩
      case measure => have := HLT.out; simp [intOf]; omega
    · have hje : j = m.length + 2 := by omega
      subst hje
      go_wp2_with (first | (go_at_call 30; (with_reducible refine Calls.mono (call_at 1 (fun L' h => HZ.out.2 _ L' q h) rfl hO) ?_); clear hO; rintro e u ⟨rfl, hO, hSn⟩; replace hS := hS.trans hSn; clear hSn; simp only [List.set_cons_zero, List.set_cons_succ] at hO) | (go_at_call 27; (with_reducible refine Calls.mono (call_at 0 (fun L' h => HZ.out.1 _ L' d h) rfl hO) ?_); clear hO; rintro e u ⟨rfl, hO, hSn⟩; replace hS := hS.trans hSn; clear hSn; simp only [List.set_cons_zero, List.set_cons_succ] at hO))
      go_ret
      exact ⟨rfl, hO, hS⟩
end Go.Proofs.Ytjilkbkafigloaa.H
set_option linter.unusedVariables false
set_option linter.unusedSimpArgs false
set_option maxRecDepth 100000
namespace Go.Proofs.Ytjilkbkafigloaa.H
open Go.ChangeShapes Go.WideShapes Go.ChangeAt Go.RowKit Go.Deep Go.Joins
section
variable {H : Type} {enc : TypeId × Value → H} {w : World} {base : Nat} {spare : Nat → Bool} {held : Bool}
def cellsX (ds : List DDeed) : List Value := ds.flatMap DDeed.cells
theorem cellsX_length (ds : List DDeed) : (cellsX ds).length = ds.length * 5 := by
  induction ds with
  | nil => rfl
  | cons d ds ih => simp only [cellsX, List.flatMap_cons, List.length_append, List.length_cons] at ih ⊢; rw [ih]; simp [DDeed.cells]; omega
theorem cellsX_at (ds : List DDeed) (k : Nat) (d : DDeed) (hk : ds[k]? = some d) (j : Nat) (u : Value) (hu : d.cells[j]? = some u) : (cellsX ds)[k * 5 + j]? = some u := by
  induction ds generalizing k with
  | nil => simp at hk
  | cons e ds ih =>
    have h5 : e.cells.length = 5 := rfl
    cases k with
    | zero =>
      simp at hk
      subst hk
      have hj := (List.getElem?_eq_some_iff.1 hu).1
      simp only [cellsX, List.flatMap_cons]
      rw [List.getElem?_append_left (by omega), ← hu]
      congr 1
      omega
    | succ k =>
      simp only [List.getElem?_cons_succ] at hk
      have := ih k hk
      simp only [cellsX, List.flatMap_cons] at this ⊢
      rw [List.getElem?_append_right (by omega), ← this]
      congr 1
      omega
theorem open_ddeeds {r : Reach} {b0 : Nat} {v : Value} {d : DataW H} {p : List MemPlace} (hv : Value.okWide Try.prog w r b0 37 v) (h : DataW.Trod enc Try.prog w base spare held 37 v d p) :
    ∃ (A : Option Addr) (n c : Nat) (ds : List DDeed), v = .slice A n c ∧ n = ds.length ∧ Rd w 5 (.slice A n c) n (cellsX ds) ∧ ∀ d ∈ ds, d.At w := by
  obtain ⟨A, n, c, rfl⟩ := okWide_slice Try.underlying37 hv
  obtain ⟨fuel, hf⟩ := h
  rcases open_slice Try.underlying37 hf with ⟨hcs, _⟩ | ⟨a, len, cap, m, k, D, Pl, hcs, _, hl, hm, hmm, _, hi⟩
  · simp [Value.cells] at hcs
    obtain ⟨rfl, rfl, rfl⟩ := hcs
    exact ⟨_, _, _, [], rfl, rfl, rd_nil _ _, fun d hd => by cases hd⟩
  · simp [Value.cells] at hcs
    obtain ⟨rfl, rfl, rfl⟩ := hcs
    have hml : n ≤ m := by rw [hmm]; split <;> omega
    have hc5 : Try.prog.cellsOf 50 = 5 := by kernel_rfl
    have key : ∀ i, i < n → ∃ d : DDeed, d.At w ∧ ∀ j u, d.cells[j]? = some u → w.cell? (a.add (i * 5 + j)) = some u := by
      intro i hin
      obtain ⟨cs', hc, ht⟩ := hi i (by omega)
      rw [hc5] at hc
      obtain ⟨_, hcl, hat⟩ := World.cells?_some hc
      obtain ⟨d, rfl, hd⟩ := open_ddeed_at ht
      refine ⟨d, hd, fun j u hu => ?_⟩
      have hj : j < 5 := (List.getElem?_eq_some_iff.1 hu).1
      rw [← addr_add, hat j hj, hu]
    have build : ∀ m, m ≤ n → ∃ ds : List DDeed, ds.length = m ∧ (∀ d ∈ ds, d.At w) ∧ ∀ j u, (cellsX ds)[j]? = some u → w.cell? (a.add j) = some u := by
      intro m
      induction m with
      | zero => exact fun _ => ⟨[], rfl, (fun d hd => by cases hd), (fun j u hu => by simp [cellsX] at hu)⟩
      | succ m ih =>
        intro hm
        obtain ⟨ds, hl, had, hps⟩ := ih (by omega)
        obtain ⟨d, hd, hcell⟩ := key m (by omega)
        refine ⟨ds ++ [d], by simp [hl], fun x hx => ?_, fun j u hu => ?_⟩
        · rcases List.mem_append.1 hx with hx | hx
          · exact had x hx
          · simp at hx; subst hx; exact hd
        have e : cellsX (ds ++ [d]) = cellsX ds ++ d.cells := by simp [cellsX]
        rw [e] at hu
        rcases Nat.lt_or_ge j (cellsX ds).length with hj | hj
        · rw [List.getElem?_append_left hj] at hu
          exact hps j u hu
        · rw [List.getElem?_append_right hj] at hu
          have := hcell _ u hu
          rw [cellsX_length, hl] at hj this
          rwa [show m * 5 + (j - m * 5) = j by omega] at this
    obtain ⟨ds, h1, h2, h3⟩ := build n (Nat.le_refl _)
    exact ⟨_, _, _, ds, rfl, h1.symm, ⟨by rw [cellsX_length, h1], _, _, rfl, hl, by unfold maxLen at hm; omega, fun j u hu => ⟨a, rfl, h3 j u hu⟩⟩, h2⟩
end
end Go.Proofs.Ytjilkbkafigloaa.H
set_option linter.unusedVariables false
set_option linter.unusedSimpArgs false
set_option maxRecDepth 100000
namespace Go.Proofs.Ytjilkbkafigloaa.H
open Go.RowKit
def PlayD (w : World) (L : List HP) (N : Nat) (e : Ending) (w' : World) : Prop :=
  ∃ (d q : Nat) (m : List Blk), m.length = N ∧ Lim 60 m ∧ Uni m ∧ Ret w (.tuple #[.pointer (some ⟨d, 0, none⟩), .pointer (some ⟨q, 0, none⟩), .bool true]) (diskP d m :: rdiskP q m :: L) e w'
theorem row_ddeed : isRowB Try.prog 50 = some true := by kernel_rfl
theorem sz_ddeed : (Try.prog.info? 50).map (·.size) = some 5 := by kernel_rfl
theorem ddeed_cells {w : World} {ad : Addr} {c : Nat} {ds : List DDeed} (h : Rd w 5 (.slice (some ad) ds.length c) ds.length (cellsX ds)) {k : Nat} {d : DDeed} (hd : ds[k]? = some d) : ∀ (j : Nat) (u : Value), d.cells[j]? = some u → w.cell? ((ad.add (k * 5)).add j) = some u :=
  fun j u hu => h.cell (cellsX_at ds k d hd j u hu)
theorem fresh_gd (N : Nat) : (fresh (List.replicate N sec0)).length = N ∧ Lim 0 (fresh (List.replicate N sec0)) ∧ Uni (fresh (List.replicate N sec0)) := by
  refine ⟨by simp [fresh], fun b hb => ?_, fun b hb => ?_⟩
  · simp [fresh] at hb; rw [hb.2]; exact Nat.le_refl _
  · simp [fresh] at hb; rw [hb.2]; exact ⟨⟨0, rfl⟩, fun s hs => by simp at hs⟩
set_option maxHeartbeats 1600000 in
theorem play_d (w : World) (L : List HP) (n : Nat) (hn : n < 256) (A1 : Option Addr) (n1 c1 : Nat) (ds : List DDeed) (hl1 : n1 = ds.length) (hO : Own w L) (hr1 : ∀ w', Own w' L → Rd w' 5 (.slice A1 n1 c1) n1 (cellsX ds)) (hd : ∀ w', Own w' L → ∀ d ∈ ds, d.At w') :
    Calls Try.prog 16 #[.int .u8 (n : Int), .slice A1 n1 c1] w (PlayD w L (n % 8 + 1)) := by
  subst hl1
  have HR1 := Lib.hid hr1
  have HD := Lib.hid hd
  have hmx := (hr1 w hO).max
  obtain ⟨K, hKe⟩ : ∃ K : Nat, K = n % 8 := ⟨_, rfl⟩
  have hK8 : K < 8 := by omega
  have hK : (n : Int).tmod 8 = (K : Int) := by rw [hKe]; rfl
  have hw0 : IntKind.i64.wrap (n : Int) = n := by rw [IntKind.wrap_i64] <;> omega
  have hw1 : IntKind.i64.wrap (K : Int) = K := by rw [IntKind.wrap_i64] <;> omega
  have hw2 : IntKind.i64.wrap ((K : Int) + 1) = ((K + 1 : Nat) : Int) := by rw [IntKind.wrap_i64] <;> omega
  have HNEW : Hid (∀ (w : World) (L : List HP), Own w L → Calls Try.prog 14 #[.int .i64 ((K : Int) + 1)] w (RetX w (fun d : Nat => .pointer (some ⟨d, 0, none⟩)) (fun d => diskP d (fresh (List.replicate (K + 1) sec0)) :: L))) := Lib.hid fun w L h => new_ok w L (K + 1) h (by omega) (by omega)
  have HRNEW : Hid (∀ (w : World) (L : List HP), Own w L → Calls Try.prog 29 #[.int .i64 ((K : Int) + 1)] w (RetX w (fun d : Nat => .pointer (some ⟨d, 0, none⟩)) (fun d => rdiskP d (fresh (List.replicate (K + 1) sec0)) :: L))) := Lib.hid fun w L h => rnew_ok w L (K + 1) h (by omega) (by omega)
  rw [← hKe]
  have hS := Same.refl w
  clear hr1 hd hKe
  go_enter Try.func16, Try.ntmps16
  go_wp2_with (first | (go_at_call 14; (with_reducible refine Calls.mono (HNEW.out _ _ hO) ?_); clear hO; rintro e u ⟨d, rfl, hO, hSn⟩; replace hS := hS.trans hSn; clear hSn) | (go_at_call 29; (with_reducible refine Calls.mono (HRNEW.out _ _ hO) ?_); clear hO; rintro e u ⟨q, rfl, hO, hSn⟩; replace hS := hS.trans hSn; clear hSn; replace hO := own_perm hO (List.Perm.swap _ _ _)))
  go_loopw [9] (fun i wr => ∃ (k : Nat) (m : List Blk), k ≤ ds.length ∧ k ≤ 60 ∧ i = .int .i64 k ∧ m.length = K + 1 ∧ Lim k m ∧ Uni m ∧ Own wr (diskP d m :: rdiskP q m :: L) ∧ Same w wr) (fun i _ => ds.length - (intOf i).toNat)
  case atStart => exact ⟨0, _, Nat.zero_le _, Nat.zero_le _, rfl, (fresh_gd (K + 1)).1, (fresh_gd (K + 1)).2.1, (fresh_gd (K + 1)).2.2, hO, hS⟩
  case round =>
    clear hO hS
    obtain ⟨k, m, hk, hk60, rfl, hmn, hml, hmu, hO, hS⟩ := hrel
    by_cases hlt : k < ds.length
    · have hm1 : (k : Int) < ds.length := by omega
      by_cases h60 : k < 60
      · have f1 : decide (k < 60) = true := by simpa using h60
        have f2 : (k : Int) < 60 := by omega
        obtain ⟨x, hx⟩ : ∃ x, ds[k]? = some x := ⟨_, List.getElem?_eq_getElem hlt⟩
        obtain ⟨ad, rfl⟩ := (HR1.out _ (own_drop (own_drop hO))).addr (by rw [cellsX_length]; omega)
        have HC : Hid (∀ (j : Nat) (u : Value), x.cells[j]? = some u → wr.cell? ((ad.add (k * 5)).add j) = some u) := ddeed_cells (HR1.out _ (own_drop (own_drop hO))) hx
        have HDA : Hid (∀ w', Own w' L → x.At w') := fun w' h => HD.out w' h x (List.mem_of_getElem? hx)
        have HM : Hid (m.length = K + 1 ∧ Lim k m ∧ Uni m ∧ k < 60) := ⟨hmn, hml, hmu, h60⟩
        have HL6 : Hid (0 < m.length ∧ Lim 1000000 m) := ⟨by omega, fun b hb => by have := hml b hb; omega⟩
        clear hx hmn hml hmu h60 hk60
        go_wp2_with (first | (refine own_loadrow_at (ad := ad.add (k * 5)) (vs := x.cells) rfl rfl rfl row_ddeed sz_ddeed rfl HC.out ?_) | (go_at_call 26; (with_reducible refine Calls.mono (do_d _ _ d q m x hO HL6.out.1 HL6.out.2 HDA.out) ?_); clear hO; rintro e u ⟨m', hg, rfl, hO, hSn⟩; replace hS := hS.trans hSn; clear hSn; have HG := Lib.hid hg; clear hg))
        go_roundw
        case rel => exact ⟨k + 1, m', by omega, by have := HM.out; omega, by go_num, by rw [HG.out.len]; exact HM.out.1, HG.out.lim k HM.out.2.1, HG.out.uni HM.out.2.2.1, hO, hS⟩
        case measure => simp [intOf]; omega
      · have hk3 : k = 60 := by omega
        have HM : Hid (m.length = K + 1 ∧ Lim k m ∧ Uni m) := ⟨hmn, hml, hmu⟩
        subst hk3
        clear hmn hml hmu h60 hk60
        go_wp2
        go_ret3
        exact ⟨d, q, m, HM.out.1, HM.out.2.1, HM.out.2.2, rfl, hO, hS⟩
    · have hke : k = ds.length := by omega
      have HM : Hid (m.length = K + 1 ∧ Lim 60 m ∧ Uni m) := ⟨hmn, fun b hb => Nat.le_trans (hml b hb) hk60, hmu⟩
      subst hke
      clear hmn hml hmu
      go_wp2
      go_ret3
      exact ⟨d, q, m, HM.out.1, HM.out.2.1, HM.out.2.2, rfl, hO, hS⟩
/-- What is asked of a law's deeds. -/
structure ArgX (w : World) (A1 : Option Addr) (n1 c1 : Nat) (ds : List DDeed) : Prop where
  hl1 : n1 = ds.length
  rd1 : Rd w 5 (.slice A1 n1 c1) n1 (cellsX ds)
  at_ : ∀ d ∈ ds, d.At w
theorem ddk {w w' : World} {d : DDeed} (h : d.At w) (hk : ∀ (i : Nat) (o : Obj), w.heap[i]? = some o → w'.heap[i]? = some o) : d.At w' := ⟨h.rd.keep hk, h.inl, h.ini⟩
theorem rd_snapD {w0 w' : World} {L : List HP} {size n : Nat} {v : Value} {xs : List Value} (h : Rd w0 size v n xs) (hO : Own w' (snap w0 :: L)) : Rd w' size v n xs := h.keep (fun i o hi => own_kept hO i o hi)
theorem play_ds (w0 w : World) (n : Nat) (hn : n < 256) (A1 : Option Addr) (n1 c1 : Nat) (ds : List DDeed) (h : ArgX w0 A1 n1 c1 ds) (L : List HP) (hO : Own w (snap w0 :: L)) :
    Calls Try.prog 16 #[.int .u8 (n : Int), .slice A1 n1 c1] w (PlayD w (snap w0 :: L) (n % 8 + 1)) :=
  play_d w _ n hn A1 n1 c1 ds h.hl1 hO (fun w' hh => rd_snapD h.rd1 hh) (fun w' hh d hd => ddk (h.at_ d hd) (fun i o hi => own_kept hh i o hi))
/-- DiskPlays: the walk. -/
theorem plays_d (w : World) (n : Nat) (hn : n < 256) (A1 : Option Addr) (n1 c1 : Nat) (ds : List DDeed) (h : ArgX w A1 n1 c1 ds) :
    Calls Try.prog 4 #[.int .u8 (n : Int), .slice A1 n1 c1] w (fun e w' => e = .returned (.bool true) ∧ Below w.heap.size w w') := by
  have HA := Lib.hid h
  have HN := Lib.hid hn
  have hO : Own w [snap w] := own_snap
  have hS := Same.refl w
  clear h hn
  go_enter Try.func4, Try.ntmps4
  go_wp2_with (first | (go_at_call 16; (with_reducible refine Calls.mono (play_ds _ _ n HN.out _ _ _ ds HA.out _ hO) ?_); clear hO; rintro e u ⟨d, q, m, hm, hl, hu, rfl, hO, hSn⟩; replace hS := hS.trans hSn; clear hSn; clear hm hl hu) | (go_at_call 13; (with_reducible refine Calls.mono (live4_c _ _ hO) ?_); clear hO; rintro e u ⟨rfl, hO, hSn⟩; replace hS := hS.trans hSn; clear hSn) | (go_at_call 15; (with_reducible refine Calls.mono (same_d _ _ d q m hO) ?_); clear hO; rintro e u ⟨rfl, hO, hSn⟩; replace hS := hS.trans hSn; clear hSn))
  go_ret
  exact ⟨rfl, below_of (own_at hO (k := 2) rfl) hS⟩
end Go.Proofs.Ytjilkbkafigloaa.H
set_option linter.unusedVariables false
set_option linter.unusedSimpArgs false
set_option maxRecDepth 100000
namespace Go.Proofs.Ytjilkbkafigloaa.H
open Go.RowKit
theorem wr_now (b : Blk) (s : Sec) : (b.wr s).now = s := by simp [Blk.now]
set_option maxHeartbeats 6400000 in
theorem bad_d (w : World) (n : Nat) (hn : n < 256) (A1 : Option Addr) (n1 c1 : Nat) (ds : List DDeed) (h : ArgX w A1 n1 c1 ds) (di0 di : Int) (dc : UInt8) (dv : Value) (db : Bool) :
    Calls Try.prog 6 #[.int .u8 (n : Int), .slice A1 n1 c1, .agg #[.int .i64 di0, .int .i64 di, .int .u8 (dc.toNat : Int), dv, .bool db]] w (fun e w' => e = .returned (.bool true) ∧ Below w.heap.size w w') := by
  have HA := Lib.hid h
  have HN := Lib.hid hn
  have hO : Own w [snap w] := own_snap
  have hS := Same.refl w
  clear h hn
  go_enter Try.func6, Try.ntmps6
  go_upto_region 4 with (first | (refine own_box_agg (x := .tmp 2) rfl rfl rfl hO ?_; clear hO; intro bx u hO hSn; replace hS := hS.trans hSn; clear hSn) | (go_at_call 16; (with_reducible refine Calls.mono (play_ds _ _ n HN.out _ _ _ ds HA.out _ (own_perm hO (List.Perm.swap _ _ _))) ?_); clear hO; rintro e u ⟨d, q, m, hm, hl, hu, rfl, hO, hSn⟩; replace hS := hS.trans hSn; clear hSn; have HM : Hid (Lim 60 m) := hl; clear hm hl hu) | (go_at_call 13; (with_reducible refine Calls.mono (live4_c _ _ hO) ?_); clear hO; rintro e u ⟨rfl, hO, hSn⟩; replace hS := hS.trans hSn; clear hSn))
  rcases dcases m di with ⟨k, b, rfl, hk⟩ | hno
  · have HI := Lib.hid hk
    obtain ⟨hs32, _⟩ := s32_of hO
    have HL1 : Hid (b.now.length = 32) := now_len (hs32 b (List.mem_of_getElem? hk))
    have hvl := HM.out b (List.mem_of_getElem? hk)
    obtain ⟨m1, hm1⟩ : ∃ m1, m1 = m.set k ⟨b.s, b.vs, true⟩ := ⟨_, rfl⟩
    obtain ⟨m2, hm2⟩ : ∃ m2, m2 = m1.set k ⟨b.s, b.vs, false⟩ := ⟨_, rfl⟩
    obtain ⟨m3, hm3⟩ : ∃ m3, m3 = m2.set k ((⟨b.s, b.vs, false⟩ : Blk).wr (sec dc)) := ⟨_, rfl⟩
    have hkl := (List.getElem?_eq_some_iff.1 hk).1
    have h1 : m1[k]? = some ⟨b.s, b.vs, true⟩ := by rw [hm1, List.getElem?_set, if_pos rfl, if_pos hkl]
    have h2 : m2[k]? = some ⟨b.s, b.vs, false⟩ := by rw [hm2, List.getElem?_set, if_pos rfl, if_pos (by rw [hm1, List.length_set]; exact hkl)]
    have h3 : m3[k]? = some ((⟨b.s, b.vs, false⟩ : Blk).wr (sec dc)) := by rw [hm3, List.getElem?_set, if_pos rfl, if_pos (by rw [hm2, hm1, List.length_set, List.length_set]; exact hkl)]
    have HSP1 : Hid (∀ (w : World) (L : List HP), Own w (diskP d m :: L) → Calls Try.prog 23 #[.pointer (some ⟨d, 0, none⟩), .int .i64 (k : Int), .bool true] w (Ret w (.int .i64 0) (diskP d m1 :: L))) := Lib.hid fun w L h => by rw [hm1]; exact spoil_ok w L d m k b true h hk
    have HRD1 : Hid (∀ (w : World) (L : List HP), Own w (diskP d m1 :: L) → Calls Try.prog 21 #[.pointer (some ⟨d, 0, none⟩), .int .i64 (k : Int)] w (Ret w (.tuple #[secV b.now, .int .i64 0]) (diskP d m1 :: L))) := Lib.hid fun w L h => read_ok w L d m1 k ⟨b.s, b.vs, true⟩ h h1
    have HWB : Hid (∀ (w : World) (L : List HP), Own w (diskP d m1 :: L) → Calls Try.prog 19 #[.pointer (some ⟨d, 0, none⟩), .int .i64 (k : Int), secV (sec dc)] w (Ret w (.int .i64 10) (diskP d m1 :: L))) := Lib.hid fun w L h => write_bad w L d m1 k ⟨b.s, b.vs, true⟩ _ h h1 rfl
    have HSP2 : Hid (∀ (w : World) (L : List HP), Own w (diskP d m1 :: L) → Calls Try.prog 23 #[.pointer (some ⟨d, 0, none⟩), .int .i64 (k : Int), .bool false] w (Ret w (.int .i64 0) (diskP d m2 :: L))) := Lib.hid fun w L h => by rw [hm2]; exact spoil_ok w L d m1 k ⟨b.s, b.vs, true⟩ false h h1
    have HWO : Hid (∀ (w : World) (L : List HP), Own w (diskP d m2 :: L) → Calls Try.prog 19 #[.pointer (some ⟨d, 0, none⟩), .int .i64 (k : Int), secV (sec dc)] w (Ret w (.int .i64 0) (diskP d m3 :: L))) := Lib.hid fun w L h => by rw [hm3]; exact write_ok w L d m2 k ⟨b.s, b.vs, false⟩ _ h h2 rfl (by simp) (by show b.vs.length ≤ 1000000; omega)
    have HRD3 : Hid (∀ (w : World) (L : List HP), Own w (diskP d m3 :: L) → Calls Try.prog 21 #[.pointer (some ⟨d, 0, none⟩), .int .i64 (k : Int)] w (Ret w (.tuple #[secV (sec dc), .int .i64 0]) (diskP d m3 :: L))) := Lib.hid fun w L h => by
      have := read_ok w L d m3 k ((⟨b.s, b.vs, false⟩ : Blk).wr (sec dc)) h h3
      rwa [wr_now] at this
    obtain ⟨i0, hi0⟩ := u8_info
    have HE1 : Hid (∀ w', (Op.equalIn 10000 26 (secV b.now) (secV b.now)).run Try.prog w' = .ok true w') := Lib.hid fun w' => by
      have h := eq_sec w' (n := 0) und_sec hi0 9998 HL1.out HL1.out
      simpa using h
    have HE2 : Hid (∀ w', (Op.equalIn 10000 26 (secV (sec dc)) (secV (sec dc))).run Try.prog w' = .ok true w') := Lib.hid fun w' => by
      have h := eq_sec w' (n := 0) und_sec hi0 9998 (a := sec dc) (b := sec dc) (by simp) (by simp)
      simpa using h
    clear hk hm1 hm2 hm3 h1 h2 h3 hi0 hs32 hvl hkl
    go_upto_region 8 with (first | (refine own_load1 (b := bx) (off := 1) (cs := #[.int .i64 di0, .int .i64 (k : Int), .int .u8 (dc.toNat : Int), dv, .bool db]) (t := 50) (v := .int .i64 (k : Int)) rfl rfl rfl row_int (by (first | exact own_get 0 hO rfl | exact own_get 1 hO rfl | exact own_get 2 hO rfl | exact own_get 3 hO rfl | exact own_get 4 hO rfl | exact own_get 5 hO rfl | exact own_get 6 hO rfl | exact own_get 7 hO rfl)) rfl ?_) | (go_at_call 23; (with_reducible refine Calls.mono (call_at 0 (fun L' h => HSP1.out _ L' h) rfl hO) ?_); clear hO; rintro e u ⟨rfl, hO, hSn⟩; replace hS := hS.trans hSn; clear hSn; simp only [List.set_cons_zero, List.set_cons_succ] at hO) | (go_at_call 21; (with_reducible refine Calls.mono (call_at 0 (fun L' h => HRD1.out _ L' h) rfl hO) ?_); clear hO; rintro e u ⟨rfl, hO, hSn⟩; replace hS := hS.trans hSn; clear hSn; simp only [List.set_cons_zero, List.set_cons_succ] at hO) | (refine own_alloc (T := 26) rfl rfl zero_sec rfl hO ?_; clear hO; intro g1 u hO hSn; replace hS := hS.trans hSn; clear hSn) | (refine own_store_all (k := 0) rfl rfl rfl rfl sz_sec hO rfl (secA_size HL1.out) (by rfl) (bcs_all _) ?_; clear hO; intro u hO hSn; replace hS := hS.trans hSn; clear hSn; simp only [List.set_cons_zero, List.set_cons_succ] at hO))
    refine wp_region_seq (Cls _ (_)) 8 107 mixed (by kernel_rfl) rfl (cls_drew hO) ?_
    simp only [List.append_eq, List.cons_append, List.nil_append, List.take_succ_cons, List.take_zero]
    repeat (first
      | (apply wv_skip rfl; simp only [Act.put, List.setIfInBounds_toArray, List.set_cons_zero, List.set_cons_succ])
      | (refine wv_load1 (b := bx) (off := 1) (cs := #[.int .i64 di0, .int .i64 (k : Int), .int .u8 (dc.toNat : Int), dv, .bool db]) (t := 50) (v := .int .i64 (k : Int)) rfl rfl rfl row_int (fun w h => by (first | exact own_get 0 h.1 rfl | exact own_get 1 h.1 rfl | exact own_get 2 h.1 rfl | exact own_get 3 h.1 rfl | exact own_get 4 h.1 rfl | exact own_get 5 h.1 rfl | exact own_get 6 h.1 rfl | exact own_get 7 h.1 rfl)) rfl ?_; simp only [Act.put, List.setIfInBounds_toArray, List.set_cons_zero, List.set_cons_succ])
      | (refine wv_load1 (b := bx) (off := 2) (cs := #[.int .i64 di0, .int .i64 (k : Int), .int .u8 (dc.toNat : Int), dv, .bool db]) (t := 50) (v := .int .u8 (dc.toNat : Int)) rfl rfl rfl row_u8D (fun w h => by (first | exact own_get 0 h.1 rfl | exact own_get 1 h.1 rfl | exact own_get 2 h.1 rfl | exact own_get 3 h.1 rfl | exact own_get 4 h.1 rfl | exact own_get 5 h.1 rfl | exact own_get 6 h.1 rfl | exact own_get 7 h.1 rfl)) rfl ?_; simp only [Act.put, List.setIfInBounds_toArray, List.set_cons_zero, List.set_cons_succ])
      | (apply wv_load1 rfl rfl rfl; (first | exact row_int | exact row_str | exact row_bool | exact row_u8 | exact row_bys | exact row_pats | exact row_err); (intro w h; (first | exact own_get 0 h.1 rfl | exact own_get 1 h.1 rfl | exact own_get 2 h.1 rfl | exact own_get 3 h.1 rfl | exact own_get 4 h.1 rfl | exact own_get 5 h.1 rfl | exact own_get 6 h.1 rfl | exact own_get 7 h.1 rfl)); (first | (simp only [List.getElem?_toArray, List.getElem?_cons_succ, List.getElem?_cons_zero]; rfl) | rfl); simp only [Act.put, List.setIfInBounds_toArray, List.set_cons_zero, List.set_cons_succ])
      | (apply wv_loadrow rfl rfl rfl; (first | exact row_pat); exact sz_pat; (intro w h; (first | exact own_get 0 h.1 rfl | exact own_get 1 h.1 rfl | exact own_get 2 h.1 rfl | exact own_get 3 h.1 rfl | exact own_get 4 h.1 rfl | exact own_get 5 h.1 rfl | exact own_get 6 h.1 rfl | exact own_get 7 h.1 rfl)); (focus (simp; done)); (first | (simp only [List.drop_zero, List.drop_succ_cons, List.take_succ_cons, List.take_zero]; rfl) | rfl); simp only [Act.put, List.setIfInBounds_toArray, List.set_cons_zero, List.set_cons_succ])
      | (apply wv_run rfl; (focus (intro w h; go_simp; first | done | rfl)); simp only [Act.put, List.setIfInBounds_toArray, List.set_cons_zero, List.set_cons_succ])
      | (apply wv_call rfl; (focus (intro w; go_simp; first | done | exact ⟨rfl, rfl⟩)); (focus (intro w h; apply cls_call h; (first | exact sector_c _ _ dc h.1 | exact call_at 1 (fun L' h => HWB.out _ L' h) rfl h.1))); simp only [Act.put, List.setIfInBounds_toArray, List.set_cons_zero, List.set_cons_succ]))
    refine wv_nil ?_
    simp only [List.drop_succ_cons, List.drop_zero]
    intro w9 ⟨hO9, hS9⟩
    clear hO
    replace hS := hS.trans hS9
    have hO := hO9
    clear hO9 hS9
    go_upto_region 11 with (first | (refine own_load1 (b := bx) (off := 1) (cs := #[.int .i64 di0, .int .i64 (k : Int), .int .u8 (dc.toNat : Int), dv, .bool db]) (t := 50) (v := .int .i64 (k : Int)) rfl rfl rfl row_int (by (first | exact own_get 0 hO rfl | exact own_get 1 hO rfl | exact own_get 2 hO rfl | exact own_get 3 hO rfl | exact own_get 4 hO rfl | exact own_get 5 hO rfl | exact own_get 6 hO rfl | exact own_get 7 hO rfl)) rfl ?_) | (go_at_call 21; (with_reducible refine Calls.mono (call_at 1 (fun L' h => HRD1.out _ L' h) rfl hO) ?_); clear hO; rintro e u ⟨rfl, hO, hSn⟩; replace hS := hS.trans hSn; clear hSn; simp only [List.set_cons_zero, List.set_cons_succ] at hO) | (refine own_alloc (T := 26) rfl rfl zero_sec rfl hO ?_; clear hO; intro g2 u hO hSn; replace hS := hS.trans hSn; clear hSn) | (refine own_store_all (k := 0) rfl rfl rfl rfl sz_sec hO rfl (secA_size HL1.out) (by rfl) (bcs_all _) ?_; clear hO; intro u hO hSn; replace hS := hS.trans hSn; clear hSn; simp only [List.set_cons_zero, List.set_cons_succ] at hO) | (go_at_call 23; (with_reducible refine Calls.mono (call_at 2 (fun L' h => HSP2.out _ L' h) rfl hO) ?_); clear hO; rintro e u ⟨rfl, hO, hSn⟩; replace hS := hS.trans hSn; clear hSn; simp only [List.set_cons_zero, List.set_cons_succ] at hO))
    refine wp_region_seq (Cls _ (_)) 6 107 mixed (by kernel_rfl) rfl (cls_drew hO) ?_
    simp only [List.append_eq, List.cons_append, List.nil_append, List.take_succ_cons, List.take_zero]
    repeat (first
      | (apply wv_skip rfl; simp only [Act.put, List.setIfInBounds_toArray, List.set_cons_zero, List.set_cons_succ])
      | (refine wv_load1 (b := bx) (off := 1) (cs := #[.int .i64 di0, .int .i64 (k : Int), .int .u8 (dc.toNat : Int), dv, .bool db]) (t := 50) (v := .int .i64 (k : Int)) rfl rfl rfl row_int (fun w h => by (first | exact own_get 0 h.1 rfl | exact own_get 1 h.1 rfl | exact own_get 2 h.1 rfl | exact own_get 3 h.1 rfl | exact own_get 4 h.1 rfl | exact own_get 5 h.1 rfl | exact own_get 6 h.1 rfl | exact own_get 7 h.1 rfl)) rfl ?_; simp only [Act.put, List.setIfInBounds_toArray, List.set_cons_zero, List.set_cons_succ])
      | (refine wv_load1 (b := bx) (off := 2) (cs := #[.int .i64 di0, .int .i64 (k : Int), .int .u8 (dc.toNat : Int), dv, .bool db]) (t := 50) (v := .int .u8 (dc.toNat : Int)) rfl rfl rfl row_u8D (fun w h => by (first | exact own_get 0 h.1 rfl | exact own_get 1 h.1 rfl | exact own_get 2 h.1 rfl | exact own_get 3 h.1 rfl | exact own_get 4 h.1 rfl | exact own_get 5 h.1 rfl | exact own_get 6 h.1 rfl | exact own_get 7 h.1 rfl)) rfl ?_; simp only [Act.put, List.setIfInBounds_toArray, List.set_cons_zero, List.set_cons_succ])
      | (apply wv_load1 rfl rfl rfl; (first | exact row_int | exact row_str | exact row_bool | exact row_u8 | exact row_bys | exact row_pats | exact row_err); (intro w h; (first | exact own_get 0 h.1 rfl | exact own_get 1 h.1 rfl | exact own_get 2 h.1 rfl | exact own_get 3 h.1 rfl | exact own_get 4 h.1 rfl | exact own_get 5 h.1 rfl | exact own_get 6 h.1 rfl | exact own_get 7 h.1 rfl)); (first | (simp only [List.getElem?_toArray, List.getElem?_cons_succ, List.getElem?_cons_zero]; rfl) | rfl); simp only [Act.put, List.setIfInBounds_toArray, List.set_cons_zero, List.set_cons_succ])
      | (apply wv_loadrow rfl rfl rfl; (first | exact row_pat); exact sz_pat; (intro w h; (first | exact own_get 0 h.1 rfl | exact own_get 1 h.1 rfl | exact own_get 2 h.1 rfl | exact own_get 3 h.1 rfl | exact own_get 4 h.1 rfl | exact own_get 5 h.1 rfl | exact own_get 6 h.1 rfl | exact own_get 7 h.1 rfl)); (focus (simp; done)); (first | (simp only [List.drop_zero, List.drop_succ_cons, List.take_succ_cons, List.take_zero]; rfl) | rfl); simp only [Act.put, List.setIfInBounds_toArray, List.set_cons_zero, List.set_cons_succ])
      | (apply wv_run rfl; (focus (intro w h; go_simp; first | done | rfl)); simp only [Act.put, List.setIfInBounds_toArray, List.set_cons_zero, List.set_cons_succ])
      | (apply wv_call rfl; (focus (intro w; go_simp; first | done | exact ⟨rfl, rfl⟩)); (focus (intro w h; apply cls_call h; (first | exact sector_c _ _ dc h.1))); simp only [Act.put, List.setIfInBounds_toArray, List.set_cons_zero, List.set_cons_succ]))
    refine wv_nil ?_
    simp only [List.drop_succ_cons, List.drop_zero]
    intro w9 ⟨hO9, hS9⟩
    clear hO
    replace hS := hS.trans hS9
    refine ev_call rfl (by go_simp; first | done | exact ⟨rfl, rfl⟩) ?_
    refine Calls.mono (call_at 2 (fun L' h => HWO.out _ L' h) rfl hO9) ?_
    rintro e2 w10 ⟨rfl, hO, hS10⟩
    refine ⟨_, rfl, ?_⟩
    replace hS := hS.trans hS10
    clear hO9 hS9 hS10
    simp only [List.set_cons_zero, List.set_cons_succ] at hO
    simp only [Act.put, List.setIfInBounds_toArray, List.set_cons_zero, List.set_cons_succ]
    refine ev rfl (by go_simp; first | done | exact ⟨rfl, rfl⟩ | rfl) (wpList_nil ?_)
    simp only [Act.put, List.setIfInBounds_toArray, List.set_cons_zero, List.set_cons_succ]
    try simp only [Exit.then]
    go_upto_region 13 with (first | (refine own_load1 (b := bx) (off := 1) (cs := #[.int .i64 di0, .int .i64 (k : Int), .int .u8 (dc.toNat : Int), dv, .bool db]) (t := 50) (v := .int .i64 (k : Int)) rfl rfl rfl row_int (by (first | exact own_get 0 hO rfl | exact own_get 1 hO rfl | exact own_get 2 hO rfl | exact own_get 3 hO rfl | exact own_get 4 hO rfl | exact own_get 5 hO rfl | exact own_get 6 hO rfl | exact own_get 7 hO rfl)) rfl ?_) | (go_at_call 21; (with_reducible refine Calls.mono (call_at 2 (fun L' h => HRD3.out _ L' h) rfl hO) ?_); clear hO; rintro e u ⟨rfl, hO, hSn⟩; replace hS := hS.trans hSn; clear hSn; simp only [List.set_cons_zero, List.set_cons_succ] at hO) | (refine own_alloc (T := 26) rfl rfl zero_sec rfl hO ?_; clear hO; intro g3 u hO hSn; replace hS := hS.trans hSn; clear hSn) | (refine own_store_all (k := 0) rfl rfl rfl rfl sz_sec hO rfl (secA_size (by simp)) (by rfl) (bcs_all _) ?_; clear hO; intro u hO hSn; replace hS := hS.trans hSn; clear hSn; simp only [List.set_cons_zero, List.set_cons_succ] at hO))
    refine wp_region_seq (Cls _ (_)) 23 107 mixed (by kernel_rfl) rfl (cls_drew hO) ?_
    simp only [List.append_eq, List.cons_append, List.nil_append, List.take_succ_cons, List.take_zero]
    repeat (first
      | (apply wv_skip rfl; simp only [Act.put, List.setIfInBounds_toArray, List.set_cons_zero, List.set_cons_succ])
      | (refine wv_load1 (b := bx) (off := 2) (cs := #[.int .i64 di0, .int .i64 (k : Int), .int .u8 (dc.toNat : Int), dv, .bool db]) (t := 50) (v := .int .u8 (dc.toNat : Int)) rfl rfl rfl row_u8D (fun w h => by (first | exact own_get 0 h.1 rfl | exact own_get 1 h.1 rfl | exact own_get 2 h.1 rfl | exact own_get 3 h.1 rfl | exact own_get 4 h.1 rfl | exact own_get 5 h.1 rfl | exact own_get 6 h.1 rfl | exact own_get 7 h.1 rfl)) rfl ?_; simp only [Act.put, List.setIfInBounds_toArray, List.set_cons_zero, List.set_cons_succ])
      | (refine wv_loadrow (b := g1) (off := 0) (cs := (bcs b.now).toArray) (t := 26) (vs := bcs b.now) rfl rfl rfl row_sec sz_sec (fun w h => own_get 2 h.1 rfl) (by simp [bcs_length, HL1.out]) (by rw [List.drop_zero]; exact List.take_of_length_le (by simp [bcs_length, HL1.out])) ?_; simp only [Act.put, List.setIfInBounds_toArray, List.set_cons_zero, List.set_cons_succ])
      | (refine wv_loadrow (b := g2) (off := 0) (cs := (bcs b.now).toArray) (t := 26) (vs := bcs b.now) rfl rfl rfl row_sec sz_sec (fun w h => own_get 1 h.1 rfl) (by simp [bcs_length, HL1.out]) (by rw [List.drop_zero]; exact List.take_of_length_le (by simp [bcs_length, HL1.out])) ?_; simp only [Act.put, List.setIfInBounds_toArray, List.set_cons_zero, List.set_cons_succ])
      | (refine wv_loadrow (b := g3) (off := 0) (cs := (bcs (sec dc)).toArray) (t := 26) (vs := bcs (sec dc)) rfl rfl rfl row_sec sz_sec (fun w h => own_get 0 h.1 rfl) (by simp [bcs_length, HL1.out]) (by rw [List.drop_zero]; exact List.take_of_length_le (by simp [bcs_length, HL1.out])) ?_; simp only [Act.put, List.setIfInBounds_toArray, List.set_cons_zero, List.set_cons_succ])
      | (apply wv_run rfl; (focus (intro w h; go_simp; simp only [HE1.out w, HE2.out w]; first | done | rfl)); simp only [Act.put, List.setIfInBounds_toArray, List.set_cons_zero, List.set_cons_succ])
      | (apply wv_load1 rfl rfl rfl; (first | exact row_int | exact row_str | exact row_bool | exact row_u8 | exact row_bys | exact row_pats | exact row_err); (intro w h; (first | exact own_get 0 h.1 rfl | exact own_get 1 h.1 rfl | exact own_get 2 h.1 rfl | exact own_get 3 h.1 rfl | exact own_get 4 h.1 rfl | exact own_get 5 h.1 rfl | exact own_get 6 h.1 rfl | exact own_get 7 h.1 rfl)); (first | (simp only [List.getElem?_toArray, List.getElem?_cons_succ, List.getElem?_cons_zero]; rfl) | rfl); simp only [Act.put, List.setIfInBounds_toArray, List.set_cons_zero, List.set_cons_succ])
      | (apply wv_loadrow rfl rfl rfl; (first | exact row_pat); exact sz_pat; (intro w h; (first | exact own_get 0 h.1 rfl | exact own_get 1 h.1 rfl | exact own_get 2 h.1 rfl | exact own_get 3 h.1 rfl | exact own_get 4 h.1 rfl | exact own_get 5 h.1 rfl | exact own_get 6 h.1 rfl | exact own_get 7 h.1 rfl)); (focus (simp; done)); (first | (simp only [List.drop_zero, List.drop_succ_cons, List.take_succ_cons, List.take_zero]; rfl) | rfl); simp only [Act.put, List.setIfInBounds_toArray, List.set_cons_zero, List.set_cons_succ])
      | (apply wv_run rfl; (focus (intro w h; go_simp; first | done | rfl)); simp only [Act.put, List.setIfInBounds_toArray, List.set_cons_zero, List.set_cons_succ])
      | (apply wv_call rfl; (focus (intro w; go_simp; first | done | exact ⟨rfl, rfl⟩)); (focus (intro w h; apply cls_call h; (first | exact sector_c _ _ dc h.1))); simp only [Act.put, List.setIfInBounds_toArray, List.set_cons_zero, List.set_cons_succ]))
    refine wv_nil ?_
    simp only [List.drop_succ_cons, List.drop_zero]
    intro w9 ⟨hO9, hS9⟩
    clear hO
    go_wp2
    go_ret
    exact ⟨rfl, below_of (own_at hO9 (k := 5) rfl) (hS.trans hS9)⟩
  · have HI := Lib.hid hno
    clear hno
    go_wp2_with (first | (refine own_load1 (b := bx) (off := 1) (cs := #[.int .i64 di0, .int .i64 di, .int .u8 (dc.toNat : Int), dv, .bool db]) (t := 50) (v := .int .i64 di) rfl rfl rfl row_int (by (first | exact own_get 0 hO rfl | exact own_get 1 hO rfl | exact own_get 2 hO rfl | exact own_get 3 hO rfl | exact own_get 4 hO rfl | exact own_get 5 hO rfl | exact own_get 6 hO rfl | exact own_get 7 hO rfl)) rfl ?_) | (go_at_call 23; (with_reducible refine Calls.mono (call_at 0 (fun L' h => spoil_no _ L' d m di true h HI.out) rfl hO) ?_); clear hO; rintro e u ⟨rfl, hO, hSn⟩; replace hS := hS.trans hSn; clear hSn; simp only [List.set_cons_zero, List.set_cons_succ] at hO) | (go_at_call 15; (with_reducible refine Calls.mono (same_d _ _ d q m hO) ?_); clear hO; rintro e u ⟨rfl, hO, hSn⟩; replace hS := hS.trans hSn; clear hSn))
    go_ret
    exact ⟨rfl, below_of (own_at hO (k := 2) rfl) hS⟩
end Go.Proofs.Ytjilkbkafigloaa.H
set_option linter.unusedVariables false
set_option linter.unusedSimpArgs false
set_option maxRecDepth 100000
namespace Go.Proofs.Ytjilkbkafigloaa.H
open Go.RowKit
/-- What may be: the law's table. -/
def mayC (f : Nat → Bool) : List Value := (List.range 1536).map fun t => Value.bool (f t)
theorem mayC_len (f : Nat → Bool) : (mayC f).length = 1536 := by simp [mayC]
theorem mayC_at (f : Nat → Bool) {t : Nat} (h : t < 1536) : (mayC f).toArray[t]? = some (.bool (f t)) := by
  rw [List.getElem?_toArray]
  unfold mayC
  rw [List.getElem?_map, List.getElem?_range h]
  rfl
theorem mayC_set (f : Nat → Bool) (t : Nat) : (mayC f).toArray.setIfInBounds t (.bool true) = (mayC fun s => f s || decide (s = t)).toArray := by
  rw [List.setIfInBounds_toArray]
  congr 1
  refine List.ext_getElem? (fun s => ?_)
  rw [List.getElem?_set]
  by_cases hs : s < 1536
  · have h1 : ∀ g, (mayC g)[s]? = some (.bool (g s)) := fun g => by unfold mayC; rw [List.getElem?_map, List.getElem?_range hs]; rfl
    rw [h1, h1]
    split
    · rename_i e
      subst e
      rw [if_pos (by rw [mayC_len]; exact hs)]
      simp
    · rename_i e
      have : ¬ s = t := fun h => e h.symm
      simp [this]
  · have h1 : ∀ g, (mayC g)[s]? = none := fun g => List.getElem?_eq_none (by rw [mayC_len]; omega)
    rw [h1, h1]
    split
    · rw [if_neg (by rw [mayC_len]; omega)]
    · rfl
theorem mayC_zero : (Value.agg (Array.replicate 1536 (Value.bool false))).cells = (mayC fun _ => false).toArray := by
  apply Array.ext'
  show (Array.replicate 1536 (Value.bool false)).toList = (List.range 1536).map fun _ => Value.bool false
  generalize 1536 = n
  rw [Array.toList_replicate]
  symm
  rw [List.eq_replicate_iff]
  refine ⟨by simp, fun b hb => ?_⟩
  obtain ⟨_, _, rfl⟩ := List.mem_map.1 hb
  rfl
/-- The table has all that a block lasts as, or may last as. -/
def CovB (f : Nat → Bool) (j : Nat) (b : Blk) : Prop := ∀ s, (s = b.s ∨ s ∈ b.vs) → ∀ c : UInt8, s = sec c → f (j * 256 + c.toNat) = true
def Cov (f : Nat → Bool) (n : Nat) (m : List Blk) : Prop := ∀ (j : Nat) (b : Blk), j < n → m[j]? = some b → CovB f j b
theorem cov_zero {f : Nat → Bool} {m : List Blk} : Cov f 0 m := fun j b hj => by omega
theorem CovB.or {f : Nat → Bool} {j t : Nat} {b : Blk} (h : CovB f j b) : CovB (fun s => f s || decide (s = t)) j b := fun s hs c e => by simp [h s hs c e]
theorem cov_next {f : Nat → Bool} {m : List Blk} {i : Nat} {b : Blk} (h : Cov f i m) (hb : m[i]? = some b) {c : UInt8} (h1 : b.s = sec c) (h2 : b.vs = []) : Cov (fun s => f s || decide (s = i * 256 + c.toNat)) (i + 1) m := fun j x hj hx => by
  by_cases e : j = i
  · subst e
    rw [hb] at hx
    cases hx
    intro s hs c' e'
    rcases hs with hs | hs
    · have : c = c' := by
        rw [hs, h1] at e'
        have := congrArg (fun l => l.head?) e'
        simpa [sec] using this
      subst this
      simp
    · rw [h2] at hs; cases hs
  · exact (h j x (by omega) hx).or
theorem cov_write {f : Nat → Bool} {m : List Blk} {n i : Nat} {b : Blk} (h : Cov f n m) (hb : m[i]? = some b) (hi : i < n) (c : UInt8) : Cov (fun s => f s || decide (s = i * 256 + c.toNat)) n (m.set i (b.wr (sec c))) := fun j x hj hx => by
  rcases set_at hx with ⟨rfl, rfl⟩ | ⟨hne, hx⟩
  · intro s hs c' e'
    have hb' := h j b hj hb
    rcases hs with hs | hs
    · simp [hb' s (.inl hs) c' e']
    · rcases List.mem_append.1 hs with hs | hs
      · simp [hb' s (.inr hs) c' e']
      · have : c = c' := by
          rw [List.mem_singleton.1 hs] at e'
          have := congrArg (fun l => l.head?) e'
          simpa [sec] using this
        subst this
        simp
  · exact (h j x hj hx).or
theorem crashL_at (pk : Nat → Nat → Int) : ∀ (m : List Blk) (k i : Nat) (x : Blk), (crashL pk k m)[i]? = some x → ∃ b, m[i]? = some b ∧ x.vs = [] ∧ ∃ v, x.s = sett v b
  | [], k, i, x, h => by simp [crashL] at h
  | b :: r, k, i, x, h => by
    unfold crashL at h
    split at h
    · rename_i hv
      cases i with
      | zero =>
        have e : b = x := by simpa using h
        subst e
        refine ⟨b, rfl, hv, 0, ?_⟩
        unfold sett
        rw [if_neg (fun h => by have := h.1; omega)]
      | succ i => exact crashL_at pk r k i x (by simpa using h)
    · cases i with
      | zero =>
        have e : (⟨sett (pk k b.vs.length) b, [], b.bad⟩ : Blk) = x := by simpa using h
        subst e
        exact ⟨b, rfl, rfl, _, rfl⟩
      | succ i => exact crashL_at pk r (k + 1) i x (by simpa using h)
theorem cov_crash {f : Nat → Bool} {n : Nat} {m : List Blk} (pk : Nat → Nat → Int) (h : Cov f n m) : Cov f n (crashL pk 0 m) := fun j x hj hx => by
  obtain ⟨b, hb, hv, v, hs⟩ := crashL_at pk m 0 j x hx
  intro s hs' c e
  rcases hs' with hs' | hs'
  · rw [hs] at hs'
    rcases sett_mem v b with e2 | e2
    · exact h j b hj hb s (.inl (by rw [hs', e2])) c e
    · exact h j b hj hb s (.inr (by rw [hs']; exact e2)) c e
  · rw [hv] at hs'; cases hs'
theorem zero_may : (Try.prog.info? 45).map (·.zero) = some (some (.agg (Array.replicate 1536 (.bool false)))) := by kernel_rfl
/-- What is read for a law's arguments, wherever its first world stays. -/
theorem argx_rd {w0 w' : World} {A1 : Option Addr} {n1 c1 : Nat} {ds : List DDeed} {L : List HP} (h : ArgX w0 A1 n1 c1 ds) (k : Nat) (hk : L[k]? = some (snap w0)) (hO : Own w' L) : Rd w' 5 (.slice A1 n1 c1) n1 (cellsX ds) := rd_snapD h.rd1 (own_at hO hk)
end Go.Proofs.Ytjilkbkafigloaa.H
