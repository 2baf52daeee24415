/- slices.Clone, Load, New of the program's disk. The plain law of settle: what lasts of which block, in what order. Sectors are compared. -/
import Derived.Test.YtonohjhmnlfakaaZ12
import Derived.ChangeKeysEq
set_option linter.unusedVariables false
set_option linter.unusedSimpArgs false
set_option maxRecDepth 100000
namespace Go.Proofs.Ytonohjhmnlfakaa.H
open Go.RowKit
section
variable (w : World) (L : List HP)
theorem eqs_nil (w : World) : (binOp .eql 69 (.slice none 0 0) (.slice none 0 0)).run Try.prog w = .ok (.bool true) w := by
  simp [binOp, run_equal_slice_nil _ _ _ _ _ _ Try.underlying69]
theorem eqs_some (w : World) (ad : Addr) (n c : Nat) : (binOp .eql 69 (.slice (some ad) n c) (.slice none 0 0)).run Try.prog w = .ok (.bool false) w := by
  simp [binOp, run_equal_slice_nil _ _ _ _ _ _ Try.underlying69]
theorem clone_nil (hO : Own w L) : Calls Try.prog 69 #[.slice none 0 0] w (Ret w (.slice none 0 0) L) := by
  go_enter Try.func69, Try.ntmps69
  have he := eqs_nil w
  go_wp2
  go_ret
  exact ⟨rfl, hO, Same.refl _⟩
theorem clone_c (ad : Addr) (n c : Nat) (xs : List Value) (hO : Own w L) (hr : ∀ w', Own w' L → Rd w' 32 (.slice (some ad) n c) n xs) (h1 : ∀ u ∈ xs, u.oneCell' = true) (hn : n ≤ 1000000) :
    Calls Try.prog 69 #[.slice (some ad) n c] w (RetX w (fun v => v) (fun v => owns 47 32 v n xs :: L)) := by
  have HR := Lib.hid hr
  have H1 := Lib.hid h1
  have HN := Lib.hid hn
  have hS := Same.refl w
  have he := eqs_some w ad n c
  clear hr h1 hn
  go_enter Try.func69, Try.ntmps69
  go_wp2_with (first | (refine own_lit0 rfl rfl Try.underlying69 sz_sec hO ?_; clear hO; intro g0 u hO hSn; replace hS := hS.trans hSn; clear hSn) | (refine own_append (m := n) (news := xs) rfl rfl rfl rfl Try.underlying69 info_sec3 (by simp [Value.cells]) (by decide) hO (HR.out _ (own_drop hO)) H1.out ?_ ?_ ?_; (have := HN.out; simp only [maxLen]; omega); (have := HN.out; omega); clear hO; intro v' u hO hSn hv'; clear hv'; replace hS := hS.trans hSn; clear hSn))
  rw [Nat.zero_add, List.nil_append] at hO
  go_ret
  exact ⟨v', rfl, hO, hS⟩
theorem secs_one {l : List Sec} : ∀ u ∈ secs l, u.oneCell' = true := by
  intro u hu
  obtain ⟨s, _, h⟩ := List.mem_flatMap.1 hu
  exact bcs_one s u h
/-- A disk where nothing was written. -/
abbrev fresh (l : List Sec) : List Blk := l.map fun s => ⟨s, [], false⟩
theorem fresh_s (l : List Sec) : (fresh l).map (·.s) = l := by simp [fresh, Function.comp_def]
theorem fresh_ok {l : List Sec} (hl : l.length ≤ 96) (h32 : ∀ s ∈ l, s.length = 32) : DiskOk (fresh l) [] [] [(.slice none 0 0, [])] where
  len := by simpa [fresh] using hl
  s32 := fun b hb => by obtain ⟨s, hs, rfl⟩ := List.mem_map.1 hb; exact h32 s hs
  v32 := fun b hb s hs => by obtain ⟨s0, _, rfl⟩ := List.mem_map.1 hb; simp at hs
  keyv := fun q hq => by simp at hq
  vers := fun i b hb => by
    obtain ⟨s, _, rfl⟩ := List.mem_map.1 (List.mem_of_getElem? hb)
    exact ⟨none, 0, rfl, by simp⟩
  keyb := fun q hq => by simp at hq
  bads := fun i b hb => by
    obtain ⟨s, _, rfl⟩ := List.mem_map.1 (List.mem_of_getElem? hb)
    rfl
theorem fresh_close {w : World} {L : List HP} {d b0 b1 : Nat} {v : Value} {l : List Sec} (hl : l.length ≤ 96) (h32 : ∀ s ∈ l, s.length = 32) (hO : Own w (pts d (.cells #[v, .map (some b0), .map (some b1)] 101) :: mapP b1 [] :: mapP b0 [] :: owns 47 32 v l.length (secs l) :: L)) : Own w (diskP d (fresh l) :: L) := by
  refine disk_open.2 ⟨v, b0, b1, [], [], _, fresh_ok hl h32, ?_⟩
  rw [fresh_s, List.length_map]
  have hO2 := rdV_cons (l := []) (v := .slice none 0 0) (ss := []) (rdA_nil (size := 32) (rdV_nil hO))
  exact own_perm hO2 ((List.Perm.swap _ _ _).trans (List.Perm.cons _ ((List.reverse_perm [_, _, _, _]).symm.append_right L)))
theorem load_no (A : Option Addr) (n c : Nat) (hO : Own w L) (h : n = 0 ∨ 96 < n) : Calls Try.prog 33 #[.slice A n c] w (Ret w (.pointer none) L) := by
  rcases h with rfl | h
  · go_enter Try.func33, Try.ntmps33
    go_wp2
    go_ret
    exact ⟨rfl, hO, Same.refl _⟩
  · have h1 : (96 : Int) < n := by omega
    have h2 : ((n : Int) == 0) = false := by rw [beq_eq_false_iff_ne]; omega
    clear h
    go_enter Try.func33, Try.ntmps33
    go_wp2
    go_ret
    exact ⟨rfl, hO, Same.refl _⟩
theorem load_ok (v : Value) (l : List Sec) (hO : Own w L) (hr : ∀ w', Own w' L → Rd w' 32 v l.length (secs l)) (h0 : 0 < l.length) (hl : l.length ≤ 96) (h32 : ∀ s ∈ l, s.length = 32) :
    Calls Try.prog 33 #[v] w (RetX w (fun d : Nat => .pointer (some ⟨d, 0, none⟩)) (fun d => diskP d (fresh l) :: L)) := by
  obtain ⟨A, c, rfl⟩ := (hr w hO).slice
  obtain ⟨ad, rfl⟩ := (hr w hO).addr (by rw [secs_length h32]; omega)
  have HR := Lib.hid hr
  have HL := Lib.hid hl
  have H32 := Lib.hid h32
  have hS := Same.refl w
  have h1 : ¬ ((96 : Int) < l.length) := by omega
  have h2 : ((l.length : Int) == 0) = false := by rw [beq_eq_false_iff_ne]; omega
  clear hr h0 hl h32
  go_enter Try.func33, Try.ntmps33
  go_upto_region 3 with fail
  go_wp2_with (first | (go_at_call 69; (with_reducible refine Calls.mono (clone_c _ _ ad l.length c (secs l) hO HR.out secs_one (by have := HL.out; omega)) ?_); clear hO; rintro e u ⟨v, rfl, hO, hSn⟩; replace hS := hS.trans hSn; clear hSn; obtain ⟨Av, cv, rfl⟩ := (owns_rd hO).slice) | (refine own_mkmap rfl rfl hO ?_; clear hO; intro b1 u hO hSn; replace hS := hS.trans hSn; clear hSn) | (refine own_box_agg (x := .tmp 15) rfl rfl rfl hO ?_; clear hO; intro d u hO hSn; replace hS := hS.trans hSn; clear hSn))
  go_ret
  refine ⟨d, rfl, ?_, hS⟩
  exact fresh_close HL.out H32.out hO
/-- Zero sectors. -/
theorem secs_zero (n : Nat) : secs (List.replicate n sec0) = List.replicate (n * 32) (.int .u8 0) := by
  induction n with
  | zero => simp [secs]
  | succ n ih =>
    rw [List.replicate_succ]
    have e : secs (sec0 :: List.replicate n sec0) = bcs sec0 ++ secs (List.replicate n sec0) := rfl
    rw [e, ih, show (n + 1) * 32 = 32 + n * 32 by omega, ← List.replicate_append_replicate]
    rfl
theorem made_secs (n : Nat) : madeCells (Value.agg (Array.replicate 32 (Value.int .u8 0))).cells (n * 32) = (List.replicate (n * 32) (Value.int .u8 0)).toArray := by
  apply Array.ext'
  simp only [madeCells, Array.toList_map, Array.toList_range]
  rw [List.eq_replicate_iff]
  refine ⟨by simp, fun b hb => ?_⟩
  obtain ⟨i, _, rfl⟩ := List.mem_map.1 hb
  have : i % 32 < 32 := Nat.mod_lt _ (by decide)
  simp [Value.cells]
  try (rw [getElem!_pos _ _ (by simpa using this)]; simp)
theorem new_no (n : Int) (hO : Own w L) (h : n < 1 ∨ 96 < n) : Calls Try.prog 7 #[.int .i64 n] w (Ret w (.pointer none) L) := by
  by_cases h1 : n < 1
  · clear h
    go_enter Try.func7, Try.ntmps7
    go_wp2
    go_ret
    exact ⟨rfl, hO, Same.refl _⟩
  · have h2 : 96 < n := by omega
    clear h
    go_enter Try.func7, Try.ntmps7
    go_wp2
    go_ret
    exact ⟨rfl, hO, Same.refl _⟩
theorem made_rd {w : World} {L : List HP} {g n : Nat} (hn : n ≤ 96) (h : Own w (pts g (.cells (List.replicate (n * 32) (Value.int .u8 0)).toArray 47) :: L)) : Rd w 32 (.slice (some ⟨g, 0, none⟩) n n) (List.replicate n sec0).length (secs (List.replicate n sec0)) := by
  rw [List.length_replicate]
  exact rd_block (own_pts h) (by rw [secs_zero]; simp) (by simp) (Nat.le_refl _) (by omega)
theorem new_ok (n : Nat) (hO : Own w L) (h0 : 0 < n) (h : n ≤ 96) : Calls Try.prog 7 #[.int .i64 n] w (RetX w (fun d : Nat => .pointer (some ⟨d, 0, none⟩)) (fun d => diskP d (fresh (List.replicate n sec0)) :: L)) := by
  have h1 : ¬ ((n : Int) < 1) := by omega
  have h2 : ¬ (96 < (n : Int)) := by omega
  have H0 := Lib.hid h0
  have HN := Lib.hid h
  have hS := Same.refl w
  clear h0 h
  go_enter Try.func7, Try.ntmps7
  go_wp2_with (first | (at_make; refine own_make (n := n) rfl rfl rfl rfl Try.underlying69 info_sec3 (by have := HN.out; omega) (by have := HN.out; omega) (made_secs n) hO ?_; clear hO; intro g u hO hSn; replace hS := hS.trans hSn; clear hSn) | (go_at_call 33; (with_reducible refine Calls.mono (load_ok _ _ (.slice (some ⟨g, 0, none⟩) n n) (List.replicate n sec0) hO (fun w' h => made_rd HN.out h) (by simpa using H0.out) (by simpa using HN.out) (fun s hs => by rw [List.eq_of_mem_replicate hs]; simp)) ?_); clear hO; rintro e u ⟨d, rfl, hO, hSn⟩; replace hS := hS.trans hSn; clear hSn))
  go_ret
  exact ⟨d, rfl, own_perm (own_drop (own_perm hO (List.Perm.swap _ _ _))) (List.Perm.refl _), hS⟩
end
end Go.Proofs.Ytonohjhmnlfakaa.H
set_option linter.unusedVariables false
set_option linter.unusedSimpArgs false
namespace Go.Proofs.Ytonohjhmnlfakaa.H
open Go.RowKit
/-- What lasts of a block where v is picked. -/
def sett (v : Int) (b : Blk) : Sec := if 1 ≤ v ∧ v ≤ (b.vs.length : Int) then (b.vs[(v - 1).toNat]?).getD b.s else b.s
/-- The blocks that have versions, from o on. -/
def idxs : Nat → List Blk → List Nat
  | _, [] => []
  | o, b :: r => if b.vs = [] then idxs (o + 1) r else o :: idxs (o + 1) r
/-- Behind k of them: pk: what is picked. -/
def stK (pk : Nat → Nat → Int) : Nat → List Blk → Nat → List Blk
  | _, [], _ => []
  | k0, b :: r, k => if b.vs = [] then b :: stK pk k0 r k else match k with
    | 0 => b :: r
    | k + 1 => ⟨sett (pk k0 b.vs.length) b, [], b.bad⟩ :: stK pk (k0 + 1) r k
/-- Behind all of them. -/
def crashL (pk : Nat → Nat → Int) : Nat → List Blk → List Blk
  | _, [] => []
  | k0, b :: r => if b.vs = [] then b :: crashL pk k0 r else ⟨sett (pk k0 b.vs.length) b, [], b.bad⟩ :: crashL pk (k0 + 1) r
section
variable (pk : Nat → Nat → Int)
theorem stK_zero : ∀ (r : List Blk) (k0 : Nat), stK pk k0 r 0 = r
  | [], _ => rfl
  | b :: r, k0 => by
    unfold stK
    split
    · rw [stK_zero r k0]
    · rfl
theorem stK_all : ∀ (r : List Blk) (o k0 : Nat), stK pk k0 r (idxs o r).length = crashL pk k0 r
  | [], _, _ => rfl
  | b :: r, o, k0 => by
    unfold idxs crashL stK
    by_cases h : b.vs = []
    · rw [if_pos h, if_pos h, if_pos h, stK_all r (o + 1) k0]
    · rw [if_neg h, if_neg h, if_neg h, List.length_cons]
      show _ :: stK pk (k0 + 1) r (idxs (o + 1) r).length = _
      rw [stK_all r (o + 1) (k0 + 1)]
theorem stK_step : ∀ (r : List Blk) (o k0 k x : Nat), (idxs o r)[k]? = some x → ∃ i b, x = o + i ∧ r[i]? = some b ∧ b.vs ≠ [] ∧ (stK pk k0 r k)[i]? = some b ∧ stK pk k0 r (k + 1) = (stK pk k0 r k).set i ⟨sett (pk (k0 + k) b.vs.length) b, [], b.bad⟩
  | [], _, _, _, _, h => by simp [idxs] at h
  | b :: r, o, k0, k, x, h => by
    unfold idxs at h
    by_cases hb : b.vs = []
    · rw [if_pos hb] at h
      obtain ⟨i, c, e, h1, h2, h3, h4⟩ := stK_step r (o + 1) k0 k x h
      refine ⟨i + 1, c, by omega, by simpa using h1, h2, ?_, ?_⟩
      · unfold stK; rw [if_pos hb]; simpa using h3
      · unfold stK; rw [if_pos hb, if_pos hb, h4]; rfl
    · rw [if_neg hb] at h
      cases k with
      | zero =>
        have e : o = x := by simpa using h
        refine ⟨0, b, by omega, rfl, hb, ?_, ?_⟩
        · unfold stK; rw [if_neg hb]; rfl
        · unfold stK
          rw [if_neg hb, if_neg hb]
          show _ :: stK pk (k0 + 1) r 0 = _
          rw [stK_zero]
          rfl
      | succ k =>
        obtain ⟨i, c, e, h1, h2, h3, h4⟩ := stK_step r (o + 1) (k0 + 1) k x (by simpa using h)
        refine ⟨i + 1, c, by omega, by simpa using h1, h2, ?_, ?_⟩
        · unfold stK; rw [if_neg hb]; simpa using h3
        · unfold stK
          rw [if_neg hb, if_neg hb]
          show _ :: stK pk (k0 + 1) r (k + 1) = _
          rw [h4, show k0 + 1 + k = k0 + (k + 1) by omega]
          rfl
end
theorem idxs_mem : ∀ (r : List Blk) (o x : Nat), x ∈ idxs o r ↔ ∃ i b, x = o + i ∧ r[i]? = some b ∧ b.vs ≠ []
  | [], o, x => by simp [idxs]
  | b :: r, o, x => by
    have ih := idxs_mem r (o + 1) x
    unfold idxs
    by_cases hb : b.vs = []
    · rw [if_pos hb, ih]
      constructor
      · rintro ⟨i, c, e, h1, h2⟩; exact ⟨i + 1, c, by omega, by simpa using h1, h2⟩
      · rintro ⟨i, c, e, h1, h2⟩
        cases i with
        | zero => have : b = c := by simpa using h1
                  subst this; exact absurd hb h2
        | succ i => exact ⟨i, c, by omega, by simpa using h1, h2⟩
    · rw [if_neg hb, List.mem_cons, ih]
      constructor
      · rintro (rfl | ⟨i, c, e, h1, h2⟩)
        · exact ⟨0, b, rfl, rfl, hb⟩
        · exact ⟨i + 1, c, by omega, by simpa using h1, h2⟩
      · rintro ⟨i, c, e, h1, h2⟩
        cases i with
        | zero => exact .inl (by omega)
        | succ i => exact .inr ⟨i, c, by omega, by simpa using h1, h2⟩
theorem idxs_asc : ∀ (r : List Blk) (o : Nat), (idxs o r).Pairwise (· < ·)
  | [], _ => by simp [idxs]
  | b :: r, o => by
    unfold idxs
    split
    · exact idxs_asc r (o + 1)
    · refine List.pairwise_cons.2 ⟨fun x hx => ?_, idxs_asc r (o + 1)⟩
      obtain ⟨i, c, e, _⟩ := (idxs_mem r (o + 1) x).1 hx
      omega
theorem idxs_len (r : List Blk) : ∀ o, (idxs o r).length ≤ r.length := by
  induction r with
  | nil => intro o; simp [idxs]
  | cons b r ih =>
    intro o
    unfold idxs
    have := ih (o + 1)
    split <;> simp <;> omega
/-- The keys of a disk's map, rising. -/
theorem rising_keys {m : List Blk} {fv fb : List (Int × Value)} {l : List (Value × List Sec)} (hk : DiskOk m fv fb l) (hn : (fv.map (·.1)).Nodup) : rising (fv.map (·.1)) = (idxs 0 m).map fun i : Nat => (i : Int) := by
  have hp : (fv.map (·.1)).Perm ((idxs 0 m).map fun i : Nat => (i : Int)) := by
    refine (List.perm_ext_iff_of_nodup hn ?_).2 fun x => ?_
    · exact List.pairwise_map.2 ((idxs_asc m 0).imp fun h => by omega)
    · constructor
      · intro hx
        obtain ⟨q, hq, rfl⟩ := List.mem_map.1 hx
        obtain ⟨i, b, h1, h2, h3⟩ := hk.keyv q hq
        exact List.mem_map.2 ⟨i, (idxs_mem m 0 i).2 ⟨i, b, by omega, h1, h3⟩, h2.symm⟩
      · intro hx
        obtain ⟨i, hi, rfl⟩ := List.mem_map.1 hx
        obtain ⟨j, b, e, h1, h2⟩ := (idxs_mem m 0 i).1 hi
        have : j = i := by omega
        subst this
        obtain ⟨A, c, h3, _⟩ := hk.vers j b h1
        rcases map_cases fv (j : Int) with ⟨t, v, ht⟩ | hno
        · exact List.mem_map.2 ⟨_, List.mem_of_getElem? ht, rfl⟩
        · rw [mget_none hno] at h3
          simp only [Option.getD_none] at h3
          injection h3 with _ h4 _
          exact absurd (List.length_eq_zero_iff.1 h4.symm) h2
  rw [rising_perm hp]
  unfold rising
  refine List.mergeSort_of_pairwise ?_
  exact List.pairwise_map.2 ((idxs_asc m 0).imp fun h => by simp; omega)
theorem DiskOk.settle {m : List Blk} {fv fb : List (Int × Value)} {l : List (Value × List Sec)} (hk : DiskOk m fv fb l) {i : Nat} {b : Blk} (hi : m[i]? = some b) {s : Sec} (hs : s.length = 32) (h0 : (.slice Option.none 0 0, []) ∈ l) :
    DiskOk (m.set i ⟨s, [], b.bad⟩) (mdel fv i) fb l where
  len := by rw [List.length_set]; exact hk.len
  s32 := fun x hx => by
    rcases List.mem_or_eq_of_mem_set hx with hx | rfl
    · exact hk.s32 x hx
    · exact hs
  v32 := fun x hx y hy => by
    rcases List.mem_or_eq_of_mem_set hx with hx | rfl
    · exact hk.v32 x hx y hy
    · simp at hy
  keyv := fun q hq => by
    obtain ⟨hq, hne⟩ := mem_mdel hq
    obtain ⟨j, x, h1, h2, h3⟩ := hk.keyv q hq
    exact ⟨j, x, by rw [List.getElem?_set, if_neg (fun h => hne (by omega))]; exact h1, h2, h3⟩
  vers := fun j x hx => by
    rcases set_at hx with ⟨rfl, rfl⟩ | ⟨hne, hx⟩
    · exact ⟨Option.none, 0, by rw [mget_mdel, if_pos rfl]; rfl, h0⟩
    · obtain ⟨A', c', h1, h2⟩ := hk.vers j x hx
      exact ⟨A', c', by rw [mget_mdel, if_neg (by omega)]; exact h1, h2⟩
  keyb := fun q hq => by rw [List.length_set]; exact hk.keyb q hq
  bads := fun j x hx => by
    rcases set_at hx with ⟨rfl, rfl⟩ | ⟨hne, hx⟩
    · exact hk.bads j b hi
    · exact hk.bads j x hx
theorem sett_len {m : List Blk} {fv fb : List (Int × Value)} {l : List (Value × List Sec)} (hk : DiskOk m fv fb l) {i : Nat} {b : Blk} (hi : m[i]? = some b) (v : Int) : (sett v b).length = 32 := by
  have h1 := hk.s32 b (List.mem_of_getElem? hi)
  unfold sett
  split
  · cases h : b.vs[(v - 1).toNat]? with
    | none => exact h1
    | some s => exact hk.v32 b (List.mem_of_getElem? hi) s (List.mem_of_getElem? h)
  · exact h1
end Go.Proofs.Ytonohjhmnlfakaa.H
set_option linter.unusedVariables false
set_option linter.unusedSimpArgs false
set_option maxRecDepth 100000
namespace Go.Proofs.Ytonohjhmnlfakaa.H
open Go.RowKit
theorem u8_plain : Try.prog.plainKey 5 = true := by kernel_rfl
theorem u8_und : Try.prog.underlying 5 = some (.int .u8) := by kernel_rfl
theorem u8_cells : Try.prog.cellsOf 5 = 1 := by kernel_rfl
theorem eq_u8 (w : World) (d : Nat) (x y : UInt8) : (Op.equalIn (d + 1) 5 (.int .u8 (x.toNat : Int)) (.int .u8 (y.toNat : Int))).run Try.prog w = .ok (x == y) w := by
  have e : ((x.toNat : Int) == (y.toNat : Int)) = (x == y) := by
    rw [Bool.eq_iff_iff]
    simp only [beq_iff_eq]
    constructor
    · intro h; exact UInt8.toNat_inj.1 (by omega)
    · rintro rfl; rfl
  simp [Op.equalIn, run_underlying u8_und]
  try exact e
theorem eq_items (w : World) (d : Nat) (a b : Sec) : ∀ is : List Nat, (∀ i ∈ is, i < a.length ∧ i < b.length) → (Op.eqItems (d + 1) 5 (Try.prog.cellsOf 5) (bcs a).toArray (bcs b).toArray is).run Try.prog w = .ok (is.all fun i => a[i]? == b[i]?) w
  | [], _ => by simp [Op.eqItems]
  | i :: is, h => by
    obtain ⟨h1, h2⟩ := h i (List.mem_cons_self ..)
    have p1 : (part 5 (bcs a).toArray (i * Try.prog.cellsOf 5)).run Try.prog w = .ok (.int .u8 ((a[i]).toNat : Int)) w := run_part_plain w u8_plain (by rw [u8_cells, Nat.mul_one]; simp [bcs, h1])
    have p2 : (part 5 (bcs b).toArray (i * Try.prog.cellsOf 5)).run Try.prog w = .ok (.int .u8 ((b[i]).toNat : Int)) w := run_part_plain w u8_plain (by rw [u8_cells, Nat.mul_one]; simp [bcs, h2])
    have ih := eq_items w d a b is (fun j hj => h j (List.mem_cons_of_mem _ hj))
    simp only [Op.eqItems, Sem.run_bind, p1, p2, eq_u8, Result.andThen_ok]
    have e : (a[i]? == b[i]?) = (a[i] == b[i]) := by rw [List.getElem?_eq_getElem h1, List.getElem?_eq_getElem h2]; rfl
    rw [List.all_cons, e]
    cases hc : (a[i] == b[i]) with
    | false => simp
    | true => simpa using ih
theorem eq_sec (w : World) {T : TypeId} {i : TypeInfo} {n : Nat} (hT : Try.prog.underlying T = some (.array 32 5)) (hi : Try.prog.info? 5 = some i) (d : Nat) {a b : Sec} (ha : a.length = 32) (hb : b.length = 32) : (Op.equalIn (d + 1 + 1) T (secV a) (secV b)).run Try.prog w = .ok (decide (a = b)) w := by
  rw [run_equalIn_array w (d + 1) _ _ hT hi, eq_items w d a b (List.range 32) (fun i hi => by rw [ha, hb]; have := List.mem_range.1 hi; omega)]
  congr 1
  rw [Bool.eq_iff_iff]
  simp only [List.all_eq_true, List.mem_range, beq_iff_eq, decide_eq_true_eq]
  constructor
  · intro h
    refine List.ext_getElem? (fun j => ?_)
    by_cases hj : j < 32
    · exact h j hj
    · rw [List.getElem?_eq_none (by omega), List.getElem?_eq_none (by omega)]
  · rintro rfl; intros; rfl
theorem u8_info : ∃ i, Try.prog.info? 5 = some i := Option.isSome_iff_exists.1 (by kernel_rfl)
theorem neq_sec (w : World) {T : TypeId} (hT : Try.prog.underlying T = some (.array 32 5)) {a b : Sec} (ha : a.length = 32) (hb : b.length = 32) : (binOp .neq T (secV a) (secV b)).run Try.prog w = .ok (.bool (!decide (a = b))) w := by
  obtain ⟨i, hi⟩ := u8_info
  have h := eq_sec w (n := 0) hT hi 9998 ha hb
  simp only [binOp, Op.equal, Op.maxDepth]
  simp [h]
theorem eql_sec (w : World) {T : TypeId} (hT : Try.prog.underlying T = some (.array 32 5)) {a b : Sec} (ha : a.length = 32) (hb : b.length = 32) : (binOp .eql T (secV a) (secV b)).run Try.prog w = .ok (.bool (decide (a = b))) w := by
  obtain ⟨i, hi⟩ := u8_info
  have h := eq_sec w (n := 0) hT hi 9998 ha hb
  simp only [binOp, Op.equal, Op.maxDepth]
  simp [h]
theorem und_sec : Try.prog.underlying 47 = some (.array 32 5) := by kernel_rfl
end Go.Proofs.Ytonohjhmnlfakaa.H
