/- The reference's may. The reference's with, Bytes, Base, Roll. Regions of open order, any order: what holds is told by which operations are done, and by ghosts. -/
import Derived.Test.YtdcbfdepkbplbaaZ15
import Derived.Test.YtdcbfdepkbplbaaZ10
import Derived.Test.YtdcbfdepkbplbaaZ11
import Derived.Test.YtdcbfdepkbplbaaZ14
set_option linter.unusedVariables false
set_option linter.unusedSimpArgs false
set_option maxRecDepth 100000
namespace Go.Proofs.Ytdcbfdepkbplbaa.H
open Go.RowKit
theorem meet_sym (p q : Pat) : meetB p q = meetB q p := by unfold meetB; rw [Bool.and_comm]
theorem numV_length (l : List Nat) : (numV l).length = l.length := List.length_map ..
theorem rdV_cell {w : World} {ad : Addr} {c k : Nat} {l : List Nat} {x : Nat} (h : Rd w 1 (.slice (some ad) l.length c) l.length (numV l)) (hx : l[k]? = some x) : w.cell? (ad.add k) = some (.int .i64 x) := by
  have h1 : w.cell? ((ad.add (k * 1)).add 0) = some (.int .i64 x) := h.cell (by rw [Nat.mul_one, Nat.add_zero]; unfold numV; rw [List.getElem?_map, hx]; rfl)
  rwa [addr_add, Nat.mul_one, Nat.add_zero] at h1
theorem busy_needs {l : List On} {s : List Int} (hasc : l.Pairwise fun a b => a.n < b.n) :
    BusyL l s ↔ ∃ o ∈ l, s.contains (o.n : Int) = true ∧ ∃ n ∈ needsM l o, s.contains (n : Int) = false := by
  have hp := List.pairwise_iff_getElem.1 hasc
  constructor
  · rintro ⟨i, k, hki, c, d, hc, hd, h1, h2, h3⟩
    refine ⟨c, List.mem_of_getElem? hc, h1, d.n, ?_, h2⟩
    unfold needsM
    refine List.mem_map.2 ⟨d, List.mem_filter.2 ⟨List.mem_of_getElem? hd, ?_⟩, rfl⟩
    obtain ⟨a1, a2⟩ := List.getElem?_eq_some_iff.1 hc
    obtain ⟨b1, b2⟩ := List.getElem?_eq_some_iff.1 hd
    have := hp k i b1 a1 hki
    rw [a2, b2] at this
    simp [needF, this, meet_sym d.p c.p, h3]
  · rintro ⟨c, hc, h1, n, hn, h2⟩
    obtain ⟨d, hd, rfl⟩ := List.mem_map.1 hn
    obtain ⟨hd2, hf⟩ := List.mem_filter.1 hd
    simp only [needF, Bool.and_eq_true, decide_eq_true_eq] at hf
    obtain ⟨i, hi, rfl⟩ := List.mem_iff_getElem.1 hc
    obtain ⟨k, hk, rfl⟩ := List.mem_iff_getElem.1 hd2
    refine ⟨i, k, ?_, _, _, List.getElem?_eq_getElem hi, List.getElem?_eq_getElem hk, h1, h2, by rw [meet_sym]; exact hf.2⟩
    rcases Nat.lt_trichotomy i k with h | h | h
    · have := hp i k hi hk h; omega
    · subst h; omega
    · exact h
/-- What may hands back. -/
def MayPost (l : List On) (s : List Int) (w : World) (L : List HP) (e : Ending) (w' : World) : Prop :=
  (OutL l s ∧ Ret w (.int .i64 2) L e w') ∨ (¬ OutL l s ∧ BusyL l s ∧ Ret w (.int .i64 12) L e w') ∨ (¬ OutL l s ∧ ¬ BusyL l s ∧ Ret w (.int .i64 0) L e w')
section
variable (w : World) (L : List HP) (q : Nat) (vb vl : Value) (m : Stk)
theorem rneeds_no (n : Int) (hO : Own w L) (hr : ∀ w', Own w' L → RAt w' q vb vl m) (hk : m.Ok) (hno : ∀ o ∈ m.l, (o.n : Int) ≠ n) :
    Calls Try.prog 48 #[.pointer (some ⟨q, 0, none⟩), .int .i64 n] w (Ret w (.slice none 0 0) L) := by
  have HR := Lib.hid hr
  have HK := Lib.hid hk
  have HNO := Lib.hid hno
  clear hr hk hno
  go_enter Try.func48, Try.ntmps48
  go_wp2_with (first | (go_at_call 46; refine (rget_no _ _ q vb _ m n hO HR.out HK.out HNO.out).mono ?_; clear hO; rintro e w1 ⟨rfl, hO, hS1⟩) | (refine own_alloc (T := 33) rfl rfl zero_pat rfl hO ?_; clear hO; intro g w2 hO hS2) | (refine own_store_all (k := 0) (vs := #[.int .i64 0, .int .i64 0, .string ⟨#[]⟩]) rfl rfl rfl rfl sz_pat hO rfl rfl rfl rfl ?_; clear hO; intro w3 hO hS3; simp only [List.set_cons_zero] at hO))
  go_loopw [5, 8] (fun v i' wr => v = .slice none 0 0 ∧ i' = .int .i64 0 ∧ Own wr (pts g (.cells #[.int .i64 0, .int .i64 0, .string ⟨#[]⟩] 33) :: L) ∧ Same w wr) (fun _ i' _ => 0)
  case atStart => exact ⟨rfl, rfl, hO, hS1.trans (hS2.trans hS3)⟩
  case round =>
    clear hO hS1 hS2 hS3
    obtain ⟨rfl, rfl, hO, hS⟩ := hrel
    go_wp2
    go_ret
    exact ⟨rfl, own_drop hO, hS⟩
set_option maxHeartbeats 1600000 in
theorem rmay_c (sv : Value) (l : List Int) (hO : Own w L) (hr : ∀ w', Own w' L → RAt w' q vb vl m) (hk : m.Ok) (hs : ∀ w', Own w' L → Rd w' 1 sv l.length (ints l)) :
    Calls Try.prog 51 #[.pointer (some ⟨q, 0, none⟩), sv] w (MayPost m.l l w L) := by
  have HR := Lib.hid hr
  have HK := Lib.hid hk
  have HS := Lib.hid hs
  obtain ⟨B, bcap, rfl⟩ := (hs w hO).slice
  have hmb := (hs w hO).max
  clear hr hk hs
  go_enter Try.func51, Try.ntmps51
  go_wp2
  go_loopw [5] (fun i' wr => ∃ k : Nat, k ≤ l.length ∧ i' = .int .i64 k ∧ (∀ x ∈ l.take k, ∃ o ∈ m.l, (o.n : Int) = x) ∧ Own wr L ∧ Same w wr) (fun i' _ => l.length - (intOf i').toNat)
  case atStart => exact ⟨0, Nat.zero_le _, rfl, by simp, hO, Same.refl _⟩
  case round =>
    clear hO
    obtain ⟨k, hk, rfl, hon, hO, hS⟩ := hrel
    have HON := Lib.hid hon
    clear hon
    by_cases hlt : k < l.length
    · obtain ⟨x, hx⟩ : ∃ x, l[k]? = some x := ⟨_, List.getElem?_eq_getElem hlt⟩
      obtain ⟨ad, rfl⟩ := (HS.out _ hO).addr (by unfold ints; rw [List.length_map]; omega)
      have hcell := rdI_cell (HS.out _ hO) hx
      have hm1 : (k : Int) < l.length := by omega
      have HX := Lib.hid hx
      clear hx
      by_cases hin : ∃ (i : Nat) (o : On), m.l[i]? = some o ∧ (o.n : Int) = x
      · obtain ⟨i, o, ho, hox⟩ := hin
        subst hox
        have HI := Lib.hid ho
        clear ho
        go_wp2_with (first | (go_at_call 46; refine (rget_yes _ _ q vb _ m i o hO HR.out HK.out HI.out).mono ?_; clear hO hcell; rintro e w1 ⟨rfl, hO, hS1⟩) | (refine own_alloc (T := 33) rfl rfl zero_pat rfl hO ?_; clear hO; intro g w2 hO hS2) | (refine own_store_all (k := 0) (vs := #[.int .i64 o.p.blk, .int .i64 o.p.off, .string o.p.dat]) rfl rfl rfl rfl sz_pat hO rfl rfl rfl rfl ?_; clear hO; intro w3 hO hS3; simp only [List.set_cons_zero] at hO))
        go_roundw
        case rel =>
          refine ⟨k + 1, by omega, by go_num, fun y hy => ?_, own_drop hO, hS.trans (hS1.trans (hS2.trans hS3))⟩
          rw [List.take_add_one, HX.out] at hy
          rcases List.mem_append.1 hy with h | h
          · exact HON.out y h
          · simp at h; rw [h]; exact ⟨o, List.mem_of_getElem? HI.out, rfl⟩
        case measure => simp [intOf]; omega
      · have HNO : Hid (∀ o ∈ m.l, (o.n : Int) ≠ x) := fun o ho he => by
          obtain ⟨i, hi⟩ := List.getElem?_of_mem ho
          exact hin ⟨i, o, hi, he⟩
        clear hin
        go_wp2_with (first | (go_at_call 46; refine (rget_no _ _ q vb _ m x hO HR.out HK.out HNO.out).mono ?_; clear hO hcell; rintro e w1 ⟨rfl, hO, hS1⟩) | (refine own_alloc (T := 33) rfl rfl zero_pat rfl hO ?_; clear hO; intro g w2 hO hS2) | (refine own_store_all (k := 0) (vs := #[.int .i64 0, .int .i64 0, .string ⟨#[]⟩]) rfl rfl rfl rfl sz_pat hO rfl rfl rfl rfl ?_; clear hO; intro w3 hO hS3; simp only [List.set_cons_zero] at hO))
        go_ret
        exact .inl ⟨⟨x, List.mem_of_getElem? HX.out, HNO.out⟩, rfl, own_drop hO, hS.trans (hS1.trans (hS2.trans hS3))⟩
    · have hke : k = l.length := by omega
      subst hke
      have HNOUT : Hid (¬ OutL m.l l) := by
        rintro ⟨x, hx, hno⟩
        have := HON.out
        rw [List.take_length] at this
        obtain ⟨o, ho, he⟩ := this x hx
        exact hno o ho he
      clear hlt hk
      go_wp2
      go_loopw [8] (fun i' wr => ∃ k : Nat, k ≤ l.length ∧ i' = .int .i64 k ∧ (∀ x ∈ l.take k, ∀ o ∈ m.l, (o.n : Int) = x → ∀ n ∈ needsM m.l o, l.contains (n : Int) = true) ∧ Own wr L ∧ Same w wr) (fun i' _ => l.length - (intOf i').toNat)
      case atStart => exact ⟨0, Nat.zero_le _, rfl, by simp, hO, hS⟩
      case round =>
        clear hO hS
        obtain ⟨k, hk, rfl, hon, hO, hS⟩ := hrel
        have HNB := Lib.hid hon
        clear hon
        by_cases hlt : k < l.length
        · obtain ⟨x, hx⟩ : ∃ x, l[k]? = some x := ⟨_, List.getElem?_eq_getElem hlt⟩
          obtain ⟨ad, rfl⟩ := (HS.out _ hO).addr (by unfold ints; rw [List.length_map]; omega)
          have hcell := rdI_cell (HS.out _ hO) hx
          have hm1 : (k : Int) < l.length := by omega
          have HX := Lib.hid hx
          clear hx
          obtain ⟨i, o, ho, hox⟩ : ∃ (i : Nat) (o : On), m.l[i]? = some o ∧ (o.n : Int) = x := by
            have := HON.out
            rw [List.take_length] at this
            obtain ⟨o, ho, he⟩ := this x (List.mem_of_getElem? HX.out)
            obtain ⟨i, hi⟩ := List.getElem?_of_mem ho
            exact ⟨i, o, hi, he⟩
          subst hox
          have HI := Lib.hid ho
          clear ho
          go_upto_region 13 with (first | (go_at_call 48; refine (rneeds_yes _ _ q vb _ m i o hO HR.out HK.out HI.out).mono ?_; clear hO hcell; rintro e w1 ⟨nv, rfl, hO, hS1⟩))
          obtain ⟨C, ccap, rfl⟩ := (owns_rd hO).slice
          obtain ⟨ns, hns⟩ : ∃ ns, needsM m.l o = ns := ⟨_, rfl⟩
          have HNS := Lib.hid hns
          rw [hns] at hO
          have hnl : ns.length ≤ 200 := by rw [← hns]; unfold needsM; rw [List.length_map]; exact Nat.le_trans (List.length_filter_le _ _) HK.out.len
          rw [hns]
          clear hns
          go_wp2
          go_loopw [10] (fun i' wr => ∃ j : Nat, j ≤ ns.length ∧ i' = .int .i64 j ∧ (∀ n ∈ ns.take j, l.contains (n : Int) = true) ∧ Own wr (owns 3 1 (.slice C ns.length ccap) ns.length (numV ns) :: L) ∧ Same w wr) (fun i' _ => ns.length - (intOf i').toNat)
          case atStart => exact ⟨0, Nat.zero_le _, rfl, by simp, hO, hS.trans hS1⟩
          case round =>
            clear hO hS hS1
            obtain ⟨j, hj, rfl, hon, hO, hS⟩ := hrel
            have HNC := Lib.hid hon
            clear hon
            by_cases hjl : j < ns.length
            · obtain ⟨y, hy⟩ : ∃ y, ns[j]? = some y := ⟨_, List.getElem?_eq_getElem hjl⟩
              obtain ⟨ae, rfl⟩ := (owns_rd hO).addr (by rw [numV_length]; omega)
              have hcell := rdV_cell (owns_rd hO) hy
              have hm2 : (j : Int) < ns.length := by omega
              have HY := Lib.hid hy
              clear hy
              cases hc : l.contains (y : Int) with
              | true =>
                have HC := Lib.hid hc
                go_wp2_with (go_at_call 67; have hq := rhas_c _ _ _ l (y : Int) hO (fun w' h => HS.out w' (own_drop h)); rw [HC.out] at hq; refine hq.mono ?_; clear hq hO hcell hc; rintro e w2 ⟨rfl, hO, hS2⟩)
                go_roundw
                case rel =>
                  refine ⟨j + 1, by omega, by go_num, fun z hz => ?_, hO, hS.trans hS2⟩
                  rw [List.take_add_one, HY.out] at hz
                  rcases List.mem_append.1 hz with h | h
                  · exact HNC.out z h
                  · simp at h; rw [h]; exact HC.out
                case measure => simp [intOf]; omega
              | false =>
                have HC := Lib.hid hc
                go_wp2_with (go_at_call 67; have hq := rhas_c _ _ _ l (y : Int) hO (fun w' h => HS.out w' (own_drop h)); rw [HC.out] at hq; refine hq.mono ?_; clear hq hO hcell hc; rintro e w2 ⟨rfl, hO, hS2⟩)
                go_ret
                refine .inr (.inl ⟨HNOUT.out, (busy_needs HK.out.asc).2 ⟨o, List.mem_of_getElem? HI.out, ?_, y, ?_, HC.out⟩, rfl, own_drop hO, hS.trans hS2⟩)
                · simpa using List.mem_of_getElem? HX.out
                · rw [HNS.out]; exact List.mem_of_getElem? HY.out
            · have hje : j = ns.length := by omega
              subst hje
              go_wp2
              go_roundw
              case rel =>
                refine ⟨k + 1, by omega, by go_num, fun z hz o' ho' he n hn => ?_, own_drop hO, hS⟩
                rw [List.take_add_one, HX.out] at hz
                rcases List.mem_append.1 hz with h | h
                · exact HNB.out z h o' ho' he n hn
                · simp at h
                  subst h
                  obtain ⟨i', hi'⟩ := List.getElem?_of_mem ho'
                  obtain ⟨_, rfl⟩ := asc_at HK.out.asc HI.out hi' (by omega)
                  rw [HNS.out] at hn
                  have := HNC.out
                  rw [List.take_length] at this
                  exact this n hn
              case measure => simp [intOf]; omega
        · have hke : k = l.length := by omega
          subst hke
          go_wp2
          go_ret
          refine .inr (.inr ⟨HNOUT.out, ?_, rfl, hO, hS⟩)
          rw [busy_needs HK.out.asc]
          rintro ⟨o, ho, h1, n, hn, h2⟩
          have := HNB.out
          rw [List.take_length] at this
          have h3 := this (o.n : Int) (by simpa using h1) o ho rfl n hn
          rw [h3] at h2
          cases h2
end
end Go.Proofs.Ytdcbfdepkbplbaa.H
set_option linter.unusedVariables false
set_option linter.unusedSimpArgs false
set_option maxRecDepth 100000
namespace Go.Proofs.Ytdcbfdepkbplbaa.H
open Go.RowKit
theorem sel_step {l : List On} {s : List Int} {k : Nat} {d : On} (hd : l[k]? = some d) : selL (l.take (k + 1)) s = selL (l.take k) s ++ (if s.contains (d.n : Int) then [d.p] else []) := by
  obtain ⟨h1, h2⟩ := List.getElem?_eq_some_iff.1 hd
  unfold selL
  rw [List.take_succ_eq_append_getElem h1, h2, List.filter_append, List.map_append]
  congr 1
  by_cases h : s.contains (d.n : Int) = true <;> simp only [List.filter_cons, h, List.filter_nil] <;> simp
theorem selL_right {l : List On} {s : List Int} (h : ∀ o ∈ l, rightB o.p = true) : ∀ p ∈ selL l s, rightB p = true := by
  intro p hp
  obtain ⟨o, ho, rfl⟩ := List.mem_map.1 hp
  exact h o (List.mem_filter.1 ho).1
theorem sel_all (l : List On) : selL l (l.map fun o => (o.n : Int)) = l.map On.p := by
  unfold selL
  rw [List.filter_eq_self.2]
  intro o ho
  simp only [List.contains_iff_mem]
  exact List.mem_map.2 ⟨o, ho, rfl⟩
theorem ints_on (l : List On) : (l.map fun c => Value.int .i64 c.n) = ints (l.map fun o => (o.n : Int)) := by simp [ints]
section
variable (w : World) (L : List HP) (q : Nat) (vb vl : Value) (m : Stk)
set_option maxHeartbeats 1600000 in
theorem rwith_c (sv : Value) (s : List Int) (hO : Own w L) (hr : ∀ w', Own w' L → RAt w' q vb vl m) (hk : m.Ok) (hs : ∀ w', Own w' L → Rd w' 1 sv s.length (ints s)) :
    Calls Try.prog 52 #[.pointer (some ⟨q, 0, none⟩), sv] w (RetX w (fun v => v) (fun v => owns 5 1 v 32 (bcs (appAll m.base (selL m.l s))) :: L)) := by
  have HR := Lib.hid hr
  have HK := Lib.hid hk
  have HS := Lib.hid hs
  obtain ⟨A, cap, rfl⟩ := (hr w hO).rd.slice
  have hm := (hr w hO).rd.max
  have H32 : Hid (m.base.length = 32) := hk.base
  clear hr hk hs
  go_enter Try.func52, Try.ntmps52
  go_wp2_with (first | (refine own_load1 (b := q) (off := 0) (cs := #[vb, .slice A m.l.length cap, .int .i64 m.next]) (t := 86) (v := vb) rfl rfl rfl row_bys17 (HR.out _ (own_drop hO)).blk rfl ?_) | (refine own_lit0 rfl rfl Try.underlying22 sz_u8 hO ?_; clear hO; intro g0 w3 hO hS3) | (refine own_append (m := m.base.length) (news := bcs m.base) rfl rfl rfl rfl Try.underlying22 info_u8 rfl (by decide) hO ?_ (bcs_one m.base) ?_ ?_ ?_; exact (HR.out _ (own_drop hO)).base; (rw [H32.out]; decide); (rw [H32.out]; decide); clear hO; intro v' w4 hO hS4 hv'))
  rw [Nat.zero_add, List.nil_append, H32.out] at hO
  clear hv'
  go_loopw [5, 6] (fun v i wr => ∃ k : Nat, k ≤ m.l.length ∧ i = .int .i64 k ∧ Own wr (owns 5 1 v 32 (bcs (appAll m.base (selL (m.l.take k) s))) :: L) ∧ Same w wr) (fun _ i _ => m.l.length - (intOf i).toNat)
  case atStart => exact ⟨0, Nat.zero_le _, rfl, hO, hS3.trans hS4⟩
  case round =>
    clear hO hS3 hS4
    obtain ⟨k, hk, rfl, hO, hS⟩ := hrel
    by_cases hlt : k < m.l.length
    · obtain ⟨d, hd⟩ : ∃ d, m.l[k]? = some d := ⟨_, List.getElem?_eq_getElem hlt⟩
      obtain ⟨ad, rfl, _⟩ := (HR.out _ (own_drop hO)).some hd
      obtain ⟨hc1, hc2, hc3⟩ := (HR.out _ (own_drop hO)).cell hd
      have HC3 : Hid (∀ w' S, Own w' (S :: L) → ∀ (j : Nat) (u : Value), [Value.int .i64 d.p.blk, .int .i64 d.p.off, .string d.p.dat][j]? = some u → w'.cell? (((ad.add (k * 4)).add 1).add j) = some u) := fun w' S h => ((HR.out _ (own_drop h)).cell hd).2.2
      have hm1 : (k : Int) < m.l.length := by omega
      have HRD : Hid (rightB d.p = true) := HK.out.right d (List.mem_of_getElem? hd)
      have HST := Lib.hid (sel_step (s := s) hd)
      have HAL : Hid (32 = (appAll m.base (selL (m.l.take k) s)).length) := (appAll_length _ _ H32.out (selL_right fun o ho => HK.out.right o (List.mem_of_mem_take ho))).symm
      clear hd hc3
      cases hc : s.contains (d.n : Int) with
      | true =>
        have HC := Lib.hid hc
        go_wp2_with (first | (refine own_load1 (b := q) (off := 1) (cs := #[vb, .slice (some ad) m.l.length cap, .int .i64 m.next]) (t := 86) (v := .slice (some ad) m.l.length cap) rfl rfl rfl row_ons (HR.out _ (own_drop hO)).blk rfl ?_) | (go_at_call 67; have hq := rhas_c _ _ _ s (d.n : Int) hO (fun w' h => HS.out w' (own_drop h)); rw [HC.out] at hq; refine hq.mono ?_; clear hq hO hc1 hc2 hc; rintro e w2 ⟨rfl, hO, hS2⟩; have hc1 := ((HR.out _ (own_drop hO)).cell (k := k) (o := d) (by assumption)).1) | (go_at_call 67; have hq := rhas_c _ _ _ s (d.n : Int) hO (fun w' h => HS.out w' (own_drop h)); rw [HC.out] at hq; refine hq.mono ?_; clear hq hO hc1 hc2 hc; rintro e w2 ⟨rfl, hO, hS2⟩) | (refine own_loadrow_at (ad := (ad.add (k * 4)).add 1) (vs := [.int .i64 d.p.blk, .int .i64 d.p.off, .string d.p.dat]) rfl rfl rfl row_pat sz_pat rfl (HC3.out _ _ hO) ?_) | (go_at_call 68; refine (rapply_ok _ _ _ (appAll m.base (selL (m.l.take k) s)) _ _ _ hO (fun w' h => owns_rdB HAL.out h) HAL.out.symm HRD.out).mono ?_; clear hO; rintro e w7 ⟨v2, rfl, hO, hS7⟩))
        go_roundw
        case rel =>
          refine ⟨k + 1, by omega, by go_num, ?_, hS.trans (hS2.trans hS7)⟩
          rw [HST.out, HC.out, if_pos rfl, appAll_snoc]
          exact own_skip hO
        case measure => simp [intOf]; omega
      | false =>
        have HC := Lib.hid hc
        go_wp2_with (first | (refine own_load1 (b := q) (off := 1) (cs := #[vb, .slice (some ad) m.l.length cap, .int .i64 m.next]) (t := 86) (v := .slice (some ad) m.l.length cap) rfl rfl rfl row_ons (HR.out _ (own_drop hO)).blk rfl ?_) | (go_at_call 67; have hq := rhas_c _ _ _ s (d.n : Int) hO (fun w' h => HS.out w' (own_drop h)); rw [HC.out] at hq; refine hq.mono ?_; clear hq hO hc1 hc2 hc; rintro e w2 ⟨rfl, hO, hS2⟩))
        go_roundw
        case rel =>
          refine ⟨k + 1, by omega, by go_num, ?_, hS.trans hS2⟩
          rw [HST.out, HC.out]
          simpa using hO
        case measure => simp [intOf]; omega
    · have hke : k = m.l.length := by omega
      subst hke
      go_wp2_with (first | (refine own_load1 (b := q) (off := 1) (cs := #[vb, .slice A m.l.length cap, .int .i64 m.next]) (t := 86) (v := .slice A m.l.length cap) rfl rfl rfl row_ons (HR.out _ (own_drop hO)).blk rfl ?_))
      go_ret
      refine ⟨_, rfl, ?_, hS⟩
      rw [List.take_length] at hO
      exact hO
theorem rbytes_c (hO : Own w L) (hr : ∀ w', Own w' L → RAt w' q vb vl m) (hk : m.Ok) :
    Calls Try.prog 49 #[.pointer (some ⟨q, 0, none⟩)] w (RetX w (fun v => v) (fun v => owns 5 1 v 32 (bcs m.bytes) :: L)) := by
  have HR := Lib.hid hr
  have HK := Lib.hid hk
  have HE : Hid (appAll m.base (selL m.l (m.l.map fun o => (o.n : Int))) = m.bytes) := by show _ = _; rw [sel_all]; rfl
  clear hr hk
  go_enter Try.func49, Try.ntmps49
  go_wp2_with (first | (go_at_call 44; refine (rwaiting_c _ _ q vb vl m hO HR.out HK.out.len).mono ?_; clear hO; rintro e w1 ⟨v1, rfl, hO, hS1⟩; rw [ints_on] at hO) | (go_at_call 52; refine (rwith_c _ _ q vb vl m v1 (m.l.map fun o => (o.n : Int)) hO (fun w' h => HR.out w' (own_drop h)) HK.out (fun w' h => by rw [List.length_map]; exact owns_rd h)).mono ?_; rw [HE.out]; clear hO; rintro e w2 ⟨v2, rfl, hO, hS2⟩))
  go_ret
  exact ⟨v2, rfl, own_skip hO, hS1.trans hS2⟩
theorem rbase_c (hO : Own w L) (hr : ∀ w', Own w' L → RAt w' q vb vl m) (hk : m.Ok) :
    Calls Try.prog 50 #[.pointer (some ⟨q, 0, none⟩)] w (RetX w (fun v => v) (fun v => owns 5 1 v 32 (bcs m.base) :: L)) := by
  have HR := Lib.hid hr
  have HK := Lib.hid hk
  have HE : Hid (appAll m.base (selL m.l []) = m.base) := by show _ = _; rw [sel_nil]; rfl
  clear hr hk
  go_enter Try.func50, Try.ntmps50
  go_wp2_with (first | (go_at_call 52; refine (rwith_c _ _ q vb vl m _ [] hO HR.out HK.out (fun w' h => rd_nil _ _)).mono ?_; rw [HE.out]; clear hO; rintro e w2 ⟨v2, rfl, hO, hS2⟩))
  go_ret
  exact ⟨v2, rfl, hO, hS2⟩
theorem rroll_no (sv : Value) (l : List Int) (hO : Own w L) (hr : ∀ w', Own w' L → RAt w' q vb vl m) (hk : m.Ok) (hs : ∀ w', Own w' L → Rd w' 1 sv l.length (ints l)) (e : Int) (he : (OutL m.l l ∧ e = 2) ∨ (¬ OutL m.l l ∧ BusyL m.l l ∧ e = 12)) :
    Calls Try.prog 24 #[.pointer (some ⟨q, 0, none⟩), sv] w (Ret w (.tuple #[.slice none 0 0, .int .i64 e]) L) := by
  have hmay : Calls Try.prog 51 #[.pointer (some ⟨q, 0, none⟩), sv] w (Ret w (.int .i64 e) L) :=
    (rmay_c w L q vb vl m sv l hO hr hk hs).mono fun x w' h => by
      rcases he with ⟨h1, rfl⟩ | ⟨h1, h2, rfl⟩
      · rcases h with ⟨_, h⟩ | ⟨h', _⟩ | ⟨h', _⟩
        · exact h
        · exact (h' h1).elim
        · exact (h' h1).elim
      · rcases h with ⟨h', _⟩ | ⟨_, _, h⟩ | ⟨_, h', _⟩
        · exact (h1 h').elim
        · exact h
        · exact (h' h2).elim
  have HM := Lib.hid hmay
  have hne : (e == 0) = false ∧ (e != 0) = true := by rcases he with ⟨_, rfl⟩ | ⟨_, _, rfl⟩ <;> exact ⟨rfl, rfl⟩
  have hn1 := hne.2
  clear hr hk hs hmay he hne
  go_enter Try.func24, Try.ntmps24
  go_wp2_with (first | (go_at_call 51; refine HM.out.mono ?_; clear hO; rintro e w1 ⟨rfl, hO, hS1⟩))
  go_ret2
  exact ⟨rfl, hO, hS1⟩
theorem rroll_ok (sv : Value) (l : List Int) (hO : Own w L) (hr : ∀ w', Own w' L → RAt w' q vb vl m) (hk : m.Ok) (hs : ∀ w', Own w' L → Rd w' 1 sv l.length (ints l)) (h1 : ¬ OutL m.l l) (h2 : ¬ BusyL m.l l) :
    Calls Try.prog 24 #[.pointer (some ⟨q, 0, none⟩), sv] w (RetX w (fun v => .tuple #[v, .int .i64 0]) (fun v => owns 5 1 v 32 (bcs (appAll m.base (selL m.l l))) :: L)) := by
  have hmay : Calls Try.prog 51 #[.pointer (some ⟨q, 0, none⟩), sv] w (Ret w (.int .i64 0) L) :=
    (rmay_c w L q vb vl m sv l hO hr hk hs).mono fun x w' h => by
      rcases h with ⟨h', _⟩ | ⟨_, h', _⟩ | ⟨_, _, h⟩
      · exact (h1 h').elim
      · exact (h2 h').elim
      · exact h
  have HM := Lib.hid hmay
  have HR := Lib.hid hr
  have HK := Lib.hid hk
  have HS := Lib.hid hs
  clear hr hk hs hmay h1 h2
  go_enter Try.func24, Try.ntmps24
  go_wp2_with (first | (go_at_call 51; refine HM.out.mono ?_; clear hO; rintro e w1 ⟨rfl, hO, hS1⟩) | (go_at_call 52; refine (rwith_c _ _ q vb vl m sv l hO HR.out HK.out HS.out).mono ?_; clear hO; rintro e w2 ⟨v2, rfl, hO, hS2⟩))
  go_ret2
  exact ⟨v2, rfl, hO, hS1.trans hS2⟩
end
end Go.Proofs.Ytdcbfdepkbplbaa.H
set_option linter.unusedVariables false
set_option linter.unusedSimpArgs false
namespace Go.Proofs.Ytdcbfdepkbplbaa.H
open Go.RowKit
section
variable {P : Program} {ops : Array Oper} {Q : Exit → Act → World → Prop}
/-- The act with each operation's slot holding f of its number. -/
def putV (f : Nat → Value) : Nat → List Oper → Act → Act
  | _, [], a => a
  | i, o :: r, a => putV f (i + 1) r (a.put o.dst (f i))
theorem putV_defers (f : Nat → Value) : ∀ (l : List Oper) (i : Nat) (a : Act), (putV f i l a).defers = a.defers
  | [], _, _ => rfl
  | o :: r, i, a => by rw [putV, putV_defers f r, put_defers']
theorem putV_size (f : Nat → Value) : ∀ (l : List Oper) (i : Nat) (a : Act), (putV f i l a).tmps.size = a.tmps.size
  | [], _, _ => rfl
  | o :: r, i, a => by rw [putV, putV_size f r, put_size']
theorem putV_out (f : Nat → Value) : ∀ (l : List Oper) (i : Nat) (a : Act) (t : Tmp), (∀ o ∈ l, o.dst ≠ some t) → (putV f i l a).tmps[t]? = a.tmps[t]?
  | [], _, _, _, _ => rfl
  | o :: r, i, a, t, h => by rw [putV, putV_out f r _ _ _ (fun o' ho' => h o' (List.mem_cons_of_mem _ ho')), put_ne' _ _ _ _ (h o (List.mem_cons_self ..))]
theorem putV_in (f : Nat → Value) : ∀ (l : List Oper) (i : Nat) (a : Act) (d : Tmp) (j : Nat) (o : Oper), (∀ (j j' : Nat) (o o' : Oper), l[j]? = some o → l[j']? = some o' → o.dst = some d → o'.dst = some d → j = j') → l[j]? = some o → o.dst = some d → d < a.tmps.size → (putV f i l a).tmps[d]? = some (f (i + j))
  | [], _, _, _, _, _, _, h, _, _ => by simp at h
  | o' :: r, i, a, d, 0, o, hu, h, hd, hs => by
    simp at h
    subst h
    rw [putV, putV_out f r, hd, put_at, if_pos ⟨rfl, hs⟩, Nat.add_zero]
    intro o2 ho2 he
    obtain ⟨k, hk⟩ := List.getElem?_of_mem ho2
    have := hu 0 (k + 1) o' o2 rfl (by simpa using hk) hd he
    omega
  | o' :: r, i, a, d, j + 1, o, hu, h, hd, hs => by
    rw [putV, putV_in f r (i + 1) _ d j o (fun j j' o o' h1 h2 h3 h4 => by have := hu (j + 1) (j' + 1) o o' (by simpa using h1) (by simpa using h2) h3 h4; omega) (by simpa using h) hd (by rw [put_size']; exact hs)]
    congr 2
    omega
def freeOk (ops : Array Oper) (k : Nat) : Bool :=
  Region.noSelect ops && (List.range ops.size).all fun i => match ops[i]? with
    | some o => (o.after.all fun e => !Region.binds .any e || decide (e.on < i)) &&
      ((o.looksAt ops).all fun t => (List.range ops.size).all fun j => match ops[j]? with
        | some oj => !(oj.dst == some t) || o.after.any fun e => Region.binds .any e && e.on == j
        | none => true) &&
      (match o.dst with
        | some d => decide (d < k) && (List.range ops.size).all fun j => j == i || (match ops[j]? with | some oj => !(oj.dst == some d) | none => true)
        | none => true)
    | none => true
structure FreeOk (ops : Array Oper) (k : Nat) : Prop where
  sel : Region.noSelect ops = true
  back : ∀ (i : Nat) (o : Oper), ops[i]? = some o → ∀ e ∈ o.after, Region.binds .any e = true → e.on < i
  look : ∀ (i : Nat) (o : Oper), ops[i]? = some o → ∀ t ∈ o.looksAt ops, ∀ (j : Nat) (oj : Oper), ops[j]? = some oj → oj.dst = some t → ∃ e ∈ o.after, Region.binds .any e = true ∧ e.on = j
  lt : ∀ (i : Nat) (o : Oper) (d : Tmp), ops[i]? = some o → o.dst = some d → d < k
  uniq : ∀ (i j : Nat) (o oj : Oper) (d : Tmp), ops[i]? = some o → ops[j]? = some oj → o.dst = some d → oj.dst = some d → i = j
theorem free_of {k : Nat} (h : freeOk ops k = true) : FreeOk ops k := by
  simp only [freeOk, Bool.and_eq_true, List.all_eq_true, List.mem_range] at h
  obtain ⟨hs, h⟩ := h
  have lt : ∀ (i : Nat) (o : Oper), ops[i]? = some o → i < ops.size := fun i o ho => (Array.getElem?_eq_some_iff.1 ho).1
  refine ⟨hs, fun i o ho e he hb => ?_, fun i o ho t ht j oj hj hd => ?_, fun i o d ho hd => ?_, fun i j o oj d ho hj hd hd2 => ?_⟩
  · have := h i (lt i o ho)
    simp only [ho, Bool.and_eq_true, List.all_eq_true] at this
    have h2 := Array.all_eq_true_iff_forall_mem.1 this.1.1 e he
    simpa [hb] using h2
  · have := h i (lt i o ho)
    simp only [ho, Bool.and_eq_true, List.all_eq_true] at this
    have h2 := this.1.2 t ht j (List.mem_range.2 (lt j oj hj))
    simp only [hj, hd, beq_self_eq_true, Bool.not_true, Bool.false_or] at h2
    rw [Array.any_eq_true'] at h2
    obtain ⟨e, he, h3⟩ := h2
    simp only [Bool.and_eq_true, beq_iff_eq] at h3
    exact ⟨e, he, h3.1, h3.2⟩
  · have := h i (lt i o ho)
    simp only [ho, hd, Bool.and_eq_true, decide_eq_true_eq] at this
    exact this.2.1
  · have := h i (lt i o ho)
    simp only [ho, hd, Bool.and_eq_true, List.all_eq_true] at this
    have h2 := this.2.2 j (List.mem_range.2 (lt j oj hj))
    simp only [hj, hd2, beq_self_eq_true, Bool.not_true, Bool.or_false, beq_iff_eq] at h2
    exact h2.symm
def upd (D : Nat → Bool) (i : Nat) : Nat → Bool := fun j => if j = i then true else D j
/-- What is asked of one operation, in any place that it may be taken. -/
def FreeStep {α : Type} (P : Program) (l : List Oper) (Q : Exit → Act → World → Prop) (a : Act) (val : Nat → α → Value) (S : (Nat → Bool) → α → World → Prop) (i : Nat) (o : Oper) : Prop :=
  ∀ (D : Nat → Bool) (x : α) (w : World), D i = false → (∀ (j : Nat) (oj : Oper), l.toArray[j]? = some oj → D j = true → ∀ e ∈ oj.after, Region.binds .any e = true → D e.on = true) → (∀ e ∈ o.after, Region.binds .any e = true → D e.on = true) → S D x w →
    wpList P l.toArray (Exit.then (fun a' w' => a'.defers = a.defers ∧ ∃ x', (∀ j, D j = true → val j x' = val j x) ∧ (∀ d, o.dst = some d → d < a.tmps.size → a'.tmps[d]? = some (val i x')) ∧ S (upd D i) x' w') Q) [o] (putV (fun j => val j x) 0 l a) w
theorem free_all {α : Type} {l : List Oper} {a0 : Act} {k : Nat} {val : Nat → α → Value} {S : (Nat → Bool) → α → World → Prop} (hB : FreeOk l.toArray k) (hk : a0.tmps.size = k)
    (hQ : ∀ ch (a a' : Act) w, a.defers = a'.defers → Q (.panic ch) a w → Q (.panic ch) a' w)
    (hstep : ∀ i o, l.toArray[i]? = some o → FreeStep P l Q a0 val S i o)
    (hend : ∀ x w D, (∀ i, i < l.length → D i = true) → S D x w → Q .normal (putV (fun j => val j x) 0 l a0) w) :
    ∀ (m : Nat) (listed : Array Bool) (a : Act) (w : World), unl l.toArray.size listed = m → listed.size = l.toArray.size → a.defers = a0.defers → a.tmps.size = a0.tmps.size →
      (∀ (j : Nat) oj, l.toArray[j]? = some oj → listed.getD j false = true → ∀ e ∈ oj.after, Region.binds .any e = true → listed.getD e.on false = true) →
      (∃ x, (∀ (j : Nat) (oj : Oper) d, l.toArray[j]? = some oj → oj.dst = some d → listed.getD j false = true → a.tmps[d]? = some (val j x)) ∧ (∀ t, (∀ (j : Nat) oj, l.toArray[j]? = some oj → oj.dst = some t → listed.getD j false = false) → a.tmps[t]? = a0.tmps[t]?) ∧ S (fun j => listed.getD j false) x w) →
      wpAny P .any l.toArray Q m listed a w := by
  have hfin : ∀ (x : α) (j : Nat) (oj : Oper) d, l.toArray[j]? = some oj → oj.dst = some d → (putV (fun j => val j x) 0 l a0).tmps[d]? = some (val j x) := fun x j oj d hj hd => by
    have := putV_in (fun j => val j x) l 0 a0 d j oj (fun j j' o o' h1 h2 h3 h4 => hB.uniq j j' o o' d (by simpa using h1) (by simpa using h2) h3 h4) (by simpa using hj) hd (by rw [hk]; exact hB.lt j oj d hj hd)
    rwa [Nat.zero_add] at this
  have hout : ∀ (x : α) t, (∀ (j : Nat) oj, l.toArray[j]? = some oj → oj.dst ≠ some t) → (putV (fun j => val j x) 0 l a0).tmps[t]? = a0.tmps[t]? := fun x t h =>
    putV_out _ _ _ _ _ (fun o ho => by obtain ⟨j, hj⟩ := List.getElem?_of_mem ho; exact h j o (by simpa using hj))
  intro m
  induction m with
  | zero =>
    intro listed a w hu hsz hdf has hcl ⟨x, hv, ho, hS⟩
    have hall := unl_zero hu
    have ha : a = putV (fun j => val j x) 0 l a0 := by
      have ht : a.tmps = (putV (fun j => val j x) 0 l a0).tmps := by
        apply Array.ext_getElem?
        intro t
        by_cases hex : ∃ (j : Nat) (oj : Oper), l.toArray[j]? = some oj ∧ oj.dst = some t
        · obtain ⟨j, oj, hj, hd⟩ := hex
          rw [hfin x j oj t hj hd]
          exact hv j oj t hj hd (hall j (Array.getElem?_eq_some_iff.1 hj).1)
        · have hno : ∀ (j : Nat) oj, l.toArray[j]? = some oj → oj.dst ≠ some t := fun j oj hj hd => hex ⟨j, oj, hj, hd⟩
          rw [hout x t hno]
          exact ho t (fun j oj hj hd => absurd hd (hno j oj hj))
      have hd := hdf.trans (putV_defers (fun j => val j x) l 0 a0).symm
      cases a
      simp only at ht hd
      rw [ht, hd]
    rw [ha]
    have hr : Region.ready .any l.toArray listed = [] := by
      rw [List.eq_nil_iff_forall_not_mem]
      intro i hi
      obtain ⟨g1, o, ho, _⟩ := mem_ready.1 hi
      have := hall i (Array.getElem?_eq_some_iff.1 ho).1
      rw [getD_both g1] at this; cases this
    exact ⟨hr, hend x w _ (fun i hi => hall i (by simpa using hi)) hS⟩
  | succ m ih =>
    intro listed a w hu hsz hdf has hcl ⟨x, hv, ho, hS⟩
    have hex : ∃ i, i < l.toArray.size ∧ listed.getD i false = false := by
      have : ((List.range l.toArray.size).filter fun i => !listed.getD i false) ≠ [] := fun e => by unfold unl at hu; rw [e] at hu; simp at hu
      obtain ⟨i, hi⟩ := List.exists_mem_of_ne_nil _ this
      rw [List.mem_filter, List.mem_range] at hi
      exact ⟨i, hi.1, by simpa using hi.2⟩
    have hne : Region.ready .any l.toArray listed ≠ [] := by
      have hmin : ∀ k, (∃ i, i ≤ k ∧ i < l.toArray.size ∧ listed.getD i false = false) → ∃ i, i < l.toArray.size ∧ listed.getD i false = false ∧ ∀ j, j < i → listed.getD j false = true := by
        intro k
        induction k with
        | zero =>
          rintro ⟨i, hi, h1, h2⟩
          exact ⟨i, h1, h2, fun j hj => by omega⟩
        | succ k ihk =>
          rintro ⟨i, hi, h1, h2⟩
          by_cases hlow : ∃ j, j ≤ k ∧ j < l.toArray.size ∧ listed.getD j false = false
          · exact ihk hlow
          · refine ⟨i, h1, h2, fun j hj => ?_⟩
            cases hb : listed.getD j false with
            | true => rfl
            | false => exact absurd ⟨j, by omega, by omega, hb⟩ hlow
      obtain ⟨i0, g1, g2⟩ := hex
      obtain ⟨i, hin, hb, hlow⟩ := hmin i0 ⟨i0, Nat.le_refl _, g1, g2⟩
      have ho : l.toArray[i]? = some l.toArray[i] := Array.getElem?_eq_getElem hin
      have : i ∈ Region.ready .any l.toArray listed := mem_ready.2 ⟨getD_in (by rw [hsz]; omega) hb, _, ho, fun e he hbd => hlow _ (hB.back i _ ho e he hbd)⟩
      intro e
      rw [e] at this
      cases this
    refine ⟨fun hr => absurd hr hne, fun i hi => ?_⟩
    obtain ⟨hun, o, hoi, hready⟩ := mem_ready.1 hi
    have hil : i < l.toArray.size := (Array.getElem?_eq_some_iff.1 hoi).1
    have his : i < listed.size := by rw [hsz]; exact hil
    have hus := unl_set (n := l.toArray.size) hil his (getD_both hun)
    have hsel := fun cs b => Region.noSelect_spec hB.sel i o cs b hoi
    have hag : ∀ t ∈ o.looksAt l.toArray, a.tmps[t]? = (putV (fun j => val j x) 0 l a0).tmps[t]? := fun t ht => by
      by_cases hex : ∃ (j : Nat) (oj : Oper), l.toArray[j]? = some oj ∧ oj.dst = some t
      · obtain ⟨j, oj, hj, hd⟩ := hex
        rw [hfin x j oj t hj hd]
        obtain ⟨e, he, hb, hon⟩ := hB.look i o hoi t ht j oj hj hd
        exact hv j oj t hj hd (hon ▸ hready e he hb)
      · have hno : ∀ (j : Nat) oj, l.toArray[j]? = some oj → oj.dst ≠ some t := fun j oj hj hd => hex ⟨j, oj, hj, hd⟩
        rw [hout x t hno]
        exact ho t (fun j oj hj hd => absurd hd (hno j oj hj))
    have hcl' : ∀ (j : Nat) oj, l.toArray[j]? = some oj → (listed.setIfInBounds i true).getD j false = true → ∀ e ∈ oj.after, Region.binds .any e = true → (listed.setIfInBounds i true).getD e.on false = true := fun j oj hj hl e he hb => by
      by_cases hij : i = j
      · subst hij
        have : oj = o := Option.some.inj (hj.symm.trans hoi)
        subst this
        exact getD_set_true (hready e he hb)
      · rw [getD_set_ne false hij] at hl
        exact getD_set_true (hcl j oj hj hl e he hb)
    have hw1 := hstep i o hoi (fun j => listed.getD j false) x w (getD_both hun) hcl hready hS
    have hupd : upd (fun j => listed.getD j false) i = fun j => (listed.setIfInBounds i true).getD j false := by
      funext j
      unfold upd
      by_cases hij : j = i
      · subst hij; rw [if_pos rfl]; exact (getD_set_self his).symm
      · rw [if_neg hij]; exact (getD_set_ne false (fun e => hij e.symm)).symm
    have hdf2 := putV_defers (fun j => val j x) l 0 a0
    have hsz2 := putV_size (fun j => val j x) l 0 a0
    have hnext : ∀ (b b' : Act) u w', b.tmps = (putV (fun j => val j x) 0 l a0).tmps → b'.tmps = a.tmps → b'.defers = a0.defers → (∃ x', (∀ j, listed.getD j false = true → val j x' = val j x) ∧ (∀ d, o.dst = some d → d < a0.tmps.size → (b.put o.dst u).tmps[d]? = some (val i x')) ∧ S (upd (fun j => listed.getD j false) i) x' w') → wpAny P .any l.toArray Q m (listed.setIfInBounds i true) (b'.put o.dst u) w' := fun b b' u w' hb hb' hdf' ⟨x', h1, h2, h3⟩ => by
      refine ih _ _ _ (by omega) (by simp [hsz]) (by rw [put_defers', hdf']) (by rw [put_size', hb', has]) hcl' ⟨x', fun j oj d hj hd hl => ?_, fun t hall => ?_, by rw [← hupd]; exact h3⟩
      · by_cases hij : i = j
        · subst hij
          have : oj = o := Option.some.inj (hj.symm.trans hoi)
          subst this
          have h4 := h2 d hd (by rw [hk]; exact hB.lt i oj d hoi hd)
          rw [hd, put_at] at h4 ⊢
          rw [hb, hsz2, hk] at h4
          rw [hb', has, hk]
          have hdk := hB.lt i oj d hoi hd
          rw [if_pos ⟨rfl, hdk⟩] at h4 ⊢
          exact h4
        · rw [getD_set_ne false hij] at hl
          have hne2 : o.dst ≠ some d := fun e => hij (hB.uniq i j o oj d hoi hj e hd)
          rw [put_ne' b' _ _ _ hne2, hb', h1 j hl]
          exact hv j oj d hj hd hl
      · have hne2 : o.dst ≠ some t := fun e => by
          have := hall i o hoi e
          rw [getD_set_self his] at this; cases this
        rw [put_ne' b' _ _ _ hne2, hb']
        refine ho t (fun j oj hj hd => ?_)
        have := hall j oj hj hd
        by_cases hij : i = j
        · subst hij; exact absurd (getD_both hun) (by have h9 := getD_set_self his; rw [h9] at this; cases this)
        · rwa [getD_set_ne false hij] at this
    unfold wpOp
    rw [hoi]
    simp only
    have hwant := wanted_agree (ops := l.toArray) (o := o) hag
    have hexe := exec_agree (ops := l.toArray) hsel hag
    unfold wpList at hw1
    by_cases hw : Region.wanted o (yielded l.toArray (putV (fun j => val j x) 0 l a0).tmps) = true
    · rw [if_pos hw] at hw1
      rw [hwant, if_pos hw]
      have conv : ∀ r, o.upon P (putV (fun j => val j x) 0 l a0) (wpList P l.toArray (Exit.then (fun a' w' => a'.defers = a0.defers ∧ ∃ x', (∀ j, listed.getD j false = true → val j x' = val j x) ∧ (∀ d, o.dst = some d → d < a0.tmps.size → a'.tmps[d]? = some (val i x')) ∧ S (upd (fun j => listed.getD j false) i) x' w') Q) []) (Exit.then (fun a' w' => a'.defers = a0.defers ∧ ∃ x', (∀ j, listed.getD j false = true → val j x' = val j x) ∧ (∀ d, o.dst = some d → d < a0.tmps.size → a'.tmps[d]? = some (val i x')) ∧ S (upd (fun j => listed.getD j false) i) x' w') Q) r → o.upon P a (wpAny P .any l.toArray Q m (listed.setIfInBounds i true)) Q r := fun r hr => by
        refine upon_agree (Q := Q) (hdf2.trans hdf.symm) hQ (N := (fun a' w' => a'.defers = a0.defers ∧ ∃ x', (∀ j, listed.getD j false = true → val j x' = val j x) ∧ (∀ d, o.dst = some d → d < a0.tmps.size → a'.tmps[d]? = some (val i x')) ∧ S (upd (fun j => listed.getD j false) i) x' w')) (fun b b' u w' hb hb' hdf3 hn => hnext b b' u w' hb hb' (by rw [← hdf3]; have := hn.1; rwa [put_defers'] at this) hn.2) r ?_
        cases r with
        | ok mm w' => cases mm <;> exact hr
        | halt x w' => cases x <;> exact hr
      rcases hw1 with hw1 | ⟨hw1, hw2⟩
      · left
        unfold Oper.wp at hw1 ⊢
        rw [hexe]
        exact conv _ hw1
      · right
        refine ⟨?_, hw2⟩
        unfold Oper.asks at *
        rw [hexe]
        exact hw1
    · rw [if_neg hw] at hw1
      rw [hwant, if_neg hw]
      exact hnext _ a undef w rfl rfl hdf hw1.2
/-- A region of open order. -/
theorem wp_region_free {α : Type} {id : Nat} {l : List Oper} {a : Act} {w : World} (val : Nat → α → Value) (S : (Nat → Bool) → α → World → Prop) (x0 : α) (k : Nat) (hm : P.follows .mixedOrders = true) (hB : freeOk l.toArray k = true) (hk : a.tmps.size = k) (hC : S (fun _ => false) x0 w.drew)
    (hQ : ∀ ch (a a' : Act) w, a.defers = a'.defers → Q (.panic ch) a w → Q (.panic ch) a' w)
    (hstep : ∀ i o, l.toArray[i]? = some o → FreeStep P l Q a val S i o)
    (hend : ∀ x w D, (∀ i, i < l.length → D i = true) → S D x w → Q .normal (putV (fun j => val j x) 0 l a) w) : (Code.region id l.toArray true).wp P Q a w := by
  refine wp_region_any hm ?_
  have hrep : ∀ i, (Array.replicate l.toArray.size false).getD i false = false := fun i => getD_replicate_false _ i
  have hu : unl l.toArray.size (Array.replicate l.toArray.size false) = l.toArray.size := by
    unfold unl
    rw [List.filter_eq_self.2 (fun i _ => by rw [hrep]; rfl)]
    simp
  refine free_all (free_of hB) hk hQ hstep hend l.toArray.size (Array.replicate l.toArray.size false) a w.drew hu (by simp) rfl rfl (fun j oj _ hl => (by rw [hrep] at hl; cases hl)) ⟨x0, fun j oj d _ _ hl => (by rw [hrep] at hl; cases hl), fun _ _ => rfl, ?_⟩
  have e : (fun j => (Array.replicate l.toArray.size false).getD j false) = fun _ => false := funext hrep
  rw [e]
  exact hC
end
end Go.Proofs.Ytdcbfdepkbplbaa.H
