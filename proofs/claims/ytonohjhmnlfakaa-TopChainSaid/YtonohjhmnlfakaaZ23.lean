/- TopChain: the walk. -/
import Derived.Test.YtonohjhmnlfakaaZ22
set_option linter.unusedVariables false
set_option linter.unusedSimpArgs false
set_option maxRecDepth 100000
namespace Go.Proofs.Ytonohjhmnlfakaa.H
open Go.RowKit
theorem rd_snapG {w0 w' : World} {L : List HP} {size n : Nat} {v : Value} {xs : List Value} (h : Rd w0 size v n xs) (hO : Own w' (snap w0 :: L)) : Rd w' size v n xs := h.keep (fun i o hi => own_kept hO i o hi)
theorem bcs_cellG {w : World} {ad : Addr} {n c k : Nat} {l : List UInt8} {x : UInt8} (h : Rd w 1 (.slice (some ad) n c) n (bcs l)) (hx : l[k]? = some x) : w.cell? (ad.add k) = some (.int .u8 (x.toNat : Int)) := by
  have h1 : w.cell? ((ad.add (k * 1)).add 0) = some (.int .u8 (x.toNat : Int)) := h.cell (by rw [Nat.mul_one, Nat.add_zero]; unfold bcs; rw [List.getElem?_map, hx]; rfl)
  rwa [addr_add, Nat.mul_one, Nat.add_zero] at h1
set_option maxHeartbeats 6400000 in
theorem chain_law (w : World) (A0 : Option Addr) (n0 c0 : Nat) (ws : List UInt8) (hn0 : n0 = ws.length) (hr : Rd w 1 (.slice A0 n0 c0) n0 (bcs ws)) (A1 : Option Addr) (n1 c1 : Nat) (pl : List Int) (hn1 : n1 = pl.length) (hp : Rd w 1 (.slice A1 n1 c1) n1 (pl.map encZ)) :
    Calls Try.prog 4 #[.slice A0 n0 c0, .slice A1 n1 c1] w (fun e w' => e = .returned (.bool true) ∧ Below w.heap.size w w') := by
  subst hn0
  subst hn1
  have hmx := hr.max
  have HR : Hid (∀ (w' : World) (L' : List HP), Own w' (snap w :: L') → Rd w' 1 (.slice A0 ws.length c0) ws.length (bcs ws)) := Lib.hid fun w' L' h' => rd_snapG hr h'
  have HP1 : Hid (∀ (w' : World) (L' : List HP), Own w' (snap w :: L') → Rd w' 1 (.slice A1 pl.length c1) pl.length (pl.map encZ)) := Lib.hid fun w' L' h' => rd_snapG hp h'
  have hO : Own w [snap w] := own_snap
  have hS := Same.refl w
  clear hr hp
  go_enter Try.func4, Try.ntmps4
  go_wp2_with (first | (go_at_call 7; (with_reducible refine Calls.mono (new_ok _ _ 8 hO (by decide) (by decide)) ?_); clear hO; rintro e u ⟨dd, rfl, hO, hSn⟩; replace hS := hS.trans hSn; clear hSn) | (go_at_call 6; (with_reducible refine Calls.mono (enew_c _ _ dd _ hO (by decide) (by decide)) ?_); clear hO; rintro e u ⟨e, rfl, hO, hSn⟩; replace hS := hS.trans hSn; clear hSn))
  have hO : Own u (engP e (chA 0) :: [snap w]) := own_drop (own_swap hO)
  go_loopw [6] (fun iv wr => ∃ i : Nat, i ≤ 8 ∧ iv = .int .i64 i ∧ Own wr (engP e (chA i) :: [snap w]) ∧ Same w wr) (fun iv _ => 8 - (intOf iv).toNat)
  case atStart => exact ⟨0, Nat.zero_le _, rfl, hO, hS⟩
  case round =>
    clear hO hS
    obtain ⟨i, hi, rfl, hO, hS⟩ := hrel
    by_cases hlt : i < 8
    · have hm1 : (i : Int) < 8 := by omega
      go_upto_region 8 with (first | (refine own_alloc (T := 36) rfl rfl zero_item rfl hO ?_; clear hO; intro gx u hO hSn; replace hS := hS.trans hSn; clear hSn) | (refine own_store_all (k := 0) (b := gx) (vs := #[.int .i64 i, .int .i64 0, .string ⟨#[120]⟩, .slice none 0 0]) rfl rfl rfl rfl sz_item hO rfl rfl rfl (by rfl) ?_; clear hO; intro u hO hSn; replace hS := hS.trans hSn; clear hSn; simp only [List.set_cons_zero, List.set_cons_succ] at hO))
      by_cases h0 : i = 0
      · have hn : ¬ (0 < (i : Int)) := by omega
        have HAD : Hid (∀ (w' : World) (g2 : Nat) (L' : List HP), Own w' (engP e (chA i) :: pts g2 (.cells #[.int .i64 i, .int .i64 0, .string ⟨#[120]⟩, .slice none 0 0] 36) :: L') → Calls Try.prog 9 #[.pointer (some ⟨e, 0, none⟩), .slice (some ⟨g2, 0, none⟩) 1 1] w' (Ret w' (.tuple #[.int .i64 i, .int .i64 0]) (engP e (chA (i + 1)) :: L'))) := Lib.hid fun w' g2 L' h => by
          subst h0
          exact chadd_0 w' L' e g2 h
        clear h0
        go_wp2_with (first | (refine own_loadrow (b := gx) (off := 0) (cs := #[.int .i64 i, .int .i64 0, .string ⟨#[120]⟩, .slice none 0 0]) (t := 36) (vs := [.int .i64 i, .int .i64 0, .string ⟨#[120]⟩, .slice none 0 0]) rfl rfl rfl row_item sz_item (own_get 0 hO rfl) (by simp) (by rfl) ?_) | (refine own_is1g (chI i, .slice none 0 0) rfl rfl rfl hO ?_; clear hO; intro g2 u hO hSn; replace hS := hS.trans hSn; clear hSn; replace hO : Own _ (pts g2 (.cells #[.int .i64 i, .int .i64 0, .string ⟨#[120]⟩, .slice none 0 0] 36) :: _) := hO) | (go_at_call 9; (with_reducible refine Calls.mono (HAD.out _ g2 _ (own_order [2, 0] hO rfl)) ?_); clear hO; rintro e1 u ⟨rfl, hO, hSn⟩; replace hS := hS.trans hSn; clear hSn; replace hO : Own _ (engP e (chA (i + 1)) :: [snap w]) := own_skip hO))
        go_roundw
        case rel => exact ⟨i + 1, by omega, by go_num, hO, hS⟩
        case measure => simp [intOf]; omega
      · have hn : 0 < (i : Int) := by omega
        have hw1 : IntKind.i64.wrap ((i : Int) - 1) = (i : Int) - 1 := by rw [IntKind.wrap_i64] <;> omega
        have HI0 := Lib.hid h0
        have HI8 := Lib.hid hlt
        clear h0
        go_wp2_with (first | (refine own_zs1g ((i : Int) - 1) rfl rfl rfl hO ?_; clear hO; intro g1 u hO hSn; replace hS := hS.trans hSn; clear hSn; replace hO := own_swap hO) | (refine own_store1 (k := 0) (b := gx) (off := 3) (cs' := #[.int .i64 i, .int .i64 0, .string ⟨#[120]⟩, .slice (some ⟨g1, 0, none⟩) 1 1]) rfl rfl rfl rfl sz_zs hO rfl rfl (by show 3 < 4; decide) rfl ?_; clear hO; intro u hO hSn; replace hS := hS.trans hSn; clear hSn; simp only [List.set_cons_zero, List.set_cons_succ] at hO) | (refine own_loadrow (b := gx) (off := 0) (cs := #[.int .i64 i, .int .i64 0, .string ⟨#[120]⟩, .slice (some ⟨g1, 0, none⟩) 1 1]) (t := 36) (vs := [.int .i64 i, .int .i64 0, .string ⟨#[120]⟩, .slice (some ⟨g1, 0, none⟩) 1 1]) rfl rfl rfl row_item sz_item (own_get 0 hO rfl) (by simp) (by rfl) ?_) | (refine own_is1g (chI i, .slice (some ⟨g1, 0, none⟩) 1 1) rfl rfl rfl hO ?_; clear hO; intro g2 u hO hSn; replace hS := hS.trans hSn; clear hSn; replace hO : Own _ (pts g2 (.cells #[.int .i64 i, .int .i64 0, .string ⟨#[120]⟩, .slice (some ⟨g1, 0, none⟩) 1 1] 36) :: _) := hO) | (go_at_call 9; (with_reducible refine Calls.mono (chadd_s _ _ e i g1 g2 HI0.out HI8.out (fun w2 h => rd_z1 (own_at h (k := 1) rfl)) (own_order [3, 0] hO rfl)) ?_); clear hO; rintro e1 u ⟨rfl, hO, hSn⟩; replace hS := hS.trans hSn; clear hSn; replace hO : Own _ (engP e (chA (i + 1)) :: [snap w]) := own_skip (own_skip hO)))
        go_roundw
        case rel => exact ⟨i + 1, by omega, by go_num, hO, hS⟩
        case measure => simp [intOf]; omega
    · have hnl : ¬ ((i : Int) < 8) := by omega
      have hO : Own wr (engP e (chA 8) :: [snap w]) := by rw [show i = 8 by omega] at hO; exact hO
      clear hlt
      go_wp2
      go_loopw [10] (fun iv wr => ∃ (i k : Nat) (b : Bool) (E : Eng), i ≤ ws.length ∧ i ≤ 60 ∧ iv = .int .i64 i ∧ Hid (Ch k b E) ∧ Own wr (engP e E :: [snap w]) ∧ Same w wr) (fun iv _ => ws.length - (intOf iv).toNat)
      case atStart => exact ⟨0, 0, false, chA 8, Nat.zero_le _, Nat.zero_le _, rfl, ch_start, hO, hS⟩
      case round =>
        clear hO hS
        obtain ⟨j, k, b, E, hj, hj60, rfl, HC, hO, hS⟩ := hrel
        by_cases hgo : j < ws.length ∧ j < 60
        · obtain ⟨hlt3, h60⟩ := hgo
          have f1 : decide (j < 60) = true := by simpa using h60
          have f2 : (j : Int) < 60 := by omega
          have hn1 : (j : Int) < ws.length := by omega
          obtain ⟨y, hy⟩ : ∃ y, ws[j]? = some y := ⟨_, List.getElem?_eq_getElem hlt3⟩
          obtain ⟨ad3, e3⟩ := (HR.out _ _ (own_at hO (k := 1) rfl)).addr (by rw [bcs_length]; omega)
          subst e3
          have HCB : Hid (∀ w' L', Own w' (snap w :: L') → w'.cell? (ad3.add j) = some (.int .u8 (y.toNat : Int))) := Lib.hid fun w' L' h => bcs_cellG (HR.out w' L' h) hy
          have hyb : (y.toNat : Int) ≤ 255 := by have := y.toNat_lt; omega
          obtain ⟨q, hq⟩ : ∃ q, q = y.toNat % 8 := ⟨_, rfl⟩
          have hq8 : q < 8 := by omega
          have hK : (y.toNat : Int).tmod 8 = (q : Int) := by rw [Int.tmod_eq_emod_of_nonneg (by omega), hq]; rfl
          have HC2 : Hid (Ch k (b || q == k) (E.writeM q).2) := HC.out.write hq8
          obtain ⟨F2, hF2⟩ : ∃ F2, F2 = (E.writeM q).2 := ⟨_, rfl⟩
          have HWR : Hid (∀ (w' : World) (L' : List HP), Own w' (engP e E :: L') → Calls Try.prog 17 #[.pointer (some ⟨e, 0, none⟩), .int .i64 q] w' (Ret w' (.tuple #[.int .i64 (E.writeM q).1.1, .int .i64 (E.writeM q).1.2]) (engP e F2 :: L'))) := Lib.hid fun w' L' h => by rw [hF2]; exact ewrite_c w' L' e E q h HC.out.ok (by rw [HC.out.m8]; exact hq8) (fun b hb => by have := HC.out.vl b hb; omega)
          rw [← hF2] at HC2
          have HFL : Hid (∀ (w' : World) (L' : List HP), Own w' (engP e F2 :: L') → Calls Try.prog 18 #[.pointer (some ⟨e, 0, none⟩)] w' (Ret w' (.int .i64 0) (engP e F2.flushed :: L'))) := Lib.hid fun w' L' h => eflush_c w' L' e F2 h HC2.out.ok (fun b hb => by have := HC2.out.vl b hb; omega)
          clear hy hq hF2
          go_upto_region 17 with (first | (refine own_load1_at (ad := ad3.add j) (v := .int .u8 (y.toNat : Int)) rfl rfl rfl row_u8 (HCB.out _ _ (own_at hO (k := 1) rfl)) ?_) | (go_at_call 17; (with_reducible refine Calls.mono (call_at 0 (fun L' h => HWR.out _ L' h) rfl hO) ?_); clear hO; rintro e u ⟨rfl, hO, hSn⟩; replace hS := hS.trans hSn; clear hSn; simp only [List.set_cons_zero, List.set_cons_succ] at hO))
          obtain ⟨r3, hr3⟩ : ∃ r3, (y.toNat : Int).tmod 4 = r3 := ⟨_, rfl⟩
          by_cases h30 : r3 = 0
          · subst h30
            have HC3 := Lib.hid HC2.out.flushed
            go_wp2_with (first | (refine own_load1_at (ad := ad3.add j) (v := .int .u8 (y.toNat : Int)) rfl rfl rfl row_u8 (HCB.out _ _ (own_at hO (k := 1) rfl)) ?_) | (go_at_call 18; (with_reducible refine Calls.mono (call_at 0 (fun L' h => HFL.out _ L' h) rfl hO) ?_); clear hO; rintro e u ⟨rfl, hO, hSn⟩; replace hS := hS.trans hSn; clear hSn; simp only [List.set_cons_zero, List.set_cons_succ] at hO))
            go_roundw
            case rel => exact ⟨j + 1, _, _, _, by omega, by omega, by go_num, HC3, hO, hS⟩
            case measure => simp [intOf]; omega
          · have h31 : (r3 == 0) = false := by simpa using h30
            go_wp2_with (first | (refine own_load1_at (ad := ad3.add j) (v := .int .u8 (y.toNat : Int)) rfl rfl rfl row_u8 (HCB.out _ _ (own_at hO (k := 1) rfl)) ?_))
            go_roundw
            case rel => exact ⟨j + 1, _, _, _, by omega, by omega, by go_num, HC2, hO, hS⟩
            case measure => simp [intOf]; omega
        · obtain ⟨m', hm'⟩ : ∃ m', m' = crashL (pickV pl) 0 E.m := ⟨_, rfl⟩
          have HCR : Hid (∀ (w' : World) (L' : List HP), Own w' (engP e E :: snap w :: L') → Calls Try.prog 19 #[.pointer (some ⟨e, 0, none⟩), .slice A1 pl.length c1] w' (RetX w' (fun f : Nat => .pointer (some ⟨f, 0, none⟩)) (fun f => diskP f m' :: engP e E :: snap w :: L'))) := Lib.hid fun w' L' h => by
            rw [hm']
            exact ecrash_c w' (snap w :: L') e E (.slice A1 pl.length c1) pl h HC.out.ok (HC.out.vl.mono (by decide)) (fun w2 h2 => HP1.out _ _ h2)
          obtain ⟨t, ht8, hta⟩ := ch_crash (pickV pl) k HC.out.k8 b HC.out.b8
          rw [← HC.out.eq, ← hm'] at hta
          have HTA := Lib.hid hta
          clear hta hm'
          by_cases hlt : j < ws.length
          · have f3 : (j : Int) < ws.length := by omega
            have f4 : ¬ ((j : Int) < 60) := by omega
            have f5 : decide (j < 60) = false := decide_eq_false (by omega)
            clear hgo hlt
            go_wp2_with (first | (go_at_call 19; (with_reducible refine Calls.mono (HCR.out _ _ hO) ?_); clear hO; rintro e1 u ⟨f, rfl, hO, hSn⟩; replace hS := hS.trans hSn; clear hSn))
            go_loopw [12, 13] (fun gv iv wr => ∃ i : Nat, i ≤ 8 ∧ gv = .bool (decide (t < i)) ∧ iv = .int .i64 i ∧ Own wr (diskP f m' :: engP e E :: [snap w]) ∧ Same w wr) (fun _ iv _ => 8 - (intOf iv).toNat)
            case atStart => exact ⟨0, Nat.zero_le _, rfl, rfl, hO, hS⟩
            case round =>
              clear hO hS
              obtain ⟨i, hi, rfl, rfl, hO, hS⟩ := hrel
              by_cases hlt : i < 8
              · have hm1 : (i : Int) < 8 := by omega
                obtain ⟨cb, hc1, hc2⟩ := HTA.out i hlt
                obtain ⟨r, hr1, hr2⟩ := ch_first i t
                have HLD : Hid (∀ (w : World) (L : List HP), Own w (diskP f m' :: L) → Calls Try.prog 20 #[.pointer (some ⟨f, 0, none⟩), .int .i64 (i : Int)] w (Ret w (.tuple #[secV ((if i < t then 120 else 0) :: r), .int .i64 0]) (diskP f m' :: L))) := Lib.hid fun w L h => by rw [← hr1, ← hc2]; exact lasting_ok w L f m' i cb h hc1
                have HL1 : Hid (((if i < t then 120 else 0) :: r : List UInt8).length = 32) := by show _ = _; rw [List.length_cons, hr2]
                clear hc1 hc2 hr1 hr2
                by_cases hit : i < t
                · have hg : decide (t < i) = false := decide_eq_false (by omega)
                  have HG2 : Hid (decide (t < i + 1) = false) := decide_eq_false (by omega)
                  simp only [if_pos hit] at HLD HL1
                  rw [hg]
                  clear hg
                  go_upto_region 25 with (first | (go_at_call 20; (with_reducible refine Calls.mono (call_at 0 (fun L' h => HLD.out _ L' h) rfl hO) ?_); clear hO; rintro e u ⟨rfl, hO, hSn⟩; replace hS := hS.trans hSn; clear hSn; simp only [List.set_cons_zero, List.set_cons_succ] at hO) | (refine own_alloc (T := 47) rfl rfl zero_sec rfl hO ?_; clear hO; intro g1 u hO hSn; replace hS := hS.trans hSn; clear hSn) | (refine own_store_all (k := 0) rfl rfl rfl rfl sz_sec hO rfl (secA_size HL1.out) (by rfl) (bcs_all _) ?_; clear hO; intro u hO hSn; replace hS := hS.trans hSn; clear hSn; simp only [List.set_cons_zero, List.set_cons_succ] at hO))
                  go_wp2_with (first | (refine own_load1 (b := g1) (off := 0) (cs := (bcs (120 :: r)).toArray) (t := 47) (v := .int .u8 120) rfl rfl rfl row_u8 (own_get 0 hO rfl) rfl ?_))
                  have hO := own_drop hO
                  go_roundw
                  case rel => exact ⟨i + 1, by omega, by rw [HG2.out], by go_num, hO, hS⟩
                  case measure => simp [intOf]; omega
                · have HG2 : Hid (decide (t < i + 1) = true) := decide_eq_true (by omega)
                  simp only [if_neg hit] at HLD HL1
                  obtain ⟨gb, hgb⟩ : ∃ gb, decide (t < i) = gb := ⟨_, rfl⟩
                  rw [hgb]
                  clear hgb
                  go_upto_region 25 with (first | (go_at_call 20; (with_reducible refine Calls.mono (call_at 0 (fun L' h => HLD.out _ L' h) rfl hO) ?_); clear hO; rintro e u ⟨rfl, hO, hSn⟩; replace hS := hS.trans hSn; clear hSn; simp only [List.set_cons_zero, List.set_cons_succ] at hO) | (refine own_alloc (T := 47) rfl rfl zero_sec rfl hO ?_; clear hO; intro g1 u hO hSn; replace hS := hS.trans hSn; clear hSn) | (refine own_store_all (k := 0) rfl rfl rfl rfl sz_sec hO rfl (secA_size HL1.out) (by rfl) (bcs_all _) ?_; clear hO; intro u hO hSn; replace hS := hS.trans hSn; clear hSn; simp only [List.set_cons_zero, List.set_cons_succ] at hO))
                  cases gb with
                  | true =>
                    go_wp2_with (first | (refine own_load1 (b := g1) (off := 0) (cs := (bcs (0 :: r)).toArray) (t := 47) (v := .int .u8 0) rfl rfl rfl row_u8 (own_get 0 hO rfl) rfl ?_))
                    have hO := own_drop hO
                    go_roundw
                    case rel => exact ⟨i + 1, by omega, by rw [HG2.out], by go_num, hO, hS⟩
                    case measure => simp [intOf]; omega
                  | false =>
                    go_wp2_with (first | (refine own_load1 (b := g1) (off := 0) (cs := (bcs (0 :: r)).toArray) (t := 47) (v := .int .u8 0) rfl rfl rfl row_u8 (own_get 0 hO rfl) rfl ?_))
                    have hO := own_drop hO
                    go_roundw
                    case rel => exact ⟨i + 1, by omega, by rw [HG2.out], by go_num, hO, hS⟩
                    case measure => simp [intOf]; omega
              · have hnl : ¬ ((i : Int) < 8) := by omega
                have hO := own_drop hO
                obtain ⟨hs1, hs2⟩ := sync_all _ E rfl HC.out.ok HC.out.hale
                obtain ⟨G, hG⟩ : ∃ G, G = E.sync.2 := ⟨_, rfl⟩
                have HOG : Hid (G.Ok ∧ G.l = []) := ⟨by rw [hG]; exact (sync_ok HC.out.ok HC.out.inv).1, by rw [hG]; exact hs2⟩
                have HSY : Hid (∀ (w' : World) (L' : List HP), Own w' (engP e E :: L') → Calls Try.prog 21 #[.pointer (some ⟨e, 0, none⟩)] w' (Ret w' (.int .i64 0) (engP e G :: L'))) := Lib.hid fun w' L' h => by
                  have h1 := esync_c w' L' e E h HC.out.ok (HC.out.vl.mono (by decide)) (by have := HC.out.m8; omega)
                  rw [hs1] at h1
                  rw [hG]
                  exact h1
                have HWC : Hid (∀ (w' : World) (L' : List HP), Own w' (engP e G :: L') → Calls Try.prog 22 #[.pointer (some ⟨e, 0, none⟩)] w' (RetX w' (fun v : Value => v) (fun v => owns 3 1 v 0 [] :: engP e G :: L'))) := Lib.hid fun w' L' h => by
                  have h1 := ewaiting_c w' L' e G h HOG.out.1
                  unfold Eng.waiting at h1
                  rw [HOG.out.2] at h1
                  exact h1
                clear hs1 hs2 hG
                go_wp2_with (first | (go_at_call 21; (with_reducible refine Calls.mono (call_at 0 (fun L' h => HSY.out _ L' h) rfl hO) ?_); clear hO; rintro e u ⟨rfl, hO, hSn⟩; replace hS := hS.trans hSn; clear hSn; simp only [List.set_cons_zero, List.set_cons_succ] at hO) | (go_at_call 22; (with_reducible refine Calls.mono (HWC.out _ _ hO) ?_); clear hO; rintro e1 u ⟨v, rfl, hO, hSn⟩; replace hS := hS.trans hSn; clear hSn; obtain ⟨VA, vc, rfl⟩ := (owns_rd hO).slice; replace hO := own_drop hO))
                go_ret
                exact ⟨rfl, below_of (own_at hO (k := 1) rfl) hS⟩
          · have f3 : ¬ ((j : Int) < ws.length) := by omega
            clear hgo hlt
            go_wp2_with (first | (go_at_call 19; (with_reducible refine Calls.mono (HCR.out _ _ hO) ?_); clear hO; rintro e1 u ⟨f, rfl, hO, hSn⟩; replace hS := hS.trans hSn; clear hSn))
            go_loopw [12, 13] (fun gv iv wr => ∃ i : Nat, i ≤ 8 ∧ gv = .bool (decide (t < i)) ∧ iv = .int .i64 i ∧ Own wr (diskP f m' :: engP e E :: [snap w]) ∧ Same w wr) (fun _ iv _ => 8 - (intOf iv).toNat)
            case atStart => exact ⟨0, Nat.zero_le _, rfl, rfl, hO, hS⟩
            case round =>
              clear hO hS
              obtain ⟨i, hi, rfl, rfl, hO, hS⟩ := hrel
              by_cases hlt : i < 8
              · have hm1 : (i : Int) < 8 := by omega
                obtain ⟨cb, hc1, hc2⟩ := HTA.out i hlt
                obtain ⟨r, hr1, hr2⟩ := ch_first i t
                have HLD : Hid (∀ (w : World) (L : List HP), Own w (diskP f m' :: L) → Calls Try.prog 20 #[.pointer (some ⟨f, 0, none⟩), .int .i64 (i : Int)] w (Ret w (.tuple #[secV ((if i < t then 120 else 0) :: r), .int .i64 0]) (diskP f m' :: L))) := Lib.hid fun w L h => by rw [← hr1, ← hc2]; exact lasting_ok w L f m' i cb h hc1
                have HL1 : Hid (((if i < t then 120 else 0) :: r : List UInt8).length = 32) := by show _ = _; rw [List.length_cons, hr2]
                clear hc1 hc2 hr1 hr2
                by_cases hit : i < t
                · have hg : decide (t < i) = false := decide_eq_false (by omega)
                  have HG2 : Hid (decide (t < i + 1) = false) := decide_eq_false (by omega)
                  simp only [if_pos hit] at HLD HL1
                  rw [hg]
                  clear hg
                  go_upto_region 25 with (first | (go_at_call 20; (with_reducible refine Calls.mono (call_at 0 (fun L' h => HLD.out _ L' h) rfl hO) ?_); clear hO; rintro e u ⟨rfl, hO, hSn⟩; replace hS := hS.trans hSn; clear hSn; simp only [List.set_cons_zero, List.set_cons_succ] at hO) | (refine own_alloc (T := 47) rfl rfl zero_sec rfl hO ?_; clear hO; intro g1 u hO hSn; replace hS := hS.trans hSn; clear hSn) | (refine own_store_all (k := 0) rfl rfl rfl rfl sz_sec hO rfl (secA_size HL1.out) (by rfl) (bcs_all _) ?_; clear hO; intro u hO hSn; replace hS := hS.trans hSn; clear hSn; simp only [List.set_cons_zero, List.set_cons_succ] at hO))
                  go_wp2_with (first | (refine own_load1 (b := g1) (off := 0) (cs := (bcs (120 :: r)).toArray) (t := 47) (v := .int .u8 120) rfl rfl rfl row_u8 (own_get 0 hO rfl) rfl ?_))
                  have hO := own_drop hO
                  go_roundw
                  case rel => exact ⟨i + 1, by omega, by rw [HG2.out], by go_num, hO, hS⟩
                  case measure => simp [intOf]; omega
                · have HG2 : Hid (decide (t < i + 1) = true) := decide_eq_true (by omega)
                  simp only [if_neg hit] at HLD HL1
                  obtain ⟨gb, hgb⟩ : ∃ gb, decide (t < i) = gb := ⟨_, rfl⟩
                  rw [hgb]
                  clear hgb
                  go_upto_region 25 with (first | (go_at_call 20; (with_reducible refine Calls.mono (call_at 0 (fun L' h => HLD.out _ L' h) rfl hO) ?_); clear hO; rintro e u ⟨rfl, hO, hSn⟩; replace hS := hS.trans hSn; clear hSn; simp only [List.set_cons_zero, List.set_cons_succ] at hO) | (refine own_alloc (T := 47) rfl rfl zero_sec rfl hO ?_; clear hO; intro g1 u hO hSn; replace hS := hS.trans hSn; clear hSn) | (refine own_store_all (k := 0) rfl rfl rfl rfl sz_sec hO rfl (secA_size HL1.out) (by rfl) (bcs_all _) ?_; clear hO; intro u hO hSn; replace hS := hS.trans hSn; clear hSn; simp only [List.set_cons_zero, List.set_cons_succ] at hO))
                  cases gb with
                  | true =>
                    go_wp2_with (first | (refine own_load1 (b := g1) (off := 0) (cs := (bcs (0 :: r)).toArray) (t := 47) (v := .int .u8 0) rfl rfl rfl row_u8 (own_get 0 hO rfl) rfl ?_))
                    have hO := own_drop hO
                    go_roundw
                    case rel => exact ⟨i + 1, by omega, by rw [HG2.out], by go_num, hO, hS⟩
                    case measure => simp [intOf]; omega
                  | false =>
                    go_wp2_with (first | (refine own_load1 (b := g1) (off := 0) (cs := (bcs (0 :: r)).toArray) (t := 47) (v := .int .u8 0) rfl rfl rfl row_u8 (own_get 0 hO rfl) rfl ?_))
                    have hO := own_drop hO
                    go_roundw
                    case rel => exact ⟨i + 1, by omega, by rw [HG2.out], by go_num, hO, hS⟩
                    case measure => simp [intOf]; omega
              · have hnl : ¬ ((i : Int) < 8) := by omega
                have hO := own_drop hO
                obtain ⟨hs1, hs2⟩ := sync_all _ E rfl HC.out.ok HC.out.hale
                obtain ⟨G, hG⟩ : ∃ G, G = E.sync.2 := ⟨_, rfl⟩
                have HOG : Hid (G.Ok ∧ G.l = []) := ⟨by rw [hG]; exact (sync_ok HC.out.ok HC.out.inv).1, by rw [hG]; exact hs2⟩
                have HSY : Hid (∀ (w' : World) (L' : List HP), Own w' (engP e E :: L') → Calls Try.prog 21 #[.pointer (some ⟨e, 0, none⟩)] w' (Ret w' (.int .i64 0) (engP e G :: L'))) := Lib.hid fun w' L' h => by
                  have h1 := esync_c w' L' e E h HC.out.ok (HC.out.vl.mono (by decide)) (by have := HC.out.m8; omega)
                  rw [hs1] at h1
                  rw [hG]
                  exact h1
                have HWC : Hid (∀ (w' : World) (L' : List HP), Own w' (engP e G :: L') → Calls Try.prog 22 #[.pointer (some ⟨e, 0, none⟩)] w' (RetX w' (fun v : Value => v) (fun v => owns 3 1 v 0 [] :: engP e G :: L'))) := Lib.hid fun w' L' h => by
                  have h1 := ewaiting_c w' L' e G h HOG.out.1
                  unfold Eng.waiting at h1
                  rw [HOG.out.2] at h1
                  exact h1
                clear hs1 hs2 hG
                go_wp2_with (first | (go_at_call 21; (with_reducible refine Calls.mono (call_at 0 (fun L' h => HSY.out _ L' h) rfl hO) ?_); clear hO; rintro e u ⟨rfl, hO, hSn⟩; replace hS := hS.trans hSn; clear hSn; simp only [List.set_cons_zero, List.set_cons_succ] at hO) | (go_at_call 22; (with_reducible refine Calls.mono (HWC.out _ _ hO) ?_); clear hO; rintro e1 u ⟨v, rfl, hO, hSn⟩; replace hS := hS.trans hSn; clear hSn; obtain ⟨VA, vc, rfl⟩ := (owns_rd hO).slice; replace hO := own_drop hO))
                go_ret
                exact ⟨rfl, below_of (own_at hO (k := 1) rfl) hS⟩
end Go.Proofs.Ytonohjhmnlfakaa.H
