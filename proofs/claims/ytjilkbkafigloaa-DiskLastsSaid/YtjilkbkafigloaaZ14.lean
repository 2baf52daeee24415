/- DiskLoads: the walk. A range over a map; maps.Clone. -/
import Derived.Test.YtjilkbkafigloaaZ12
import Derived.Test.YtjilkbkafigloaaZ08
import Derived.Maps.Range
set_option linter.unusedVariables false
set_option linter.unusedSimpArgs false
set_option maxRecDepth 100000
namespace Go.Proofs.Ytjilkbkafigloaa.H
open Go.RowKit
abbrev secsOf (bs : List UInt8) : List Sec := bs.map sec
theorem secsOf_32 (bs : List UInt8) : ∀ s ∈ secsOf bs, s.length = 32 := fun s hs => by obtain ⟨c, _, rfl⟩ := List.mem_map.1 hs; simp
theorem secsOf_next {bs : List UInt8} {k : Nat} {x : UInt8} (hx : bs[k]? = some x) : secs (secsOf (bs.take (k + 1))) = secs (secsOf (bs.take k)) ++ bcs (sec x) := by
  rw [List.take_add_one, hx]
  simp only [secsOf, List.map_append, Option.toList_some, List.map_cons, List.map_nil]
  rw [secs_append]
  simp [secs]
/-- What is owned in the law's loop. -/
abbrev ldL (va vb : Value) (k : Nat) (bs : List UInt8) (L : List HP) : List HP := owns 26 32 va k (secs (secsOf (bs.take k))) :: owns 28 32 vb k (secs (secsOf (bs.take k))) :: L
set_option maxHeartbeats 12800000 in
theorem loads_law (w : World) (A : Option Addr) (n0 c : Nat) (l0 : List UInt8) (hl0 : n0 = l0.length) (hr0 : Rd w 1 (.slice A n0 c) n0 (bcs l0)) (ni : Int) :
    Calls Try.prog 3 #[.slice A n0 c, .int .i64 ni] w (fun e w' => e = .returned (.bool true) ∧ Below w.heap.size w w') := by
  subst hl0
  have HNI : Hid ((ni < 1 ∧ (ni < 1 ∨ 96 < ni)) ∨ (¬ ni < 1 ∧ 96 < ni ∧ (ni < 1 ∨ 96 < ni)) ∨ ∃ N : Nat, 0 < N ∧ N ≤ 96 ∧ True ∧ ni = (N : Int)) := by
    show _ ∨ _ ∨ _
    by_cases h1 : ni < 1
    · exact .inl ⟨h1, .inl h1⟩
    · by_cases h2 : 96 < ni
      · exact .inr (.inl ⟨h1, h2, .inr h2⟩)
      · exact .inr (.inr ⟨ni.toNat, by omega, by omega, trivial, by omega⟩)
  have hO : Own w [snap w] := own_snap
  have hS := Same.refl w
  have hmx := hr0.max
  by_cases h100 : 100 < l0.length
  · obtain ⟨bs, hbs⟩ : ∃ bs, bs = l0.take 100 := ⟨_, rfl⟩
    have hbl : 100 = bs.length := by rw [hbs, List.length_take]; omega
    have HR : Hid (∀ w' L, Own w' (snap w :: L) → Rd w' 1 (.slice A bs.length c) bs.length (bcs bs)) := Lib.hid fun w' L h => by
      have h2 := (rd_snapD hr0 h).low (k := 100) (c' := c) (by omega) (by omega) hmx.2
      rw [← hbl, hbs]
      have e : bcs (l0.take 100) = (bcs l0).take (100 * 1) := by simp [bcs, List.map_take]
      rw [e]
      exact h2
    have H100 : Hid (bs.length ≤ 100) := Lib.hid (by omega)
    have f1 : (100 : Int) < l0.length := by omega
    have f2 : (100 : Int) ≤ c := by omega
    have f3 : 100 ≤ c := by omega
    have HBL : Hid (100 = bs.length) := hbl
    clear h100 hr0 hbl hbs
    go_enter Try.func3, Try.ntmps3
    go_wp2
    rw [HBL.out]
    clear f1 f2 f3 HBL
    go_loopw [5, 6, 7] (fun sa sb kv wr => ∃ k : Nat, k ≤ bs.length ∧ kv = .int .i64 k ∧ Own wr (ldL sa sb k bs [snap w]) ∧ Same w wr) (fun _ _ kv _ => bs.length - (intOf kv).toNat)
    case atStart => exact ⟨0, Nat.zero_le _, rfl, owns_nil (owns_nil hO |> fun h => own_perm h (List.Perm.refl _)), hS⟩
    case round =>
      clear hO hS
      obtain ⟨k, hk, rfl, hO, hS⟩ := hrel
      by_cases hlt : k < bs.length
      · have hk1 : (k : Int) < bs.length := by omega
        obtain ⟨x, hx⟩ : ∃ x, bs[k]? = some x := ⟨_, List.getElem?_eq_getElem hlt⟩
        obtain ⟨ad, rfl⟩ := (HR.out _ _ (own_at hO (k := 2) rfl)).addr (by rw [bcs_length]; omega)
        have HC : Hid (∀ (X Y : HP) w', Own w' (X :: Y :: [snap w]) → w'.cell? (ad.add k) = some (.int .u8 (x.toNat : Int))) := Lib.hid fun X Y w' h => by
          have h1 : w'.cell? ((ad.add (k * 1)).add 0) = some (.int .u8 (x.toNat : Int)) := (HR.out w' _ (own_at h (k := 2) rfl)).cell (by rw [Nat.mul_one, Nat.add_zero]; unfold bcs; rw [List.getElem?_map, hx]; rfl)
          rwa [addr_add, Nat.mul_one, Nat.add_zero] at h1
        have HNX := Lib.hid (secsOf_next hx)
        have HK : Hid (k ≤ 100) := by have := H100.out; show _ ≤ _; omega
        have hk9 : k < 100 := by have := H100.out; omega
        clear hx
        go_wp2_with (first | (go_at_call 10; (with_reducible refine Calls.mono (sector_c _ _ x hO) ?_); clear hO; rintro e u ⟨rfl, hO, hSn⟩; replace hS := hS.trans hSn; clear hSn) | (refine own_load1_at (ad := ad.add k) (v := .int .u8 (x.toNat : Int)) rfl rfl rfl row_u8D (HC.out _ _ _ hO) ?_) | (refine own_bs1 (s := sec x) rfl rfl rfl (by simp) ?_; replace hO := own_alloc_new hO (.cells (bcs (sec x)).toArray 26); replace hS := hS.trans (Same.alloc _ (.cells (bcs (sec x)).toArray 26))) | (refine own_append (m := 1) (n := k) (xs := secs (secsOf (bs.take k))) (news := bcs (sec x)) rfl rfl rfl rfl Try.underlying23 info_sec3 (by simp [Value.cells]) (by decide) (own_perm hO (List.Perm.swap _ _ _)) (rd_block (own_get 0 hO rfl) (List.take_of_length_le (by simp [bcs_length])) (by simp [bcs_length]) (by decide) (by decide)) (bcs_one _) ?_ ?_ ?_; (have := HK.out; simp only [maxLen]; omega); (have := HK.out; omega); clear hO; intro va2 u hO hSn hv'; clear hv'; replace hS := hS.trans hSn; clear hSn; replace hO := own_skip hO; rw [← HNX.out] at hO) | (refine own_rbs1 (s := sec x) rfl rfl rfl (by simp) ?_; replace hO := own_alloc_new hO (.cells (bcs (sec x)).toArray 28); replace hS := hS.trans (Same.alloc _ (.cells (bcs (sec x)).toArray 28))) | (refine own_append (m := 1) (n := k) (xs := secs (secsOf (bs.take k))) (news := bcs (sec x)) rfl rfl rfl rfl Try.underlying24 info_rsec3 (by simp [Value.cells]) (by decide) (own_at hO (k := 2) rfl) (rd_block (own_get 0 hO rfl) (List.take_of_length_le (by simp [bcs_length])) (by simp [bcs_length]) (by decide) (by decide)) (bcs_one _) ?_ ?_ ?_; (have := HK.out; simp only [maxLen]; omega); (have := HK.out; omega); clear hO; intro vb2 u hO hSn hv'; clear hv'; replace hS := hS.trans hSn; clear hSn; replace hO := own_perm (own_skip hO) (List.Perm.swap _ _ _); rw [← HNX.out] at hO))
        go_roundw
        case rel => exact ⟨k + 1, by omega, by go_num, hO, hS⟩
        case measure => simp [intOf]; omega
      · have hke : k = bs.length := by omega
        subst hke
        simp only [ldL, List.take_length] at hO
        obtain ⟨S, hSS⟩ : ∃ S, S = secsOf bs := ⟨_, rfl⟩
        have hSl : bs.length = S.length := by rw [hSS, List.length_map]
        have HS32 : Hid (∀ s ∈ S, s.length = 32) := by show ∀ s ∈ S, _; rw [hSS]; exact secsOf_32 bs
        rw [← hSS] at hO
        rw [hSl] at hO
        obtain ⟨Aa, ca, rfl⟩ := (owns_rd hO).slice
        obtain ⟨Ab, cb, rfl⟩ := (owns_rd (own_drop hO)).slice
        clear hSS
        generalize bs.length = bl at *
        subst hSl
        by_cases hN : S.length = 0 ∨ 96 < S.length
        · have HNN := Lib.hid hN
          clear hN
          go_wp2_with (first | (go_at_call 11; (with_reducible refine Calls.mono (load_no _ _ Aa S.length ca hO HNN.out) ?_); clear hO; rintro e u ⟨rfl, hO, hSn⟩; replace hS := hS.trans hSn; clear hSn) | (go_at_call 12; (with_reducible refine Calls.mono (rload_no _ _ Ab S.length cb hO HNN.out) ?_); clear hO; rintro e u ⟨rfl, hO, hSn⟩; replace hS := hS.trans hSn; clear hSn))
          rcases HNI.out with ⟨h1, hno⟩ | ⟨h1, h2, hno⟩ | ⟨N, h1, h2, h3, rfl⟩
          · have HNO := Lib.hid hno
            have d1 : decide (ni < 1) = true := decide_eq_true (by omega)
            clear hno
            go_wp2_with (first | (go_at_call 13; (with_reducible refine Calls.mono (live4_c _ _ hO) ?_); clear hO; rintro e u ⟨rfl, hO, hSn⟩; replace hS := hS.trans hSn; clear hSn) | (go_at_call 14; (with_reducible refine Calls.mono (new_no _ _ ni hO HNO.out) ?_); clear hO; rintro e u ⟨rfl, hO, hSn⟩; replace hS := hS.trans hSn; clear hSn) )
            go_ret
            exact ⟨rfl, below_of (own_at hO (k := 2) rfl) hS⟩
          · have HNO := Lib.hid hno
            have d1 : decide (ni < 1) = false := decide_eq_false (by omega)
            have d2 : decide (96 < ni) = true := decide_eq_true (by omega)
            clear hno
            go_wp2_with (first | (go_at_call 13; (with_reducible refine Calls.mono (live4_c _ _ hO) ?_); clear hO; rintro e u ⟨rfl, hO, hSn⟩; replace hS := hS.trans hSn; clear hSn) | (go_at_call 14; (with_reducible refine Calls.mono (new_no _ _ ni hO HNO.out) ?_); clear hO; rintro e u ⟨rfl, hO, hSn⟩; replace hS := hS.trans hSn; clear hSn) )
            go_ret
            exact ⟨rfl, below_of (own_at hO (k := 2) rfl) hS⟩
          · have HN0 := Lib.hid h1
            have HN9 := Lib.hid h2
            have g1 : ¬ ((N : Int) < 1) := by omega
            have g2 : ¬ (96 < (N : Int)) := by omega
            have d1 : decide ((N : Int) < 1) = false := decide_eq_false g1
            have d2 : decide (96 < (N : Int)) = false := decide_eq_false g2
            clear h1 h2 h3
            go_wp2_with (first | (go_at_call 13; (with_reducible refine Calls.mono (live4_c _ _ hO) ?_); clear hO; rintro e u ⟨rfl, hO, hSn⟩; replace hS := hS.trans hSn; clear hSn) | (go_at_call 14; (with_reducible refine Calls.mono (new_ok _ _ N hO HN0.out HN9.out) ?_); clear hO; rintro e u ⟨dn, rfl, hO, hSn⟩; replace hS := hS.trans hSn; clear hSn) )
            go_ret
            exact ⟨rfl, below_of (own_at hO (k := 2 + 1) rfl) hS⟩
        · have HS0 : Hid (0 < S.length) := by show 0 < _; omega
          have HS9 : Hid (S.length ≤ 96) := by show _ ≤ 96; omega
          clear hN
          go_wp2_with (first | (go_at_call 11; (with_reducible refine Calls.mono (load_ok _ _ (.slice Aa S.length ca) S hO (fun w' h => owns_rd h) HS0.out HS9.out HS32.out) ?_); clear hO; rintro e u ⟨d, rfl, hO, hSn⟩; replace hS := hS.trans hSn; clear hSn) | (go_at_call 12; (with_reducible refine Calls.mono (rload_ok _ _ (.slice Ab S.length cb) S hO (fun w' h => owns_rd (own_at h (k := 2) rfl)) HS0.out HS9.out HS32.out) ?_); clear hO; rintro e u ⟨q, rfl, hO, hSn⟩; replace hS := hS.trans hSn; clear hSn))
          replace hO := own_perm hO (List.Perm.swap _ _ _)
          rcases HNI.out with ⟨h1, hno⟩ | ⟨h1, h2, hno⟩ | ⟨N, h1, h2, h3, rfl⟩
          · have HNO := Lib.hid hno
            have d1 : decide (ni < 1) = true := decide_eq_true (by omega)
            clear hno
            go_wp2_with (first | (go_at_call 13; (with_reducible refine Calls.mono (live4_c _ _ hO) ?_); clear hO; rintro e u ⟨rfl, hO, hSn⟩; replace hS := hS.trans hSn; clear hSn) | (go_at_call 14; (with_reducible refine Calls.mono (new_no _ _ ni hO HNO.out) ?_); clear hO; rintro e u ⟨rfl, hO, hSn⟩; replace hS := hS.trans hSn; clear hSn) | (go_at_call 15; (with_reducible refine Calls.mono (same_d _ _ d q (fresh S) hO) ?_); clear hO; rintro e u ⟨rfl, hO, hSn⟩; replace hS := hS.trans hSn; clear hSn))
            go_ret
            exact ⟨rfl, below_of (own_at hO (k := 4) rfl) hS⟩
          · have HNO := Lib.hid hno
            have d1 : decide (ni < 1) = false := decide_eq_false (by omega)
            have d2 : decide (96 < ni) = true := decide_eq_true (by omega)
            clear hno
            go_wp2_with (first | (go_at_call 13; (with_reducible refine Calls.mono (live4_c _ _ hO) ?_); clear hO; rintro e u ⟨rfl, hO, hSn⟩; replace hS := hS.trans hSn; clear hSn) | (go_at_call 14; (with_reducible refine Calls.mono (new_no _ _ ni hO HNO.out) ?_); clear hO; rintro e u ⟨rfl, hO, hSn⟩; replace hS := hS.trans hSn; clear hSn) | (go_at_call 15; (with_reducible refine Calls.mono (same_d _ _ d q (fresh S) hO) ?_); clear hO; rintro e u ⟨rfl, hO, hSn⟩; replace hS := hS.trans hSn; clear hSn))
            go_ret
            exact ⟨rfl, below_of (own_at hO (k := 4) rfl) hS⟩
          · have HN0 := Lib.hid h1
            have HN9 := Lib.hid h2
            have g1 : ¬ ((N : Int) < 1) := by omega
            have g2 : ¬ (96 < (N : Int)) := by omega
            have d1 : decide ((N : Int) < 1) = false := decide_eq_false g1
            have d2 : decide (96 < (N : Int)) = false := decide_eq_false g2
            clear h1 h2 h3
            go_wp2_with (first | (go_at_call 13; (with_reducible refine Calls.mono (live4_c _ _ hO) ?_); clear hO; rintro e u ⟨rfl, hO, hSn⟩; replace hS := hS.trans hSn; clear hSn) | (go_at_call 14; (with_reducible refine Calls.mono (new_ok _ _ N hO HN0.out HN9.out) ?_); clear hO; rintro e u ⟨dn, rfl, hO, hSn⟩; replace hS := hS.trans hSn; clear hSn) | (go_at_call 15; (with_reducible refine Calls.mono (same_d _ _ d q (fresh S) hO) ?_); clear hO; rintro e u ⟨rfl, hO, hSn⟩; replace hS := hS.trans hSn; clear hSn))
            go_ret
            exact ⟨rfl, below_of (own_at hO (k := 4 + 1) rfl) hS⟩
  · obtain ⟨bs, hbs⟩ : ∃ bs, bs = l0 := ⟨_, rfl⟩
    subst hbs
    have HR : Hid (∀ w' L, Own w' (snap w :: L) → Rd w' 1 (.slice A bs.length c) bs.length (bcs bs)) := Lib.hid fun w' L h => rd_snapD hr0 h
    have H100 : Hid (bs.length ≤ 100) := Lib.hid (by omega)
    have f1 : ¬ ((100 : Int) < bs.length) := by omega
    clear h100 hr0
    go_enter Try.func3, Try.ntmps3
    go_wp2
    go_loopw [5, 6, 7] (fun sa sb kv wr => ∃ k : Nat, k ≤ bs.length ∧ kv = .int .i64 k ∧ Own wr (ldL sa sb k bs [snap w]) ∧ Same w wr) (fun _ _ kv _ => bs.length - (intOf kv).toNat)
    case atStart => exact ⟨0, Nat.zero_le _, rfl, owns_nil (owns_nil hO |> fun h => own_perm h (List.Perm.refl _)), hS⟩
    case round =>
      clear hO hS
      obtain ⟨k, hk, rfl, hO, hS⟩ := hrel
      by_cases hlt : k < bs.length
      · have hk1 : (k : Int) < bs.length := by omega
        obtain ⟨x, hx⟩ : ∃ x, bs[k]? = some x := ⟨_, List.getElem?_eq_getElem hlt⟩
        obtain ⟨ad, rfl⟩ := (HR.out _ _ (own_at hO (k := 2) rfl)).addr (by rw [bcs_length]; omega)
        have HC : Hid (∀ (X Y : HP) w', Own w' (X :: Y :: [snap w]) → w'.cell? (ad.add k) = some (.int .u8 (x.toNat : Int))) := Lib.hid fun X Y w' h => by
          have h1 : w'.cell? ((ad.add (k * 1)).add 0) = some (.int .u8 (x.toNat : Int)) := (HR.out w' _ (own_at h (k := 2) rfl)).cell (by rw [Nat.mul_one, Nat.add_zero]; unfold bcs; rw [List.getElem?_map, hx]; rfl)
          rwa [addr_add, Nat.mul_one, Nat.add_zero] at h1
        have HNX := Lib.hid (secsOf_next hx)
        have HK : Hid (k ≤ 100) := by have := H100.out; show _ ≤ _; omega
        have hk9 : k < 100 := by have := H100.out; omega
        clear hx
        go_wp2_with (first | (go_at_call 10; (with_reducible refine Calls.mono (sector_c _ _ x hO) ?_); clear hO; rintro e u ⟨rfl, hO, hSn⟩; replace hS := hS.trans hSn; clear hSn) | (refine own_load1_at (ad := ad.add k) (v := .int .u8 (x.toNat : Int)) rfl rfl rfl row_u8D (HC.out _ _ _ hO) ?_) | (refine own_bs1 (s := sec x) rfl rfl rfl (by simp) ?_; replace hO := own_alloc_new hO (.cells (bcs (sec x)).toArray 26); replace hS := hS.trans (Same.alloc _ (.cells (bcs (sec x)).toArray 26))) | (refine own_append (m := 1) (n := k) (xs := secs (secsOf (bs.take k))) (news := bcs (sec x)) rfl rfl rfl rfl Try.underlying23 info_sec3 (by simp [Value.cells]) (by decide) (own_perm hO (List.Perm.swap _ _ _)) (rd_block (own_get 0 hO rfl) (List.take_of_length_le (by simp [bcs_length])) (by simp [bcs_length]) (by decide) (by decide)) (bcs_one _) ?_ ?_ ?_; (have := HK.out; simp only [maxLen]; omega); (have := HK.out; omega); clear hO; intro va2 u hO hSn hv'; clear hv'; replace hS := hS.trans hSn; clear hSn; replace hO := own_skip hO; rw [← HNX.out] at hO) | (refine own_rbs1 (s := sec x) rfl rfl rfl (by simp) ?_; replace hO := own_alloc_new hO (.cells (bcs (sec x)).toArray 28); replace hS := hS.trans (Same.alloc _ (.cells (bcs (sec x)).toArray 28))) | (refine own_append (m := 1) (n := k) (xs := secs (secsOf (bs.take k))) (news := bcs (sec x)) rfl rfl rfl rfl Try.underlying24 info_rsec3 (by simp [Value.cells]) (by decide) (own_at hO (k := 2) rfl) (rd_block (own_get 0 hO rfl) (List.take_of_length_le (by simp [bcs_length])) (by simp [bcs_length]) (by decide) (by decide)) (bcs_one _) ?_ ?_ ?_; (have := HK.out; simp only [maxLen]; omega); (have := HK.out; omega); clear hO; intro vb2 u hO hSn hv'; clear hv'; replace hS := hS.trans hSn; clear hSn; replace hO := own_perm (own_skip hO) (List.Perm.swap _ _ _); rw [← HNX.out] at hO))
        go_roundw
        case rel => exact ⟨k + 1, by omega, by go_num, hO, hS⟩
        case measure => simp [intOf]; omega
      · have hke : k = bs.length := by omega
        subst hke
        simp only [ldL, List.take_length] at hO
        obtain ⟨S, hSS⟩ : ∃ S, S = secsOf bs := ⟨_, rfl⟩
        have hSl : bs.length = S.length := by rw [hSS, List.length_map]
        have HS32 : Hid (∀ s ∈ S, s.length = 32) := by show ∀ s ∈ S, _; rw [hSS]; exact secsOf_32 bs
        rw [← hSS] at hO
        rw [hSl] at hO
        obtain ⟨Aa, ca, rfl⟩ := (owns_rd hO).slice
        obtain ⟨Ab, cb, rfl⟩ := (owns_rd (own_drop hO)).slice
        clear hSS
        generalize bs.length = bl at *
        subst hSl
        by_cases hN : S.length = 0 ∨ 96 < S.length
        · have HNN := Lib.hid hN
          clear hN
          go_wp2_with (first | (go_at_call 11; (with_reducible refine Calls.mono (load_no _ _ Aa S.length ca hO HNN.out) ?_); clear hO; rintro e u ⟨rfl, hO, hSn⟩; replace hS := hS.trans hSn; clear hSn) | (go_at_call 12; (with_reducible refine Calls.mono (rload_no _ _ Ab S.length cb hO HNN.out) ?_); clear hO; rintro e u ⟨rfl, hO, hSn⟩; replace hS := hS.trans hSn; clear hSn))
          rcases HNI.out with ⟨h1, hno⟩ | ⟨h1, h2, hno⟩ | ⟨N, h1, h2, h3, rfl⟩
          · have HNO := Lib.hid hno
            have d1 : decide (ni < 1) = true := decide_eq_true (by omega)
            clear hno
            go_wp2_with (first | (go_at_call 13; (with_reducible refine Calls.mono (live4_c _ _ hO) ?_); clear hO; rintro e u ⟨rfl, hO, hSn⟩; replace hS := hS.trans hSn; clear hSn) | (go_at_call 14; (with_reducible refine Calls.mono (new_no _ _ ni hO HNO.out) ?_); clear hO; rintro e u ⟨rfl, hO, hSn⟩; replace hS := hS.trans hSn; clear hSn) )
            go_ret
            exact ⟨rfl, below_of (own_at hO (k := 2) rfl) hS⟩
          · have HNO := Lib.hid hno
            have d1 : decide (ni < 1) = false := decide_eq_false (by omega)
            have d2 : decide (96 < ni) = true := decide_eq_true (by omega)
            clear hno
            go_wp2_with (first | (go_at_call 13; (with_reducible refine Calls.mono (live4_c _ _ hO) ?_); clear hO; rintro e u ⟨rfl, hO, hSn⟩; replace hS := hS.trans hSn; clear hSn) | (go_at_call 14; (with_reducible refine Calls.mono (new_no _ _ ni hO HNO.out) ?_); clear hO; rintro e u ⟨rfl, hO, hSn⟩; replace hS := hS.trans hSn; clear hSn) )
            go_ret
            exact ⟨rfl, below_of (own_at hO (k := 2) rfl) hS⟩
          · have HN0 := Lib.hid h1
            have HN9 := Lib.hid h2
            have g1 : ¬ ((N : Int) < 1) := by omega
            have g2 : ¬ (96 < (N : Int)) := by omega
            have d1 : decide ((N : Int) < 1) = false := decide_eq_false g1
            have d2 : decide (96 < (N : Int)) = false := decide_eq_false g2
            clear h1 h2 h3
            go_wp2_with (first | (go_at_call 13; (with_reducible refine Calls.mono (live4_c _ _ hO) ?_); clear hO; rintro e u ⟨rfl, hO, hSn⟩; replace hS := hS.trans hSn; clear hSn) | (go_at_call 14; (with_reducible refine Calls.mono (new_ok _ _ N hO HN0.out HN9.out) ?_); clear hO; rintro e u ⟨dn, rfl, hO, hSn⟩; replace hS := hS.trans hSn; clear hSn) )
            go_ret
            exact ⟨rfl, below_of (own_at hO (k := 2 + 1) rfl) hS⟩
        · have HS0 : Hid (0 < S.length) := by show 0 < _; omega
          have HS9 : Hid (S.length ≤ 96) := by show _ ≤ 96; omega
          clear hN
          go_wp2_with (first | (go_at_call 11; (with_reducible refine Calls.mono (load_ok _ _ (.slice Aa S.length ca) S hO (fun w' h => owns_rd h) HS0.out HS9.out HS32.out) ?_); clear hO; rintro e u ⟨d, rfl, hO, hSn⟩; replace hS := hS.trans hSn; clear hSn) | (go_at_call 12; (with_reducible refine Calls.mono (rload_ok _ _ (.slice Ab S.length cb) S hO (fun w' h => owns_rd (own_at h (k := 2) rfl)) HS0.out HS9.out HS32.out) ?_); clear hO; rintro e u ⟨q, rfl, hO, hSn⟩; replace hS := hS.trans hSn; clear hSn))
          replace hO := own_perm hO (List.Perm.swap _ _ _)
          rcases HNI.out with ⟨h1, hno⟩ | ⟨h1, h2, hno⟩ | ⟨N, h1, h2, h3, rfl⟩
          · have HNO := Lib.hid hno
            have d1 : decide (ni < 1) = true := decide_eq_true (by omega)
            clear hno
            go_wp2_with (first | (go_at_call 13; (with_reducible refine Calls.mono (live4_c _ _ hO) ?_); clear hO; rintro e u ⟨rfl, hO, hSn⟩; replace hS := hS.trans hSn; clear hSn) | (go_at_call 14; (with_reducible refine Calls.mono (new_no _ _ ni hO HNO.out) ?_); clear hO; rintro e u ⟨rfl, hO, hSn⟩; replace hS := hS.trans hSn; clear hSn) | (go_at_call 15; (with_reducible refine Calls.mono (same_d _ _ d q (fresh S) hO) ?_); clear hO; rintro e u ⟨rfl, hO, hSn⟩; replace hS := hS.trans hSn; clear hSn))
            go_ret
            exact ⟨rfl, below_of (own_at hO (k := 4) rfl) hS⟩
          · have HNO := Lib.hid hno
            have d1 : decide (ni < 1) = false := decide_eq_false (by omega)
            have d2 : decide (96 < ni) = true := decide_eq_true (by omega)
            clear hno
            go_wp2_with (first | (go_at_call 13; (with_reducible refine Calls.mono (live4_c _ _ hO) ?_); clear hO; rintro e u ⟨rfl, hO, hSn⟩; replace hS := hS.trans hSn; clear hSn) | (go_at_call 14; (with_reducible refine Calls.mono (new_no _ _ ni hO HNO.out) ?_); clear hO; rintro e u ⟨rfl, hO, hSn⟩; replace hS := hS.trans hSn; clear hSn) | (go_at_call 15; (with_reducible refine Calls.mono (same_d _ _ d q (fresh S) hO) ?_); clear hO; rintro e u ⟨rfl, hO, hSn⟩; replace hS := hS.trans hSn; clear hSn))
            go_ret
            exact ⟨rfl, below_of (own_at hO (k := 4) rfl) hS⟩
          · have HN0 := Lib.hid h1
            have HN9 := Lib.hid h2
            have g1 : ¬ ((N : Int) < 1) := by omega
            have g2 : ¬ (96 < (N : Int)) := by omega
            have d1 : decide ((N : Int) < 1) = false := decide_eq_false g1
            have d2 : decide (96 < (N : Int)) = false := decide_eq_false g2
            clear h1 h2 h3
            go_wp2_with (first | (go_at_call 13; (with_reducible refine Calls.mono (live4_c _ _ hO) ?_); clear hO; rintro e u ⟨rfl, hO, hSn⟩; replace hS := hS.trans hSn; clear hSn) | (go_at_call 14; (with_reducible refine Calls.mono (new_ok _ _ N hO HN0.out HN9.out) ?_); clear hO; rintro e u ⟨dn, rfl, hO, hSn⟩; replace hS := hS.trans hSn; clear hSn) | (go_at_call 15; (with_reducible refine Calls.mono (same_d _ _ d q (fresh S) hO) ?_); clear hO; rintro e u ⟨rfl, hO, hSn⟩; replace hS := hS.trans hSn; clear hSn))
            go_ret
            exact ⟨rfl, below_of (own_at hO (k := 4 + 1) rfl) hS⟩
end Go.Proofs.Ytjilkbkafigloaa.H
set_option linter.unusedVariables false
set_option linter.unusedSimpArgs false
set_option maxRecDepth 100000
namespace Go.Proofs.Ytjilkbkafigloaa.H
open Go.RowKit
open Go.ChangeMaps (setBlock)
theorem own_setBlock {w w1 : World} {L : List HP} {r : Nat} {o o' : Obj} (hO : Own w (pts r o :: L)) (h1 : w1 = w ∨ w1 = w.drew) : Own (setBlock w1 r o') (pts r o' :: L) := by
  have hr := own_pts hO
  have hlt := (Array.getElem?_eq_some_iff.1 hr).1
  have hh : w1.heap = w.heap := by rcases h1 with rfl | rfl <;> rfl
  refine own_put hO (fun i hi x hx => ?_) ?_
  · show (w1.heap.setIfInBounds r o')[i]? = some x
    rw [hh, Array.getElem?_setIfInBounds, if_neg (fun e => hi e.symm)]
    exact hx
  · show (w1.heap.setIfInBounds r o')[r]? = some o'
    rw [hh, Array.getElem?_setIfInBounds, if_pos rfl, if_pos hlt]
theorem same_setBlock {w w1 : World} {r : Nat} {o' : Obj} (h1 : w1 = w ∨ w1 = w.drew) : Same w (setBlock w1 r o') := by
  have h : Same w w1 := by
    rcases h1 with rfl | rfl
    · exact Same.refl _
    · exact Same.drew _
  exact h.trans ⟨rfl, rfl, rfl, by simp [setBlock]⟩
section
variable {P : Program} {ops : Array Oper} {rest : List Oper} {o : Oper} {a : Act} {Q : Exit → Act → World → Prop} {w : World} {L : List HP}
theorem own_range {T K E : TypeId} {x : Operand} {b i clock : Nat} {es : Array MapEntry} (hw : Region.wanted o (yielded ops a.tmps) = true) (ho : o.op = .range T x) (hx : a.eval x = .map (some b)) (hT : P.underlying T = some (.map K E)) (hO : Own w L) (hi : L[i]? = some (pts b (.map es clock)))
    (h : ∀ r w', Own w' (pts r (.mapIter (some b) clock #[] clock) :: L) → Same w w' → wpList P ops Q rest (a.put o.dst (.pointer (some ⟨r, 0, none⟩))) w') : wpList P ops Q (o :: rest) a w := by
  have hb := own_pts (own_at hO hi)
  refine ev hw ?_ (h _ _ (own_alloc_new hO (.mapIter (some b) clock #[] clock)) (Same.alloc _ _))
  simp only [execOp, ho, hx, Sem.run_bind]
  simp [Instr.range, run_underlying hT, MapKept.run_getObj_map hb, Result.andThen, newObj, Sem.run_bind]
  rfl
theorem own_next {x : Operand} {r b i j since c0 clock : Nat} {seen : Array Nat} {es : Array MapEntry} (hw : Region.wanted o (yielded ops a.tmps) = true) (ho : o.op = .next x false) (hx : a.eval x = .pointer (some ⟨r, 0, none⟩)) (hO : Own w L) (hi : L[i]? = some (pts r (.mapIter (some b) since seen c0))) (hj : L[j]? = some (pts b (.map es clock)))
    (hold : ∀ x ∈ es.toList, x.born < since) (hsc : since ≤ c0)
    (hDone : (leftOf es seen).size = 0 → wpList P ops Q rest (a.put o.dst (.tuple #[.bool false])) w)
    (hMore : ∀ (key val : Value) (born : Nat) w', (⟨key, val, born⟩ : MapEntry) ∈ (leftOf es seen).toList → Own w' (L.set i (pts r (.mapIter (some b) since (seen.push born) clock))) → Same w w' → wpList P ops Q rest (a.put o.dst (.tuple #[.bool true, key, val])) w') : wpList P ops Q (o :: rest) a w := by
  have hb := own_pts (own_at hO hj)
  have hr := own_pts (own_at hO hi)
  rcases run_next_at (P := P) w o.type r b since c0 seen es clock hr hb hold hsc with ⟨h0, hrun⟩ | ⟨e, he, w1, hw1, hrun⟩
  · refine ev hw ?_ (hDone h0)
    simp only [execOp, ho, hx]
    simp [hrun, Sem.run_bind, Result.andThen]
  · obtain ⟨key, val, born⟩ := e
    refine ev hw ?_ (hMore key val born (setBlock w1 r (.mapIter (some b) since (seen.push born) clock)) he (own_back (own_setBlock (own_at hO hi) hw1) (List.getElem?_eq_some_iff.1 hi).1) (same_setBlock hw1))
    simp only [execOp, ho, hx]
    simp [hrun, Sem.run_bind, Result.andThen]
theorem own_entry {x : Operand} {r b i j since clock : Nat} {seen : Array Nat} {es : Array MapEntry} {key val : Value} {born : Nat} (hw : Region.wanted o (yielded ops a.tmps) = true) (ho : o.op = .entry x) (hx : a.eval x = .pointer (some ⟨r, 0, none⟩)) (hO : Own w L) (hi : L[i]? = some (pts r (.mapIter (some b) since (seen.push born) clock))) (hj : L[j]? = some (pts b (.map es clock)))
    (he : (⟨key, val, born⟩ : MapEntry) ∈ es.toList) (hn : (es.toList.map (·.born)).Nodup) (h : wpList P ops Q rest (a.put o.dst (.tuple #[key, val])) w) : wpList P ops Q (o :: rest) a w := by
  have hb := own_pts (own_at hO hj)
  have hr := own_pts (own_at hO hi)
  have hrun := run_entry_at (P := P) w r b since seen es clock ⟨key, val, born⟩ hr hb he hn
  refine ev hw ?_ h
  simp only [execOp, ho, hx]
  simp [hrun, Sem.run_bind, Result.andThen]
end
theorem left_toList (es : Array MapEntry) (seen : Array Nat) : (leftOf es seen).toList = es.toList.filter fun e => !seen.contains e.born := by
  unfold leftOf
  rw [Array.toList_filter]
theorem left_size (es : Array MapEntry) (seen : Array Nat) : (leftOf es seen).size = (es.toList.filter fun e => !seen.contains e.born).length := by
  rw [← left_toList, Array.length_toList]
theorem left_less {es : Array MapEntry} {seen : Array Nat} {e : MapEntry} (he : e ∈ (leftOf es seen).toList) : (leftOf es (seen.push e.born)).size < (leftOf es seen).size := by
  rw [left_toList] at he
  rw [left_size, left_size]
  have h1 : es.toList.filter (fun x => !(seen.push e.born).contains x.born) = (es.toList.filter fun x => !seen.contains x.born).filter fun x => !(x.born == e.born) := by
    rw [List.filter_filter]
    refine List.filter_congr (fun x _ => ?_)
    simp only [Array.contains_push]
    cases seen.contains x.born <;> cases x.born == e.born <;> rfl
  rw [h1]
  exact List.length_filter_lt_length_iff_exists.2 ⟨e, he, by simp⟩
theorem left_mem {es : Array MapEntry} {seen : Array Nat} {e : MapEntry} (he : e ∈ (leftOf es seen).toList) : e ∈ es.toList ∧ seen.contains e.born = false := by
  unfold leftOf at he
  rw [Array.toList_filter, List.mem_filter] at he
  exact ⟨he.1, by simpa using he.2⟩
theorem left_none {es : Array MapEntry} {seen : Array Nat} (h : (leftOf es seen).size = 0) : ∀ x ∈ es.toList, seen.contains x.born = true := fun x hx => by
  cases hc : seen.contains x.born with
  | true => rfl
  | false =>
    have : x ∈ (leftOf es seen).toList := by
      unfold leftOf
      rw [Array.toList_filter, List.mem_filter]
      exact ⟨hx, by simpa using hc⟩
    rw [← Array.length_toList, List.length_eq_zero_iff] at h
    rw [h] at this
    cases this
/-- maps.Clone at the map of bools. -/
theorem mclone_c (w : World) (L : List HP) (k b : Nat) (f : List (Int × Value)) (hO : Own w L) (hk : L[k]? = some (mapP b f)) : Calls Try.prog 39 #[.map (some b)] w (RetX w (fun v : Value => v) (fun v => (ex fun g => sep (pur (v = .map (some g))) (mapP g f)) :: L)) := by
  obtain ⟨es, clock, hM, hO2⟩ := mapP_open.1 (own_at hO hk)
  have hc := AnyW.maps_Clone Try.cloneB b es clock w (own_pts hO2)
  refine hc.mono ?_
  rintro e w' ⟨rfl, rfl⟩
  refine ⟨_, rfl, own_ex.2 ⟨_, own_sep.2 (own_pur.2 ⟨rfl, mapP_open.2 ⟨es, clock, hM, own_alloc_new hO _⟩⟩)⟩, Same.alloc _ _⟩
end Go.Proofs.Ytjilkbkafigloaa.H
