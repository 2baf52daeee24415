/- Contract of the reference's Overlap. -/
import Derived.Test.YtlmkcnkidkoilaaZ06
set_option linter.unusedVariables false
set_option linter.unusedSimpArgs false
set_option maxRecDepth 100000
namespace Go.Proofs.Ytlmkcnkidkoilaa.H
open Go.RowKit
theorem rwrites_v (w : World) (L : List HP) (a0 a1 : Int) (s : ByteArray) (i : Nat) {r : Bool} (hr : wrB ⟨a0, a1, s⟩ i = r) (h0 : 0 ≤ a1 ∧ a1 < 32 ∧ s.size ≤ 32) (hi : i ≤ 32) (hO : Own w L) : Calls Try.prog 49 #[.agg #[.int .i64 a0, .int .i64 a1, .string s], .int .i64 i] w fun e w' => e = .returned (.bool r) ∧ Own w' L ∧ Same w w' := by
  have h := rwrites_c w L a0 a1 s i h0.1 h0.2.1 h0.2.2 hi hO
  rw [hr] at h
  exact h
theorem over_sym (p q : Pat) : overB p q = overB q p := by
  unfold overB
  rw [Bool.eq_iff_iff]
  simp only [Bool.and_eq_true, decide_eq_true_eq]
  constructor <;> (rintro ⟨⟨⟨⟨h1, h2⟩, h3⟩, h4⟩, h5⟩; exact ⟨⟨⟨⟨h2, h1⟩, h3.symm⟩, h5⟩, h4⟩)
theorem over_yes {p q : Pat} {k : Nat} (hp : rightB p = true) (hq : rightB q = true) (hb : p.blk = q.blk) (h1 : wrB p k = true) (h2 : wrB q k = true) : overB p q = true := by
  simp only [wrB, Bool.and_eq_true, decide_eq_true_eq] at h1 h2
  simp only [overB, Bool.and_eq_true, decide_eq_true_eq]
  exact ⟨⟨⟨⟨hp, hq⟩, hb⟩, by omega⟩, by omega⟩
theorem over_none {p q : Pat} (hp : rightB p = true) (hq : rightB q = true) (h : ∀ j, j < 32 → ¬ (wrB p j = true ∧ wrB q j = true)) : overB p q = false := by
  obtain ⟨p1, p2, p3, p4, p5, p6⟩ := rightB_iff.1 hp
  obtain ⟨q1, q2, q3, q4, q5, q6⟩ := rightB_iff.1 hq
  cases e : overB p q with
  | false => rfl
  | true =>
    exfalso
    simp only [overB, Bool.and_eq_true, decide_eq_true_eq] at e
    obtain ⟨⟨⟨_, _⟩, e1⟩, e2⟩ := e
    refine h (max p.off q.off).toNat (by omega) ?_
    simp only [wrB, Bool.and_eq_true, decide_eq_true_eq]
    omega
theorem none_step {f : Nat → Prop} {k : Nat} (h : ∀ j, j < k → ¬ f j) (hk : ¬ f k) : ∀ j, j < k + 1 → ¬ f j := fun j hj => by
  rcases Nat.lt_or_ge j k with h3 | h3
  · exact h j h3
  · obtain rfl : j = k := by omega
    exact hk
/-- What holds at each round of the reference's Overlap. -/
def ROverInv (L : List HP) (w0 : World) (p q : Pat) (k : Nat) (wr : World) : Prop :=
  (∀ j, j < k → ¬ (wrB p j = true ∧ wrB q j = true)) ∧ Own wr L ∧ Same w0 wr
set_option maxHeartbeats 800000 in
theorem rover_c (w : World) (L : List HP) (a0 a1 b0 b1 : Int) (s t : ByteArray) (hO : Own w L) :
    Calls Try.prog 15 #[.agg #[.int .i64 a0, .int .i64 a1, .string s], .agg #[.int .i64 b0, .int .i64 b1, .string t]] w (Ret w (.bool (overB ⟨a0, a1, s⟩ ⟨b0, b1, t⟩)) L) := by
  by_cases hall : rightB ⟨a0, a1, s⟩ = true ∧ rightB ⟨b0, b1, t⟩ = true ∧ a0 = b0
  · obtain ⟨hR, hR2, rfl⟩ := hall
    obtain ⟨p1, p2, p3, p4, p5, p6⟩ := rightB_iff.1 hR
    obtain ⟨q1, q2, q3, q4, q5, q6⟩ := rightB_iff.1 hR2
    simp only at p1 p2 p3 p4 p5 p6 q1 q2 q3 q4 q5 q6
    have hP : Hid (0 ≤ a1 ∧ a1 < 32 ∧ s.size ≤ 32) := ⟨p3, p4, by omega⟩
    have hQ : Hid (0 ≤ b1 ∧ b1 < 32 ∧ t.size ≤ 32) := ⟨q3, q4, by omega⟩
    have HR := Lib.hid hR
    have HR2 := Lib.hid hR2
    clear p1 p2 p3 p4 p5 p6 q1 q2 q3 q4 q5 q6 hR hR2
    go_enter Try.func15, Try.ntmps15
    go_wp2_with (first | (refine own_box_agg (x := .tmp 0) rfl rfl rfl hO ?_; clear hO; intro b w1 hO hS1) | (refine own_box_agg (x := .tmp 1) rfl rfl rfl hO ?_; clear hO; intro b' w2 hO hS2) | (apply own_loadrow rfl rfl rfl; (first | exact row_pat); exact sz_pat; (first | exact own_get 0 hO rfl | exact own_get 1 hO rfl | exact own_get 2 hO rfl | exact own_get 3 hO rfl | exact own_get 4 hO rfl | exact own_get 5 hO rfl | exact own_get 6 hO rfl | exact own_get 7 hO rfl); (focus (simp; done)); (first | (simp only [List.drop_zero, List.drop_succ_cons, List.take_succ_cons, List.take_zero]; rfl) | rfl)) | (apply own_load1 rfl rfl rfl; (first | exact row_int | exact row_str | exact row_bool | exact row_u8 | exact row_bys | exact row_pats | exact row_err); (first | exact own_get 0 hO rfl | exact own_get 1 hO rfl | exact own_get 2 hO rfl | exact own_get 3 hO rfl | exact own_get 4 hO rfl | exact own_get 5 hO rfl | exact own_get 6 hO rfl | exact own_get 7 hO rfl); (first | (simp only [List.getElem?_toArray, List.getElem?_cons_succ, List.getElem?_cons_zero]; rfl) | rfl)) | (go_at_call 48; with_reducible refine (rright_v _ _ a0 a1 s HR.out hO).mono ?_; clear hO; rintro e w3 ⟨rfl, hO, hS3⟩) | (go_at_call 48; with_reducible refine (rright_v _ _ a0 b1 t HR2.out hO).mono ?_; clear hO; rintro e w4 ⟨rfl, hO, hS4⟩))
    go_loopw [5] (fun i wr => ∃ k : Nat, k ≤ 32 ∧ i = .int .i64 k ∧ ROverInv (pts b' (.cells #[.int .i64 a0, .int .i64 b1, .string t] 30) :: pts b (.cells #[.int .i64 a0, .int .i64 a1, .string s] 30) :: L) w ⟨a0, a1, s⟩ ⟨a0, b1, t⟩ k wr) (fun i _ => 32 - (intOf i).toNat)
    case atStart => exact ⟨0, Nat.zero_le _, rfl, fun j hj => by omega, hO, hS1.trans (hS2.trans (hS3.trans hS4))⟩
    case round =>
      obtain ⟨k, hk, rfl, hnone, hO, hS⟩ := hrel
      have HN := Lib.hid hnone
      clear hnone
      by_cases hlt : k < 32
      · by_cases h1 : wrB ⟨a0, a1, s⟩ k = true
        · by_cases h2 : wrB ⟨a0, b1, t⟩ k = true
          · have H1 := Lib.hid h1
            have H2 := Lib.hid h2
            clear h1 h2
            go_wp2_with (first | (apply own_loadrow rfl rfl rfl; (first | exact row_pat); exact sz_pat; (first | exact own_get 0 hO rfl | exact own_get 1 hO rfl | exact own_get 2 hO rfl | exact own_get 3 hO rfl | exact own_get 4 hO rfl | exact own_get 5 hO rfl | exact own_get 6 hO rfl | exact own_get 7 hO rfl); (focus (simp; done)); (first | (simp only [List.drop_zero, List.drop_succ_cons, List.take_succ_cons, List.take_zero]; rfl) | rfl)) | (go_at_call 49; with_reducible refine (rwrites_v _ _ a0 a1 s k H1.out hP.out (by omega) hO).mono ?_; clear hO; rintro e w5 ⟨rfl, hO, hS5⟩) | (go_at_call 49; with_reducible refine (rwrites_v _ _ a0 b1 t k H2.out hQ.out (by omega) hO).mono ?_; clear hO; rintro e w6 ⟨rfl, hO, hS6⟩))
            go_ret
            exact ⟨congrArg Ending.returned (congrArg Value.bool (over_yes HR.out HR2.out rfl H1.out H2.out).symm), own_drop (own_drop hO), hS.trans (hS5.trans hS6)⟩
          · have h2 : wrB ⟨a0, b1, t⟩ k = false := by simpa using h2
            have H1 := Lib.hid h1
            have H2 := Lib.hid h2
            clear h1 h2
            go_wp2_with (first | (apply own_loadrow rfl rfl rfl; (first | exact row_pat); exact sz_pat; (first | exact own_get 0 hO rfl | exact own_get 1 hO rfl | exact own_get 2 hO rfl | exact own_get 3 hO rfl | exact own_get 4 hO rfl | exact own_get 5 hO rfl | exact own_get 6 hO rfl | exact own_get 7 hO rfl); (focus (simp; done)); (first | (simp only [List.drop_zero, List.drop_succ_cons, List.take_succ_cons, List.take_zero]; rfl) | rfl)) | (go_at_call 49; with_reducible refine (rwrites_v _ _ a0 a1 s k H1.out hP.out (by omega) hO).mono ?_; clear hO; rintro e w5 ⟨rfl, hO, hS5⟩) | (go_at_call 49; with_reducible refine (rwrites_v _ _ a0 b1 t k H2.out hQ.out (by omega) hO).mono ?_; clear hO; rintro e w6 ⟨rfl, hO, hS6⟩))
            go_roundw
            case rel => exact ⟨k + 1, by omega, by go_num, none_step HN.out (fun h => by rw [H2.out] at h; exact absurd h.2 (by simp)), hO, hS.trans (hS5.trans hS6)⟩
            case measure => simp [intOf]; omega
        · have h1 : wrB ⟨a0, a1, s⟩ k = false := by simpa using h1
          have H1 := Lib.hid h1
          clear h1
          go_wp2_with (first | (apply own_loadrow rfl rfl rfl; (first | exact row_pat); exact sz_pat; (first | exact own_get 0 hO rfl | exact own_get 1 hO rfl | exact own_get 2 hO rfl | exact own_get 3 hO rfl | exact own_get 4 hO rfl | exact own_get 5 hO rfl | exact own_get 6 hO rfl | exact own_get 7 hO rfl); (focus (simp; done)); (first | (simp only [List.drop_zero, List.drop_succ_cons, List.take_succ_cons, List.take_zero]; rfl) | rfl)) | (go_at_call 49; with_reducible refine (rwrites_v _ _ a0 a1 s k H1.out hP.out (by omega) hO).mono ?_; clear hO; rintro e w5 ⟨rfl, hO, hS5⟩))
          go_roundw
          case rel => exact ⟨k + 1, by omega, by go_num, none_step HN.out (fun h => by rw [H1.out] at h; exact absurd h.1 (by simp)), hO, hS.trans hS5⟩
          case measure => simp [intOf]; omega
      · go_wp2
        go_ret
        exact ⟨congrArg Ending.returned (congrArg Value.bool (over_none HR.out HR2.out (fun j hj => HN.out j (by omega))).symm), own_drop (own_drop hO), hS⟩
  · have hf : overB ⟨a0, a1, s⟩ ⟨b0, b1, t⟩ = false := by
      cases e : overB ⟨a0, a1, s⟩ ⟨b0, b1, t⟩ with
      | false => rfl
      | true =>
        simp only [overB, Bool.and_eq_true, decide_eq_true_eq] at e
        exact absurd ⟨e.1.1.1.1, e.1.1.1.2, e.1.1.2⟩ hall
    rw [hf]
    have key : ∀ (r1 r2 : Bool), rightB ⟨a0, a1, s⟩ = r1 → rightB ⟨b0, b1, t⟩ = r2 → (r1 = false ∨ (r1 = true ∧ r2 = false) ∨ (r1 = true ∧ r2 = true ∧ (a0 == b0) = false ∧ (a0 != b0) = true)) →
        Calls Try.prog 15 #[.agg #[.int .i64 a0, .int .i64 a1, .string s], .agg #[.int .i64 b0, .int .i64 b1, .string t]] w (Ret w (.bool false) L) := by
      intro r1 r2 hR hR2 hc
      have HR := Lib.hid hR
      have HR2 := Lib.hid hR2
      clear hR hR2 hf hall
      rcases hc with rfl | ⟨rfl, rfl⟩ | ⟨rfl, rfl, h0, h0'⟩
      · go_enter Try.func15, Try.ntmps15
        go_wp2_with (first | (refine own_box_agg (x := .tmp 0) rfl rfl rfl hO ?_; clear hO; intro b w1 hO hS1) | (refine own_box_agg (x := .tmp 1) rfl rfl rfl hO ?_; clear hO; intro b' w2 hO hS2) | (apply own_loadrow rfl rfl rfl; (first | exact row_pat); exact sz_pat; (first | exact own_get 0 hO rfl | exact own_get 1 hO rfl | exact own_get 2 hO rfl | exact own_get 3 hO rfl | exact own_get 4 hO rfl | exact own_get 5 hO rfl | exact own_get 6 hO rfl | exact own_get 7 hO rfl); (focus (simp; done)); (first | (simp only [List.drop_zero, List.drop_succ_cons, List.take_succ_cons, List.take_zero]; rfl) | rfl)) | (apply own_load1 rfl rfl rfl; (first | exact row_int | exact row_str | exact row_bool | exact row_u8 | exact row_bys | exact row_pats | exact row_err); (first | exact own_get 0 hO rfl | exact own_get 1 hO rfl | exact own_get 2 hO rfl | exact own_get 3 hO rfl | exact own_get 4 hO rfl | exact own_get 5 hO rfl | exact own_get 6 hO rfl | exact own_get 7 hO rfl); (first | (simp only [List.getElem?_toArray, List.getElem?_cons_succ, List.getElem?_cons_zero]; rfl) | rfl)) | (go_at_call 48; with_reducible refine (rright_v _ _ a0 a1 s HR.out hO).mono ?_; clear hO; rintro e w3 ⟨rfl, hO, hS3⟩))
        go_ret
        exact ⟨rfl, own_drop (own_drop hO), hS1.trans (hS2.trans hS3)⟩
      all_goals
        go_enter Try.func15, Try.ntmps15
        go_wp2_with (first | (refine own_box_agg (x := .tmp 0) rfl rfl rfl hO ?_; clear hO; intro b w1 hO hS1) | (refine own_box_agg (x := .tmp 1) rfl rfl rfl hO ?_; clear hO; intro b' w2 hO hS2) | (apply own_loadrow rfl rfl rfl; (first | exact row_pat); exact sz_pat; (first | exact own_get 0 hO rfl | exact own_get 1 hO rfl | exact own_get 2 hO rfl | exact own_get 3 hO rfl | exact own_get 4 hO rfl | exact own_get 5 hO rfl | exact own_get 6 hO rfl | exact own_get 7 hO rfl); (focus (simp; done)); (first | (simp only [List.drop_zero, List.drop_succ_cons, List.take_succ_cons, List.take_zero]; rfl) | rfl)) | (apply own_load1 rfl rfl rfl; (first | exact row_int | exact row_str | exact row_bool | exact row_u8 | exact row_bys | exact row_pats | exact row_err); (first | exact own_get 0 hO rfl | exact own_get 1 hO rfl | exact own_get 2 hO rfl | exact own_get 3 hO rfl | exact own_get 4 hO rfl | exact own_get 5 hO rfl | exact own_get 6 hO rfl | exact own_get 7 hO rfl); (first | (simp only [List.getElem?_toArray, List.getElem?_cons_succ, List.getElem?_cons_zero]; rfl) | rfl)) | (go_at_call 48; with_reducible refine (rright_v _ _ a0 a1 s HR.out hO).mono ?_; clear hO; rintro e w3 ⟨rfl, hO, hS3⟩) | (go_at_call 48; with_reducible refine (rright_v _ _ b0 b1 t HR2.out hO).mono ?_; clear hO; rintro e w4 ⟨rfl, hO, hS4⟩))
        go_ret
        exact ⟨rfl, own_drop (own_drop hO), hS1.trans (hS2.trans (hS3.trans hS4))⟩
    refine key _ _ rfl rfl ?_
    cases h1 : rightB ⟨a0, a1, s⟩ with
    | false => exact .inl rfl
    | true =>
      cases h2 : rightB ⟨b0, b1, t⟩ with
      | false => exact .inr (.inl ⟨rfl, rfl⟩)
      | true =>
        have h3 : ¬ a0 = b0 := fun h => hall ⟨h1, h2, h⟩
        exact .inr (.inr ⟨rfl, rfl, by simpa using h3, by simpa using h3⟩)
end Go.Proofs.Ytlmkcnkidkoilaa.H
