/- Contract of the reference's Overlap. Plain law: two patches that don't overlap commute. Plain law: the joined patch is right, and does what both do. Plain law: where two patches write. Contract of the reference's All; some, of the statements. -/
import Derived.Test.YtdcbfdepkbplbaaZ04
import Derived.Test.YtdcbfdepkbplbaaZ02
import Derived.Test.YtdcbfdepkbplbaaZ03
set_option linter.unusedVariables false
set_option linter.unusedSimpArgs false
set_option maxRecDepth 100000
namespace Go.Proofs.Ytdcbfdepkbplbaa.H
open Go.RowKit
theorem rwrites_v (w : World) (L : List HP) (a0 a1 : Int) (s : ByteArray) (i : Nat) {r : Bool} (hr : wrB ⟨a0, a1, s⟩ i = r) (h0 : 0 ≤ a1 ∧ a1 < 32 ∧ s.size ≤ 32) (hi : i ≤ 32) (hO : Own w L) : Calls Try.prog 72 #[.agg #[.int .i64 a0, .int .i64 a1, .string s], .int .i64 i] w fun e w' => e = .returned (.bool r) ∧ Own w' L ∧ Same w w' := by
  have h := rwrites_c w L a0 a1 s i h0.1 h0.2.1 h0.2.2 hi hO
  rw [hr] at h
  exact h
theorem over_sym (p q : Pat) : overB p q = overB q p := by
  unfold overB
  rw [Bool.eq_iff_iff]
  simp only [Bool.and_eq_true, decide_eq_true_eq]
  constructor <;> (rintro ⟨⟨⟨⟨h1, h2⟩, h3⟩, h4⟩, h5⟩; exact ⟨⟨⟨⟨h2, h1⟩, h3.symm⟩, h5⟩, h4⟩)
theorem over_yes {p q : Pat} {k : Nat} (hp : rightB p = true) (hq : rightB q = true) (hb : p.blk = q.blk) (h1 : wrB p k = true) (h2 : wrB q k = true) : overB p q = true := by
  simp only [wrB, Bool.and_eq_true, decide_eq_true_eq] at h1 h2
  simp only [overB, Bool.and_eq_true, decide_eq_true_eq]
  exact ⟨⟨⟨⟨hp, hq⟩, hb⟩, by omega⟩, by omega⟩
theorem over_none {p q : Pat} (hp : rightB p = true) (hq : rightB q = true) (h : ∀ j, j < 32 → ¬ (wrB p j = true ∧ wrB q j = true)) : overB p q = false := by
  obtain ⟨p1, p2, p3, p4, p5, p6⟩ := rightB_iff.1 hp
  obtain ⟨q1, q2, q3, q4, q5, q6⟩ := rightB_iff.1 hq
  cases e : overB p q with
  | false => rfl
  | true =>
    exfalso
    simp only [overB, Bool.and_eq_true, decide_eq_true_eq] at e
    obtain ⟨⟨⟨_, _⟩, e1⟩, e2⟩ := e
    refine h (max p.off q.off).toNat (by omega) ?_
    simp only [wrB, Bool.and_eq_true, decide_eq_true_eq]
    omega
theorem none_step {f : Nat → Prop} {k : Nat} (h : ∀ j, j < k → ¬ f j) (hk : ¬ f k) : ∀ j, j < k + 1 → ¬ f j := fun j hj => by
  rcases Nat.lt_or_ge j k with h3 | h3
  · exact h j h3
  · obtain rfl : j = k := by omega
    exact hk
/-- What holds at each round of the reference's Overlap. -/
def ROverInv (L : List HP) (w0 : World) (p q : Pat) (k : Nat) (wr : World) : Prop :=
  (∀ j, j < k → ¬ (wrB p j = true ∧ wrB q j = true)) ∧ Own wr L ∧ Same w0 wr
set_option maxHeartbeats 800000 in
theorem rover_c (w : World) (L : List HP) (a0 a1 b0 b1 : Int) (s t : ByteArray) (hO : Own w L) :
    Calls Try.prog 71 #[.agg #[.int .i64 a0, .int .i64 a1, .string s], .agg #[.int .i64 b0, .int .i64 b1, .string t]] w (Ret w (.bool (overB ⟨a0, a1, s⟩ ⟨b0, b1, t⟩)) L) := by
  by_cases hall : rightB ⟨a0, a1, s⟩ = true ∧ rightB ⟨b0, b1, t⟩ = true ∧ a0 = b0
  · obtain ⟨hR, hR2, rfl⟩ := hall
    obtain ⟨p1, p2, p3, p4, p5, p6⟩ := rightB_iff.1 hR
    obtain ⟨q1, q2, q3, q4, q5, q6⟩ := rightB_iff.1 hR2
    simp only at p1 p2 p3 p4 p5 p6 q1 q2 q3 q4 q5 q6
    have hP : Hid (0 ≤ a1 ∧ a1 < 32 ∧ s.size ≤ 32) := ⟨p3, p4, by omega⟩
    have hQ : Hid (0 ≤ b1 ∧ b1 < 32 ∧ t.size ≤ 32) := ⟨q3, q4, by omega⟩
    have HR := Lib.hid hR
    have HR2 := Lib.hid hR2
    clear p1 p2 p3 p4 p5 p6 q1 q2 q3 q4 q5 q6 hR hR2
    go_enter Try.func71, Try.ntmps71
    go_wp2_with (first | (refine own_box_agg (x := .tmp 0) rfl rfl rfl hO ?_; clear hO; intro b w1 hO hS1) | (refine own_box_agg (x := .tmp 1) rfl rfl rfl hO ?_; clear hO; intro b' w2 hO hS2) | (apply own_loadrow rfl rfl rfl; (first | exact row_pat); exact sz_pat; (first | exact own_get 0 hO rfl | exact own_get 1 hO rfl | exact own_get 2 hO rfl | exact own_get 3 hO rfl | exact own_get 4 hO rfl | exact own_get 5 hO rfl | exact own_get 6 hO rfl | exact own_get 7 hO rfl); (focus (simp; done)); (first | (simp only [List.drop_zero, List.drop_succ_cons, List.take_succ_cons, List.take_zero]; rfl) | rfl)) | (apply own_load1 rfl rfl rfl; (first | exact row_int | exact row_str | exact row_bool | exact row_u8 | exact row_bys | exact row_pats | exact row_err); (first | exact own_get 0 hO rfl | exact own_get 1 hO rfl | exact own_get 2 hO rfl | exact own_get 3 hO rfl | exact own_get 4 hO rfl | exact own_get 5 hO rfl | exact own_get 6 hO rfl | exact own_get 7 hO rfl); (first | (simp only [List.getElem?_toArray, List.getElem?_cons_succ, List.getElem?_cons_zero]; rfl) | rfl)) | (go_at_call 69; with_reducible refine (rright_v _ _ a0 a1 s HR.out hO).mono ?_; clear hO; rintro e w3 ⟨rfl, hO, hS3⟩) | (go_at_call 69; with_reducible refine (rright_v _ _ a0 b1 t HR2.out hO).mono ?_; clear hO; rintro e w4 ⟨rfl, hO, hS4⟩))
    go_loopw [5] (fun i wr => ∃ k : Nat, k ≤ 32 ∧ i = .int .i64 k ∧ ROverInv (pts b' (.cells #[.int .i64 a0, .int .i64 b1, .string t] 33) :: pts b (.cells #[.int .i64 a0, .int .i64 a1, .string s] 33) :: L) w ⟨a0, a1, s⟩ ⟨a0, b1, t⟩ k wr) (fun i _ => 32 - (intOf i).toNat)
    case atStart => exact ⟨0, Nat.zero_le _, rfl, fun j hj => by omega, hO, hS1.trans (hS2.trans (hS3.trans hS4))⟩
    case round =>
      obtain ⟨k, hk, rfl, hnone, hO, hS⟩ := hrel
      have HN := Lib.hid hnone
      clear hnone
      by_cases hlt : k < 32
      · by_cases h1 : wrB ⟨a0, a1, s⟩ k = true
        · by_cases h2 : wrB ⟨a0, b1, t⟩ k = true
          · have H1 := Lib.hid h1
            have H2 := Lib.hid h2
            clear h1 h2
            go_wp2_with (first | (apply own_loadrow rfl rfl rfl; (first | exact row_pat); exact sz_pat; (first | exact own_get 0 hO rfl | exact own_get 1 hO rfl | exact own_get 2 hO rfl | exact own_get 3 hO rfl | exact own_get 4 hO rfl | exact own_get 5 hO rfl | exact own_get 6 hO rfl | exact own_get 7 hO rfl); (focus (simp; done)); (first | (simp only [List.drop_zero, List.drop_succ_cons, List.take_succ_cons, List.take_zero]; rfl) | rfl)) | (go_at_call 72; with_reducible refine (rwrites_v _ _ a0 a1 s k H1.out hP.out (by omega) hO).mono ?_; clear hO; rintro e w5 ⟨rfl, hO, hS5⟩) | (go_at_call 72; with_reducible refine (rwrites_v _ _ a0 b1 t k H2.out hQ.out (by omega) hO).mono ?_; clear hO; rintro e w6 ⟨rfl, hO, hS6⟩))
            go_ret
            exact ⟨congrArg Ending.returned (congrArg Value.bool (over_yes HR.out HR2.out rfl H1.out H2.out).symm), own_drop (own_drop hO), hS.trans (hS5.trans hS6)⟩
          · have h2 : wrB ⟨a0, b1, t⟩ k = false := by simpa using h2
            have H1 := Lib.hid h1
            have H2 := Lib.hid h2
            clear h1 h2
            go_wp2_with (first | (apply own_loadrow rfl rfl rfl; (first | exact row_pat); exact sz_pat; (first | exact own_get 0 hO rfl | exact own_get 1 hO rfl | exact own_get 2 hO rfl | exact own_get 3 hO rfl | exact own_get 4 hO rfl | exact own_get 5 hO rfl | exact own_get 6 hO rfl | exact own_get 7 hO rfl); (focus (simp; done)); (first | (simp only [List.drop_zero, List.drop_succ_cons, List.take_succ_cons, List.take_zero]; rfl) | rfl)) | (go_at_call 72; with_reducible refine (rwrites_v _ _ a0 a1 s k H1.out hP.out (by omega) hO).mono ?_; clear hO; rintro e w5 ⟨rfl, hO, hS5⟩) | (go_at_call 72; with_reducible refine (rwrites_v _ _ a0 b1 t k H2.out hQ.out (by omega) hO).mono ?_; clear hO; rintro e w6 ⟨rfl, hO, hS6⟩))
            go_roundw
            case rel => exact ⟨k + 1, by omega, by go_num, none_step HN.out (fun h => by rw [H2.out] at h; exact absurd h.2 (by simp)), hO, hS.trans (hS5.trans hS6)⟩
            case measure => simp [intOf]; omega
        · have h1 : wrB ⟨a0, a1, s⟩ k = false := by simpa using h1
          have H1 := Lib.hid h1
          clear h1
          go_wp2_with (first | (apply own_loadrow rfl rfl rfl; (first | exact row_pat); exact sz_pat; (first | exact own_get 0 hO rfl | exact own_get 1 hO rfl | exact own_get 2 hO rfl | exact own_get 3 hO rfl | exact own_get 4 hO rfl | exact own_get 5 hO rfl | exact own_get 6 hO rfl | exact own_get 7 hO rfl); (focus (simp; done)); (first | (simp only [List.drop_zero, List.drop_succ_cons, List.take_succ_cons, List.take_zero]; rfl) | rfl)) | (go_at_call 72; with_reducible refine (rwrites_v _ _ a0 a1 s k H1.out hP.out (by omega) hO).mono ?_; clear hO; rintro e w5 ⟨rfl, hO, hS5⟩))
          go_roundw
          case rel => exact ⟨k + 1, by omega, by go_num, none_step HN.out (fun h => by rw [H1.out] at h; exact absurd h.1 (by simp)), hO, hS.trans hS5⟩
          case measure => simp [intOf]; omega
      · go_wp2
        go_ret
        exact ⟨congrArg Ending.returned (congrArg Value.bool (over_none HR.out HR2.out (fun j hj => HN.out j (by omega))).symm), own_drop (own_drop hO), hS⟩
  · have hf : overB ⟨a0, a1, s⟩ ⟨b0, b1, t⟩ = false := by
      cases e : overB ⟨a0, a1, s⟩ ⟨b0, b1, t⟩ with
      | false => rfl
      | true =>
        simp only [overB, Bool.and_eq_true, decide_eq_true_eq] at e
        exact absurd ⟨e.1.1.1.1, e.1.1.1.2, e.1.1.2⟩ hall
    rw [hf]
    have key : ∀ (r1 r2 : Bool), rightB ⟨a0, a1, s⟩ = r1 → rightB ⟨b0, b1, t⟩ = r2 → (r1 = false ∨ (r1 = true ∧ r2 = false) ∨ (r1 = true ∧ r2 = true ∧ (a0 == b0) = false ∧ (a0 != b0) = true)) →
        Calls Try.prog 71 #[.agg #[.int .i64 a0, .int .i64 a1, .string s], .agg #[.int .i64 b0, .int .i64 b1, .string t]] w (Ret w (.bool false) L) := by
      intro r1 r2 hR hR2 hc
      have HR := Lib.hid hR
      have HR2 := Lib.hid hR2
      clear hR hR2 hf hall
      rcases hc with rfl | ⟨rfl, rfl⟩ | ⟨rfl, rfl, h0, h0'⟩
      · go_enter Try.func71, Try.ntmps71
        go_wp2_with (first | (refine own_box_agg (x := .tmp 0) rfl rfl rfl hO ?_; clear hO; intro b w1 hO hS1) | (refine own_box_agg (x := .tmp 1) rfl rfl rfl hO ?_; clear hO; intro b' w2 hO hS2) | (apply own_loadrow rfl rfl rfl; (first | exact row_pat); exact sz_pat; (first | exact own_get 0 hO rfl | exact own_get 1 hO rfl | exact own_get 2 hO rfl | exact own_get 3 hO rfl | exact own_get 4 hO rfl | exact own_get 5 hO rfl | exact own_get 6 hO rfl | exact own_get 7 hO rfl); (focus (simp; done)); (first | (simp only [List.drop_zero, List.drop_succ_cons, List.take_succ_cons, List.take_zero]; rfl) | rfl)) | (apply own_load1 rfl rfl rfl; (first | exact row_int | exact row_str | exact row_bool | exact row_u8 | exact row_bys | exact row_pats | exact row_err); (first | exact own_get 0 hO rfl | exact own_get 1 hO rfl | exact own_get 2 hO rfl | exact own_get 3 hO rfl | exact own_get 4 hO rfl | exact own_get 5 hO rfl | exact own_get 6 hO rfl | exact own_get 7 hO rfl); (first | (simp only [List.getElem?_toArray, List.getElem?_cons_succ, List.getElem?_cons_zero]; rfl) | rfl)) | (go_at_call 69; with_reducible refine (rright_v _ _ a0 a1 s HR.out hO).mono ?_; clear hO; rintro e w3 ⟨rfl, hO, hS3⟩))
        go_ret
        exact ⟨rfl, own_drop (own_drop hO), hS1.trans (hS2.trans hS3)⟩
      all_goals
        go_enter Try.func71, Try.ntmps71
        go_wp2_with (first | (refine own_box_agg (x := .tmp 0) rfl rfl rfl hO ?_; clear hO; intro b w1 hO hS1) | (refine own_box_agg (x := .tmp 1) rfl rfl rfl hO ?_; clear hO; intro b' w2 hO hS2) | (apply own_loadrow rfl rfl rfl; (first | exact row_pat); exact sz_pat; (first | exact own_get 0 hO rfl | exact own_get 1 hO rfl | exact own_get 2 hO rfl | exact own_get 3 hO rfl | exact own_get 4 hO rfl | exact own_get 5 hO rfl | exact own_get 6 hO rfl | exact own_get 7 hO rfl); (focus (simp; done)); (first | (simp only [List.drop_zero, List.drop_succ_cons, List.take_succ_cons, List.take_zero]; rfl) | rfl)) | (apply own_load1 rfl rfl rfl; (first | exact row_int | exact row_str | exact row_bool | exact row_u8 | exact row_bys | exact row_pats | exact row_err); (first | exact own_get 0 hO rfl | exact own_get 1 hO rfl | exact own_get 2 hO rfl | exact own_get 3 hO rfl | exact own_get 4 hO rfl | exact own_get 5 hO rfl | exact own_get 6 hO rfl | exact own_get 7 hO rfl); (first | (simp only [List.getElem?_toArray, List.getElem?_cons_succ, List.getElem?_cons_zero]; rfl) | rfl)) | (go_at_call 69; with_reducible refine (rright_v _ _ a0 a1 s HR.out hO).mono ?_; clear hO; rintro e w3 ⟨rfl, hO, hS3⟩) | (go_at_call 69; with_reducible refine (rright_v _ _ b0 b1 t HR2.out hO).mono ?_; clear hO; rintro e w4 ⟨rfl, hO, hS4⟩))
        go_ret
        exact ⟨rfl, own_drop (own_drop hO), hS1.trans (hS2.trans (hS3.trans hS4))⟩
    refine key _ _ rfl rfl ?_
    cases h1 : rightB ⟨a0, a1, s⟩ with
    | false => exact .inl rfl
    | true =>
      cases h2 : rightB ⟨b0, b1, t⟩ with
      | false => exact .inr (.inl ⟨rfl, rfl⟩)
      | true =>
        have h3 : ¬ a0 = b0 := fun h => hall ⟨h1, h2, h⟩
        exact .inr (.inr ⟨rfl, rfl, by simpa using h3, by simpa using h3⟩)
end Go.Proofs.Ytdcbfdepkbplbaa.H
set_option linter.unusedVariables false
set_option linter.unusedSimpArgs false
namespace Go.Proofs.Ytdcbfdepkbplbaa.H
theorem over_get {α : Type} (b d : List α) (i j : Nat) (h : i + d.length ≤ b.length) : (over b i d)[j]? = if i ≤ j ∧ j < i + d.length then d[j - i]? else b[j]? := by
  have hl : (b.take i).length = i := by rw [List.length_take]; omega
  unfold over
  rw [List.append_assoc]
  by_cases h1 : j < i
  · rw [if_neg (by omega), List.getElem?_append_left (by omega), List.getElem?_take_of_lt h1]
  · rw [List.getElem?_append_right (by omega), hl]
    by_cases h2 : j < i + d.length
    · rw [if_pos ⟨by omega, h2⟩, List.getElem?_append_left (by omega)]
    · rw [if_neg (by omega), List.getElem?_append_right (by omega), List.getElem?_drop, show i + d.length + (j - i - d.length) = j by omega]
theorem app_get (b : List UInt8) (p : Pat) (hb : b.length = 32) (hp : rightB p = true) (j : Nat) : (app b p)[j]? = if p.off ≤ j ∧ (j : Int) < p.off + p.dat.size then p.dat.data.toList[j - p.off.toNat]? else b[j]? := by
  obtain ⟨p1, p2, p3, p4, p5, p6⟩ := rightB_iff.1 hp
  have hs : p.dat.size = p.dat.data.toList.length := by rw [Array.length_toList]; rfl
  unfold app
  rw [over_get _ _ _ _ (by omega)]
  by_cases h : p.off ≤ j ∧ (j : Int) < p.off + p.dat.size
  · rw [if_pos h, if_pos (by omega)]
  · rw [if_neg h, if_neg (by omega)]
theorem app_comm (b : List UInt8) (p q : Pat) (hb : b.length = 32) (hp : rightB p = true) (hq : rightB q = true) (he : p.blk = q.blk) (ho : overB p q = false) : app (app b p) q = app (app b q) p := by
  have hn : ¬ (p.off < q.off + q.dat.size ∧ q.off < p.off + p.dat.size) := by
    rintro ⟨h1, h2⟩
    have : overB p q = true := by simp only [overB, Bool.and_eq_true, decide_eq_true_eq]; exact ⟨⟨⟨⟨hp, hq⟩, he⟩, h1⟩, h2⟩
    rw [ho] at this
    cases this
  apply List.ext_getElem?
  intro j
  rw [app_get _ q (app_length b p hb hp) hq, app_get b p hb hp, app_get _ p (app_length b q hb hq) hp, app_get b q hb hq]
  by_cases h1 : p.off ≤ j ∧ (j : Int) < p.off + p.dat.size
  · rw [if_pos h1, if_neg (by omega), if_pos h1]
  · rw [if_neg h1]
    by_cases h2 : q.off ≤ j ∧ (j : Int) < q.off + q.dat.size
    · rw [if_pos h2, if_neg h1]
    · rw [if_neg h2, if_neg h1]
end Go.Proofs.Ytdcbfdepkbplbaa.H
set_option linter.unusedVariables false
set_option linter.unusedSimpArgs false
namespace Go.Proofs.Ytdcbfdepkbplbaa.H
theorem whole_length {p q : Pat} (hp : rightB p = true) (hq : rightB q = true) : (wholeOf p q).length = 32 := app_length _ _ (app_length _ _ (by simp) hp) hq
theorem whole_get {p q : Pat} (hp : rightB p = true) (hq : rightB q = true) (j : Nat) : (wholeOf p q)[j]? = if q.off ≤ j ∧ (j : Int) < q.off + q.dat.size then q.dat.data.toList[j - q.off.toNat]? else if p.off ≤ j ∧ (j : Int) < p.off + p.dat.size then p.dat.data.toList[j - p.off.toNat]? else (List.replicate 32 (0 : UInt8))[j]? := by
  unfold wholeOf
  rw [app_get _ q (app_length _ _ (by simp) hp) hq, app_get _ p (by simp) hp]
structure Joins (p q : Pat) : Prop where
  hp : rightB p = true
  hq : rightB q = true
  hb : p.blk = q.blk
  h1 : p.off ≤ q.off + q.dat.size
  h2 : q.off ≤ p.off + p.dat.size
theorem joins_iff {p q : Pat} : joinB p q = true ↔ Joins p q := by
  simp only [joinB, Bool.and_eq_true, decide_eq_true_eq]
  exact ⟨fun ⟨⟨⟨⟨h1, h2⟩, h3⟩, h4⟩, h5⟩ => ⟨h1, h2, h3, h4, h5⟩, fun ⟨h1, h2, h3, h4, h5⟩ => ⟨⟨⟨⟨h1, h2⟩, h3⟩, h4⟩, h5⟩⟩
theorem joinM_size {p q : Pat} (h : Joins p q) : (joinM p q).dat.size = (max (p.off + p.dat.size) (q.off + q.dat.size)).toNat - (min p.off q.off).toNat := by
  obtain ⟨p1, p2, p3, p4, p5, p6⟩ := rightB_iff.1 h.hp
  obtain ⟨q1, q2, q3, q4, q5, q6⟩ := rightB_iff.1 h.hq
  simp only [joinM, bstr_size, List.length_take, List.length_drop, whole_length h.hp h.hq]
  omega
theorem joinM_right {p q : Pat} (h : Joins p q) : rightB (joinM p q) = true := by
  obtain ⟨p1, p2, p3, p4, p5, p6⟩ := rightB_iff.1 h.hp
  obtain ⟨q1, q2, q3, q4, q5, q6⟩ := rightB_iff.1 h.hq
  have hs := joinM_size h
  refine rightB_iff.2 ?_
  rw [hs]
  have e1 : (joinM p q).blk = p.blk := rfl
  have e2 : (joinM p q).off = min p.off q.off := rfl
  rw [e1, e2]
  omega
theorem joinM_app (b : List UInt8) {p q : Pat} (h : Joins p q) (hb : b.length = 32) : app b (joinM p q) = app (app b p) q := by
  obtain ⟨p1, p2, p3, p4, p5, p6⟩ := rightB_iff.1 h.hp
  obtain ⟨q1, q2, q3, q4, q5, q6⟩ := rightB_iff.1 h.hq
  have j1 := h.h1
  have j2 := h.h2
  have hs := joinM_size h
  have e2 : (joinM p q).off = min p.off q.off := rfl
  apply List.ext_getElem?
  intro j
  rw [app_get _ _ hb (joinM_right h), app_get _ q (app_length b p hb h.hp) h.hq, app_get b p hb h.hp, hs, e2]
  by_cases hj : min p.off q.off ≤ j ∧ (j : Int) < min p.off q.off + ((max (p.off + p.dat.size) (q.off + q.dat.size)).toNat - (min p.off q.off).toNat : Nat)
  · rw [if_pos hj]
    have e3 : (joinM p q).dat.data.toList[j - (min p.off q.off).toNat]? = (wholeOf p q)[j]? := by
      have : (joinM p q).dat.data.toList = ((wholeOf p q).drop (min p.off q.off).toNat).take ((max (p.off + p.dat.size) (q.off + q.dat.size)).toNat - (min p.off q.off).toNat) := rfl
      rw [this, List.getElem?_take_of_lt (by omega), List.getElem?_drop, show (min p.off q.off).toNat + (j - (min p.off q.off).toNat) = j by omega]
    rw [e3, whole_get h.hp h.hq]
    by_cases hq : q.off ≤ j ∧ (j : Int) < q.off + q.dat.size
    · rw [if_pos hq, if_pos hq]
    · rw [if_neg hq, if_neg hq]
      rw [if_pos (by omega), if_pos (by omega)]
  · rw [if_neg hj, if_neg (by omega), if_neg (by omega)]
end Go.Proofs.Ytdcbfdepkbplbaa.H
set_option linter.unusedVariables false
set_option linter.unusedSimpArgs false
namespace Go.Proofs.Ytdcbfdepkbplbaa.H
/-- Where two patches write: without a gap from lo to e1; then again at g, if that is before 32. -/
structure Runs (p q : Pat) (lo e1 g : Nat) : Prop where mk ::
  out : lo < e1 ∧ e1 ≤ 32 ∧ e1 ≤ g ∧ g ≤ 32 ∧ (∀ k, k < g → (wrB p k = true ∨ wrB q k = true ↔ lo ≤ k ∧ k < e1)) ∧ (g < 32 → (wrB p g = true ∨ wrB q g = true) ∧ e1 < g)
def datK (p q : Pat) (lo to : Nat) : List UInt8 := ((wholeOf p q).drop lo).take (to - lo)
theorem datK_length {p q : Pat} {lo to : Nat} (hp : rightB p = true) (hq : rightB q = true) (h : to ≤ 32) : (datK p q lo to).length = to - lo := by
  simp only [datK, List.length_take, List.length_drop, whole_length hp hq]
  omega
theorem datK_succ {p q : Pat} {lo k : Nat} {x : UInt8} (hk : lo ≤ k) (hx : (wholeOf p q)[k]? = some x) : datK p q lo (k + 1) = datK p q lo k ++ [x] := by
  have hl := (List.getElem?_eq_some_iff.1 hx).1
  have h2 : k - lo < ((wholeOf p q).drop lo).length := by rw [List.length_drop]; omega
  unfold datK
  rw [show k + 1 - lo = k - lo + 1 by omega, List.take_succ_eq_append_getElem h2]
  congr 1
  have h3 : ((wholeOf p q).drop lo)[k - lo]? = some x := by rw [List.getElem?_drop, show lo + (k - lo) = k by omega]; exact hx
  rw [List.getElem?_eq_getElem h2] at h3
  rw [Option.some.inj h3]
theorem runs_yes {p q : Pat} (h : Joins p q) : Runs p q (min p.off q.off).toNat (max (p.off + p.dat.size) (q.off + q.dat.size)).toNat 32 := by
  obtain ⟨p1, p2, p3, p4, p5, p6⟩ := rightB_iff.1 h.hp
  obtain ⟨q1, q2, q3, q4, q5, q6⟩ := rightB_iff.1 h.hq
  have j1 := h.h1
  have j2 := h.h2
  refine ⟨by omega, by omega, by omega, by omega, fun k hk => ?_, fun h => by omega⟩
  simp only [wrB, Bool.and_eq_true, decide_eq_true_eq]
  constructor
  · intro h; omega
  · intro h; omega
theorem runs_no {p q : Pat} (hp : rightB p = true) (hq : rightB q = true) (hn : ¬ (p.off ≤ q.off + q.dat.size ∧ q.off ≤ p.off + p.dat.size)) : Runs p q (min p.off q.off).toNat (min (p.off + p.dat.size) (q.off + q.dat.size)).toNat (max p.off q.off).toNat := by
  obtain ⟨p1, p2, p3, p4, p5, p6⟩ := rightB_iff.1 hp
  obtain ⟨q1, q2, q3, q4, q5, q6⟩ := rightB_iff.1 hq
  refine ⟨by omega, by omega, by omega, by omega, fun k hk => ?_, fun h => ⟨?_, by omega⟩⟩
  · simp only [wrB, Bool.and_eq_true, decide_eq_true_eq]
    constructor
    · intro h; omega
    · intro h; omega
  · simp only [wrB, Bool.and_eq_true, decide_eq_true_eq]
    omega
theorem whole_q {p q : Pat} (hp : rightB p = true) (hq : rightB q = true) {k : Nat} (h : wrB q k = true) : ∃ h2 : k - q.off.toNat < q.dat.data.toList.length, (wholeOf p q)[k]? = some (q.dat.data.toList[k - q.off.toNat]'h2) := by
  have hs : q.dat.size = q.dat.data.toList.length := by rw [Array.length_toList]; rfl
  simp only [wrB, Bool.and_eq_true, decide_eq_true_eq] at h
  have h2 : k - q.off.toNat < q.dat.data.toList.length := by omega
  refine ⟨h2, ?_⟩
  rw [whole_get hp hq, if_pos h, List.getElem?_eq_getElem h2]
theorem whole_p {p q : Pat} (hp : rightB p = true) (hq : rightB q = true) {k : Nat} (h : wrB p k = true) (h0 : wrB q k = false) : ∃ h2 : k - p.off.toNat < p.dat.data.toList.length, (wholeOf p q)[k]? = some (p.dat.data.toList[k - p.off.toNat]'h2) := by
  have hs : p.dat.size = p.dat.data.toList.length := by rw [Array.length_toList]; rfl
  simp only [wrB, Bool.and_eq_true, decide_eq_true_eq] at h
  have h3 : ¬ (q.off ≤ k ∧ (k : Int) < q.off + q.dat.size) := by
    intro h4
    have : wrB q k = true := by simp only [wrB, Bool.and_eq_true, decide_eq_true_eq]; exact h4
    rw [h0] at this
    cases this
  have h2 : k - p.off.toNat < p.dat.data.toList.length := by omega
  refine ⟨h2, ?_⟩
  rw [whole_get hp hq, if_neg h3, if_pos h, List.getElem?_eq_getElem h2]
end Go.Proofs.Ytdcbfdepkbplbaa.H
set_option linter.unusedVariables false
set_option linter.unusedSimpArgs false
set_option maxRecDepth 100000
namespace Go.Proofs.Ytdcbfdepkbplbaa.H
open Go.RowKit
theorem own_skip {w : World} {A B : HP} {L : List HP} (h : Own w (A :: B :: L)) : Own w (A :: L) := own_drop (own_perm h (List.Perm.swap _ _ _))
theorem owns_rdB {w : World} {L : List HP} {e m : Nat} {v : Value} {bs : List UInt8} (hm : m = bs.length) (h : Own w (owns e 1 v m (bcs bs) :: L)) : RdB w v bs := by
  subst hm
  exact owns_rd h
/-- What holds at each round of the reference's All. -/
def RAllInv (L : List HP) (w0 : World) (bs : List UInt8) (ps : List Pat) (v : Value) (k : Nat) (wr : World) : Prop :=
  (∀ p ∈ ps.take k, rightB p = true) ∧ Own wr (owns 5 1 v 32 (bcs (appAll bs (ps.take k))) :: L) ∧ Same w0 wr
/-- What the reference's All hands back. -/
def RAllPost (L : List HP) (w0 : World) (bs : List UInt8) (ps : List Pat) (e : Ending) (w' : World) : Prop :=
  if (∀ p ∈ ps, rightB p = true) then RetX w0 (fun v => .tuple #[v, .int .i64 0]) (fun v => owns 5 1 v 32 (bcs (appAll bs ps)) :: L) e w'
  else Ret w0 (.tuple #[.slice none 0 0, .int .i64 3]) L e w'
end Go.Proofs.Ytdcbfdepkbplbaa.H
