/- Contract of the reference's Join. A stack: what it means, and what it is in memory. -/
import Derived.Test.YtdcbfdepkbplbaaZ06
import Derived.Test.YtdcbfdepkbplbaaZ04
import Derived.Test.YtdcbfdepkbplbaaZ03
import Derived.Test.YtdcbfdepkbplbaaZ05
set_option linter.unusedVariables false
set_option linter.unusedSimpArgs false
set_option maxRecDepth 100000
namespace Go.Proofs.Ytdcbfdepkbplbaa.H
open Go.RowKit
/-- What holds at each round of the reference's Join. -/
def RJoinInv (L : List HP) (w0 : World) (p q : Pat) (lo e1 g : Nat) (v f t : Value) (k : Nat) (wr : World) : Prop :=
  k ≤ g ∧ ((k ≤ lo ∧ f = .int .i64 (-1) ∧ t = .int .i64 0) ∨ (lo < k ∧ f = .int .i64 (lo : Int) ∧ t = .int .i64 ((min k e1 : Nat) : Int))) ∧ Own wr (owns 5 1 v (min k e1 - lo) (bcs (datK p q lo (min k e1))) :: L) ∧ Same w0 wr
theorem ba_get {t : ByteArray} {i : Nat} (h : i < t.size) : t.data.toList[i]? = some (t[i]'h) := by
  have h2 : i < t.data.toList.length := by rw [Array.length_toList]; exact h
  rw [List.getElem?_eq_getElem h2]
  rfl
theorem rjoin_in {L : List HP} {w0 wr : World} {p q : Pat} {lo e1 g k : Nat} {v : Value} {B : HP} {x : UInt8} (hr : Runs p q lo e1 g) (hk : lo ≤ k ∧ k < e1) (hkg : k < g) (hx : (wholeOf p q)[k]? = some x)
    (hO : Own wr (owns 5 1 v (min k e1 - lo + 1) (bcs (datK p q lo (min k e1)) ++ bcs [x]) :: B :: L)) (hS : Same w0 wr) : RJoinInv L w0 p q lo e1 g v (.int .i64 (lo : Int)) (.int .i64 ((k : Int) + 1)) (k + 1) wr := by
  have e : min (k + 1) e1 = k + 1 := by omega
  refine ⟨by omega, .inr ⟨by omega, rfl, by rw [e]; rfl⟩, ?_, hS⟩
  rw [e, datK_succ hk.1 hx]
  have h := own_skip hO
  rw [Nat.min_eq_left (by omega : k ≤ e1)] at h
  rw [show k + 1 - lo = k - lo + 1 by omega]
  have e2 : bcs (datK p q lo k ++ [x]) = bcs (datK p q lo k) ++ bcs [x] := by simp [bcs]
  rw [e2]
  exact h
theorem rjoin_out {L : List HP} {w0 wr : World} {p q : Pat} {lo e1 g k : Nat} {v f t : Value} (hr : Runs p q lo e1 g) (hk : ¬ (lo ≤ k ∧ k < e1)) (hkg : k < g) (hst : (k ≤ lo ∧ f = .int .i64 (-1) ∧ t = .int .i64 0) ∨ (lo < k ∧ f = .int .i64 (lo : Int) ∧ t = .int .i64 ((min k e1 : Nat) : Int)))
    (hO : Own wr (owns 5 1 v (min k e1 - lo) (bcs (datK p q lo (min k e1))) :: L)) (hS : Same w0 wr) : RJoinInv L w0 p q lo e1 g v f t (k + 1) wr := by
  obtain ⟨h1, h2, h3, h4, h5, h6⟩ := hr.out
  rcases hst with ⟨hk1, rfl, rfl⟩ | ⟨hk1, rfl, rfl⟩
  · have hlt : k < lo := by omega
    refine ⟨by omega, .inl ⟨by omega, rfl, rfl⟩, ?_, hS⟩
    have e0 : min k e1 - lo = 0 := by omega
    have e00 : min (k + 1) e1 - lo = 0 := by omega
    simp only [datK, e0, e00] at hO ⊢
    exact hO
  · have e : min (k + 1) e1 = min k e1 := by omega
    refine ⟨by omega, .inr ⟨by omega, rfl, by rw [e]⟩, ?_, hS⟩
    rw [e]
    exact hO
/-- What the reference's Join hands back. -/
def RJoinPost (L : List HP) (w0 : World) (p q : Pat) (lo e1 g : Nat) (e : Ending) (w' : World) : Prop :=
  if g = 32 then Ret w0 (.tuple #[.agg #[.int .i64 p.blk, .int .i64 (lo : Int), .string (bstr (datK p q lo e1))], .bool true]) L e w'
  else Ret w0 (.tuple #[.agg #[.int .i64 0, .int .i64 0, .string ⟨#[]⟩], .bool false]) L e w'
set_option maxHeartbeats 3200000 in
theorem rjoin_ok (w : World) (L : List HP) (a0 a1 b1 : Int) (s t : ByteArray) (lo e1 g : Nat) (hO : Own w L) (hR : rightB ⟨a0, a1, s⟩ = true) (hR2 : rightB ⟨a0, b1, t⟩ = true) (hruns : Runs ⟨a0, a1, s⟩ ⟨a0, b1, t⟩ lo e1 g) :
    Calls Try.prog 70 #[.agg #[.int .i64 a0, .int .i64 a1, .string s], .agg #[.int .i64 a0, .int .i64 b1, .string t]] w (RJoinPost L w ⟨a0, a1, s⟩ ⟨a0, b1, t⟩ lo e1 g) := by
  obtain ⟨p1, p2, p3, p4, p5, p6⟩ := rightB_iff.1 hR
  obtain ⟨q1, q2, q3, q4, q5, q6⟩ := rightB_iff.1 hR2
  simp only at p1 p2 p3 p4 p5 p6 q1 q2 q3 q4 q5 q6
  have hP : Hid (0 ≤ a1 ∧ a1 < 32 ∧ s.size ≤ 32) := ⟨p3, p4, by omega⟩
  have hQ : Hid (0 ≤ b1 ∧ b1 < 32 ∧ t.size ≤ 32) := ⟨q3, q4, by omega⟩
  have HR := Lib.hid hR
  have HR2 := Lib.hid hR2
  have HRU := Lib.hid hruns
  have hb1 : lo < e1 ∧ e1 ≤ 32 ∧ e1 ≤ g ∧ g ≤ 32 := ⟨hruns.out.1, hruns.out.2.1, hruns.out.2.2.1, hruns.out.2.2.2.1⟩
  have HB := Lib.hid hb1
  clear p1 p2 p3 p4 p5 p6 q1 q2 q3 q4 q5 q6 hR hR2 hruns hb1
  go_enter Try.func70, Try.ntmps70
  go_wp2_with (first | (refine own_box_agg (x := .tmp 0) rfl rfl rfl hO ?_; clear hO; intro b w1 hO hS1) | (refine own_box_agg (x := .tmp 1) rfl rfl rfl hO ?_; clear hO; intro b' w2 hO hS2) | (refine own_alloc rfl rfl zero_pat rfl hO ?_; clear hO; intro g0 w3 hO hS3) | (apply own_loadrow rfl rfl rfl; (first | exact row_pat); exact sz_pat; (first | exact own_get 0 hO rfl | exact own_get 1 hO rfl | exact own_get 2 hO rfl | exact own_get 3 hO rfl | exact own_get 4 hO rfl | exact own_get 5 hO rfl | exact own_get 6 hO rfl | exact own_get 7 hO rfl); (focus (simp; done)); (first | (simp only [List.drop_zero, List.drop_succ_cons, List.take_succ_cons, List.take_zero]; rfl) | rfl)) | (apply own_load1 rfl rfl rfl; (first | exact row_int | exact row_str | exact row_bool | exact row_u8 | exact row_bys | exact row_pats | exact row_err); (first | exact own_get 0 hO rfl | exact own_get 1 hO rfl | exact own_get 2 hO rfl | exact own_get 3 hO rfl | exact own_get 4 hO rfl | exact own_get 5 hO rfl | exact own_get 6 hO rfl | exact own_get 7 hO rfl); (first | (simp only [List.getElem?_toArray, List.getElem?_cons_succ, List.getElem?_cons_zero]; rfl) | rfl)) | (go_at_call 69; with_reducible refine (rright_v _ _ a0 a1 s HR.out hO).mono ?_; clear hO; rintro e w4 ⟨rfl, hO, hS4⟩) | (go_at_call 69; with_reducible refine (rright_v _ _ a0 b1 t HR2.out hO).mono ?_; clear hO; rintro e w5 ⟨rfl, hO, hS5⟩))
  go_loopw [6, 7, 8, 9] (fun v f t' i wr => ∃ k : Nat, k ≤ 32 ∧ i = .int .i64 k ∧ RJoinInv (pts g0 (.cells #[.int .i64 0, .int .i64 0, .string ⟨#[]⟩] 33) :: pts b' (.cells #[.int .i64 a0, .int .i64 b1, .string t] 33) :: pts b (.cells #[.int .i64 a0, .int .i64 a1, .string s] 33) :: L) w ⟨a0, a1, s⟩ ⟨a0, b1, t⟩ lo e1 g v f t' k wr) (fun _ _ _ i _ => 32 - (intOf i).toNat)
  case atStart => exact ⟨0, Nat.zero_le _, rfl, Nat.zero_le _, .inl ⟨Nat.zero_le _, rfl, rfl⟩, by rw [Nat.zero_min, Nat.zero_sub]; simp only [datK, Nat.zero_sub, List.take_zero]; exact owns_nil hO, hS1.trans (hS2.trans (hS3.trans (hS4.trans hS5)))⟩
  case round =>
    obtain ⟨k, hk, rfl, hkg, hst, hO, hS⟩ := hrel
    have hB := HB.out
    by_cases hlt : k < 32
    · by_cases hgk : k = g
      · -- the gap is over: it can't be joined
        have hg2 := HRU.out.out.2.2.2.2.2 (by omega)
        have hlk : lo < k := by omega
        obtain ⟨_, rfl, rfl⟩ : lo < k ∧ _ ∧ _ := hst.resolve_left (by omega)
        have hme : min k e1 = e1 := by omega
        rw [hme] at hO ⊢
        have f1 : decide ((lo : Int) < 0) = false := by simp
        have f2 : (((e1 : Nat) : Int) != (k : Int)) = true := by simp; omega
        have hno : ¬ g = 32 := by omega
        have HNO := Lib.hid hno
        have hw : wrB ⟨a0, a1, s⟩ k = true ∨ (wrB ⟨a0, a1, s⟩ k = false ∧ wrB ⟨a0, b1, t⟩ k = true) := by
          rw [hgk]
          cases h : wrB ⟨a0, a1, s⟩ g with
          | true => exact .inl rfl
          | false => exact .inr ⟨rfl, hg2.1.resolve_left (by rw [h]; simp)⟩
        clear hst hg2 hno hgk hme
        rcases hw with h1 | ⟨h1, h2⟩
        · have H1 := Lib.hid h1
          clear h1
          go_wp2_with (first | (apply own_loadrow rfl rfl rfl; (first | exact row_pat); exact sz_pat; (first | exact own_get 0 hO rfl | exact own_get 1 hO rfl | exact own_get 2 hO rfl | exact own_get 3 hO rfl | exact own_get 4 hO rfl | exact own_get 5 hO rfl | exact own_get 6 hO rfl | exact own_get 7 hO rfl); (focus (simp; done)); (first | (simp only [List.drop_zero, List.drop_succ_cons, List.take_succ_cons, List.take_zero]; rfl) | rfl)) | (go_at_call 72; with_reducible refine (rwrites_v _ _ a0 a1 s k H1.out hP.out (by omega) hO).mono ?_; clear hO; rintro e w6 ⟨rfl, hO, hS6⟩) | (refine own_store_all (k := 1) rfl rfl rfl rfl sz_pat hO rfl rfl rfl rfl ?_; clear hO; intro w8 hO hS8; simp only [List.set_cons_zero, List.set_cons_succ] at hO))
          refine bodyPost_ret (results_cell_tmp rfl rfl (own_get 1 hO rfl) row_pat sz_pat) rfl ?_
          unfold RJoinPost
          rw [if_neg HNO.out]
          exact ⟨rfl, own_drop (own_drop (own_drop (own_drop hO))), hS.trans (hS6.trans hS8)⟩
        · have H1 := Lib.hid h1
          have H2 := Lib.hid h2
          clear h1 h2
          go_wp2_with (first | (apply own_loadrow rfl rfl rfl; (first | exact row_pat); exact sz_pat; (first | exact own_get 0 hO rfl | exact own_get 1 hO rfl | exact own_get 2 hO rfl | exact own_get 3 hO rfl | exact own_get 4 hO rfl | exact own_get 5 hO rfl | exact own_get 6 hO rfl | exact own_get 7 hO rfl); (focus (simp; done)); (first | (simp only [List.drop_zero, List.drop_succ_cons, List.take_succ_cons, List.take_zero]; rfl) | rfl)) | (go_at_call 72; with_reducible refine (rwrites_v _ _ a0 a1 s k H1.out hP.out (by omega) hO).mono ?_; clear hO; rintro e w6 ⟨rfl, hO, hS6⟩) | (go_at_call 72; with_reducible refine (rwrites_v _ _ a0 b1 t k H2.out hQ.out (by omega) hO).mono ?_; clear hO; rintro e w7 ⟨rfl, hO, hS7⟩) | (refine own_store_all (k := 1) rfl rfl rfl rfl sz_pat hO rfl rfl rfl rfl ?_; clear hO; intro w8 hO hS8; simp only [List.set_cons_zero, List.set_cons_succ] at hO))
          refine bodyPost_ret (results_cell_tmp rfl rfl (own_get 1 hO rfl) row_pat sz_pat) rfl ?_
          unfold RJoinPost
          rw [if_neg HNO.out]
          exact ⟨rfl, own_drop (own_drop (own_drop (own_drop hO))), hS.trans (hS6.trans (hS7.trans hS8))⟩
      · have hkg2 : k < g := by omega
        have hW := HRU.out.out.2.2.2.2.1 k hkg2
        by_cases hin : lo ≤ k ∧ k < e1
        · have HIN := Lib.hid hin
          have hw : (wrB ⟨a0, a1, s⟩ k = true ∧ wrB ⟨a0, b1, t⟩ k = true) ∨ (wrB ⟨a0, a1, s⟩ k = false ∧ wrB ⟨a0, b1, t⟩ k = true) ∨ (wrB ⟨a0, a1, s⟩ k = true ∧ wrB ⟨a0, b1, t⟩ k = false) := by
            have h := hW.2 hin
            cases h1 : wrB ⟨a0, a1, s⟩ k <;> cases h2 : wrB ⟨a0, b1, t⟩ k <;> simp_all
          have hf : (k = lo ∧ _ ∧ _) ∨ (lo < k ∧ _ ∧ _) := hst.imp (fun h => ⟨by omega, h.2⟩) (fun h => h)
          clear hW hst
          rcases hw with ⟨h1, h2⟩ | ⟨h1, h2⟩ | ⟨h1, h2⟩
          · have HXW : Hid (∃ hb : ((k : Int) - b1).toNat < t.size, (wholeOf ⟨a0, a1, s⟩ ⟨a0, b1, t⟩)[k]? = some (t[((k : Int) - b1).toNat]'hb)) := by
              have h3 : b1 ≤ k ∧ (k : Int) < b1 + t.size := by simpa [wrB] using h2
              have hq := hQ.out
              obtain ⟨hb, e⟩ := whole_q HR.out HR2.out h2
              refine ⟨by omega, ?_⟩
              rw [e, ← List.getElem?_eq_getElem hb, ← ba_get]
              simp only
              rw [show k - b1.toNat = ((k : Int) - b1).toNat by omega]
            have m0 : b1 ≤ k ∧ (k : Int) < b1 + t.size := by simpa [wrB] using h2
            have m1 : IntKind.i64.wrap ((k : Int) - b1) = (k : Int) - b1 := by rw [IntKind.wrap_i64]; have := hQ.out; omega
            have m2 : 0 ≤ (k : Int) - b1 := by omega
            have m3 : (k : Int) - b1 < t.size := by omega
            obtain ⟨hbd, hxw⟩ := HXW.out
            have HBD : Hid (((k : Int) - b1).toNat < t.size) := hbd
            have HXV : Hid ((wholeOf ⟨a0, a1, s⟩ ⟨a0, b1, t⟩)[k]? = some (t[((k : Int) - b1).toNat]'HBD.out)) := hxw
            have H1 := Lib.hid h1
            have H2 := Lib.hid h2
            clear h1 h2 m0 hxw hbd HXW
            rcases hf with ⟨hkl, rfl, rfl⟩ | ⟨hkl, rfl, rfl⟩
            · subst hkl
              go_wp2_with (first | (apply own_loadrow rfl rfl rfl; (first | exact row_pat); exact sz_pat; (first | exact own_get 0 hO rfl | exact own_get 1 hO rfl | exact own_get 2 hO rfl | exact own_get 3 hO rfl | exact own_get 4 hO rfl | exact own_get 5 hO rfl | exact own_get 6 hO rfl | exact own_get 7 hO rfl); (focus (simp; done)); (first | (simp only [List.drop_zero, List.drop_succ_cons, List.take_succ_cons, List.take_zero]; rfl) | rfl)) | (apply own_load1 rfl rfl rfl; (first | exact row_int | exact row_str | exact row_bool | exact row_u8 | exact row_bys | exact row_pats | exact row_err); (first | exact own_get 0 hO rfl | exact own_get 1 hO rfl | exact own_get 2 hO rfl | exact own_get 3 hO rfl | exact own_get 4 hO rfl | exact own_get 5 hO rfl | exact own_get 6 hO rfl | exact own_get 7 hO rfl); (first | (simp only [List.getElem?_toArray, List.getElem?_cons_succ, List.getElem?_cons_zero]; rfl) | rfl)) | (go_at_call 72; with_reducible refine (rwrites_v _ _ a0 a1 s k H1.out hP.out (by omega) hO).mono ?_; clear hO; rintro e w6 ⟨rfl, hO, hS6⟩) | (go_at_call 72; with_reducible refine (rwrites_v _ _ a0 b1 t k H2.out hQ.out (by omega) hO).mono ?_; clear hO; rintro e w7 ⟨rfl, hO, hS7⟩) | (refine own_append (m := 1) (n := min k e1 - k) (xs := bcs (datK ⟨a0, a1, s⟩ ⟨a0, b1, t⟩ k (min k e1))) (news := bcs [(t[((k : Int) - b1).toNat]'HBD.out)]) rfl rfl rfl rfl Try.underlying22 info_u8 rfl (by decide) (own_perm (own_alloc_new hO (.cells #[.int .u8 (((t[((k : Int) - b1).toNat]'HBD.out)).toNat : Int)] 5)) (List.Perm.swap _ _ _)) ?_ (bcs_one _) ?_ ?_ ?_; (exact rd_block (own_get 1 (own_perm (own_alloc_new hO (.cells #[.int .u8 (((t[((k : Int) - b1).toNat]'HBD.out)).toNat : Int)] 5)) (List.Perm.swap _ _ _)) rfl) rfl (by simp) (by simp) (by simp)); (unfold maxLen; omega); omega; clear hO; intro v' w9 hO hS9 hv'))
              go_roundw
              case rel => exact ⟨k + 1, by omega, by go_num, rjoin_in HRU.out HIN.out (by omega) HXV.out hO (hS.trans (hS6.trans (hS7.trans ((Same.alloc _ _).trans hS9))))⟩
              case measure => simp [intOf]; omega
            · have hme : min k e1 = k := by omega
              have f1 : decide ((lo : Int) < 0) = false := by simp
              have f2 : (((min k e1 : Nat) : Int) != (k : Int)) = false := by rw [hme]; simp
              clear hme
              go_wp2_with (first | (apply own_loadrow rfl rfl rfl; (first | exact row_pat); exact sz_pat; (first | exact own_get 0 hO rfl | exact own_get 1 hO rfl | exact own_get 2 hO rfl | exact own_get 3 hO rfl | exact own_get 4 hO rfl | exact own_get 5 hO rfl | exact own_get 6 hO rfl | exact own_get 7 hO rfl); (focus (simp; done)); (first | (simp only [List.drop_zero, List.drop_succ_cons, List.take_succ_cons, List.take_zero]; rfl) | rfl)) | (apply own_load1 rfl rfl rfl; (first | exact row_int | exact row_str | exact row_bool | exact row_u8 | exact row_bys | exact row_pats | exact row_err); (first | exact own_get 0 hO rfl | exact own_get 1 hO rfl | exact own_get 2 hO rfl | exact own_get 3 hO rfl | exact own_get 4 hO rfl | exact own_get 5 hO rfl | exact own_get 6 hO rfl | exact own_get 7 hO rfl); (first | (simp only [List.getElem?_toArray, List.getElem?_cons_succ, List.getElem?_cons_zero]; rfl) | rfl)) | (go_at_call 72; with_reducible refine (rwrites_v _ _ a0 a1 s k H1.out hP.out (by omega) hO).mono ?_; clear hO; rintro e w6 ⟨rfl, hO, hS6⟩) | (go_at_call 72; with_reducible refine (rwrites_v _ _ a0 b1 t k H2.out hQ.out (by omega) hO).mono ?_; clear hO; rintro e w7 ⟨rfl, hO, hS7⟩) | (refine own_append (m := 1) (n := min k e1 - lo) (xs := bcs (datK ⟨a0, a1, s⟩ ⟨a0, b1, t⟩ lo (min k e1))) (news := bcs [(t[((k : Int) - b1).toNat]'HBD.out)]) rfl rfl rfl rfl Try.underlying22 info_u8 rfl (by decide) (own_perm (own_alloc_new hO (.cells #[.int .u8 (((t[((k : Int) - b1).toNat]'HBD.out)).toNat : Int)] 5)) (List.Perm.swap _ _ _)) ?_ (bcs_one _) ?_ ?_ ?_; (exact rd_block (own_get 1 (own_perm (own_alloc_new hO (.cells #[.int .u8 (((t[((k : Int) - b1).toNat]'HBD.out)).toNat : Int)] 5)) (List.Perm.swap _ _ _)) rfl) rfl (by simp) (by simp) (by simp)); (unfold maxLen; omega); omega; clear hO; intro v' w9 hO hS9 hv'))
              go_roundw
              case rel => exact ⟨k + 1, by omega, by go_num, rjoin_in HRU.out HIN.out (by omega) HXV.out hO (hS.trans (hS6.trans (hS7.trans ((Same.alloc _ _).trans hS9))))⟩
              case measure => simp [intOf]; omega
          · have HXW : Hid (∃ hb : ((k : Int) - b1).toNat < t.size, (wholeOf ⟨a0, a1, s⟩ ⟨a0, b1, t⟩)[k]? = some (t[((k : Int) - b1).toNat]'hb)) := by
              have h3 : b1 ≤ k ∧ (k : Int) < b1 + t.size := by simpa [wrB] using h2
              have hq := hQ.out
              obtain ⟨hb, e⟩ := whole_q HR.out HR2.out h2
              refine ⟨by omega, ?_⟩
              rw [e, ← List.getElem?_eq_getElem hb, ← ba_get]
              simp only
              rw [show k - b1.toNat = ((k : Int) - b1).toNat by omega]
            have m0 : b1 ≤ k ∧ (k : Int) < b1 + t.size := by simpa [wrB] using h2
            have m1 : IntKind.i64.wrap ((k : Int) - b1) = (k : Int) - b1 := by rw [IntKind.wrap_i64]; have := hQ.out; omega
            have m2 : 0 ≤ (k : Int) - b1 := by omega
            have m3 : (k : Int) - b1 < t.size := by omega
            obtain ⟨hbd, hxw⟩ := HXW.out
            have HBD : Hid (((k : Int) - b1).toNat < t.size) := hbd
            have HXV : Hid ((wholeOf ⟨a0, a1, s⟩ ⟨a0, b1, t⟩)[k]? = some (t[((k : Int) - b1).toNat]'HBD.out)) := hxw
            have H1 := Lib.hid h1
            have H2 := Lib.hid h2
            clear h1 h2 m0 hxw hbd HXW
            rcases hf with ⟨hkl, rfl, rfl⟩ | ⟨hkl, rfl, rfl⟩
            · subst hkl
              go_wp2_with (first | (apply own_loadrow rfl rfl rfl; (first | exact row_pat); exact sz_pat; (first | exact own_get 0 hO rfl | exact own_get 1 hO rfl | exact own_get 2 hO rfl | exact own_get 3 hO rfl | exact own_get 4 hO rfl | exact own_get 5 hO rfl | exact own_get 6 hO rfl | exact own_get 7 hO rfl); (focus (simp; done)); (first | (simp only [List.drop_zero, List.drop_succ_cons, List.take_succ_cons, List.take_zero]; rfl) | rfl)) | (apply own_load1 rfl rfl rfl; (first | exact row_int | exact row_str | exact row_bool | exact row_u8 | exact row_bys | exact row_pats | exact row_err); (first | exact own_get 0 hO rfl | exact own_get 1 hO rfl | exact own_get 2 hO rfl | exact own_get 3 hO rfl | exact own_get 4 hO rfl | exact own_get 5 hO rfl | exact own_get 6 hO rfl | exact own_get 7 hO rfl); (first | (simp only [List.getElem?_toArray, List.getElem?_cons_succ, List.getElem?_cons_zero]; rfl) | rfl)) | (go_at_call 72; with_reducible refine (rwrites_v _ _ a0 a1 s k H1.out hP.out (by omega) hO).mono ?_; clear hO; rintro e w6 ⟨rfl, hO, hS6⟩) | (go_at_call 72; with_reducible refine (rwrites_v _ _ a0 b1 t k H2.out hQ.out (by omega) hO).mono ?_; clear hO; rintro e w7 ⟨rfl, hO, hS7⟩) | (refine own_append (m := 1) (n := min k e1 - k) (xs := bcs (datK ⟨a0, a1, s⟩ ⟨a0, b1, t⟩ k (min k e1))) (news := bcs [(t[((k : Int) - b1).toNat]'HBD.out)]) rfl rfl rfl rfl Try.underlying22 info_u8 rfl (by decide) (own_perm (own_alloc_new hO (.cells #[.int .u8 (((t[((k : Int) - b1).toNat]'HBD.out)).toNat : Int)] 5)) (List.Perm.swap _ _ _)) ?_ (bcs_one _) ?_ ?_ ?_; (exact rd_block (own_get 1 (own_perm (own_alloc_new hO (.cells #[.int .u8 (((t[((k : Int) - b1).toNat]'HBD.out)).toNat : Int)] 5)) (List.Perm.swap _ _ _)) rfl) rfl (by simp) (by simp) (by simp)); (unfold maxLen; omega); omega; clear hO; intro v' w9 hO hS9 hv'))
              go_roundw
              case rel => exact ⟨k + 1, by omega, by go_num, rjoin_in HRU.out HIN.out (by omega) HXV.out hO (hS.trans (hS6.trans (Same.trans ‹Same w6 _› (hS7.trans ((Same.alloc _ _).trans hS9)))))⟩
              case measure => simp [intOf]; omega
            · have hme : min k e1 = k := by omega
              have f1 : decide ((lo : Int) < 0) = false := by simp
              have f2 : (((min k e1 : Nat) : Int) != (k : Int)) = false := by rw [hme]; simp
              clear hme
              go_wp2_with (first | (apply own_loadrow rfl rfl rfl; (first | exact row_pat); exact sz_pat; (first | exact own_get 0 hO rfl | exact own_get 1 hO rfl | exact own_get 2 hO rfl | exact own_get 3 hO rfl | exact own_get 4 hO rfl | exact own_get 5 hO rfl | exact own_get 6 hO rfl | exact own_get 7 hO rfl); (focus (simp; done)); (first | (simp only [List.drop_zero, List.drop_succ_cons, List.take_succ_cons, List.take_zero]; rfl) | rfl)) | (apply own_load1 rfl rfl rfl; (first | exact row_int | exact row_str | exact row_bool | exact row_u8 | exact row_bys | exact row_pats | exact row_err); (first | exact own_get 0 hO rfl | exact own_get 1 hO rfl | exact own_get 2 hO rfl | exact own_get 3 hO rfl | exact own_get 4 hO rfl | exact own_get 5 hO rfl | exact own_get 6 hO rfl | exact own_get 7 hO rfl); (first | (simp only [List.getElem?_toArray, List.getElem?_cons_succ, List.getElem?_cons_zero]; rfl) | rfl)) | (go_at_call 72; with_reducible refine (rwrites_v _ _ a0 a1 s k H1.out hP.out (by omega) hO).mono ?_; clear hO; rintro e w6 ⟨rfl, hO, hS6⟩) | (go_at_call 72; with_reducible refine (rwrites_v _ _ a0 b1 t k H2.out hQ.out (by omega) hO).mono ?_; clear hO; rintro e w7 ⟨rfl, hO, hS7⟩) | (refine own_append (m := 1) (n := min k e1 - lo) (xs := bcs (datK ⟨a0, a1, s⟩ ⟨a0, b1, t⟩ lo (min k e1))) (news := bcs [(t[((k : Int) - b1).toNat]'HBD.out)]) rfl rfl rfl rfl Try.underlying22 info_u8 rfl (by decide) (own_perm (own_alloc_new hO (.cells #[.int .u8 (((t[((k : Int) - b1).toNat]'HBD.out)).toNat : Int)] 5)) (List.Perm.swap _ _ _)) ?_ (bcs_one _) ?_ ?_ ?_; (exact rd_block (own_get 1 (own_perm (own_alloc_new hO (.cells #[.int .u8 (((t[((k : Int) - b1).toNat]'HBD.out)).toNat : Int)] 5)) (List.Perm.swap _ _ _)) rfl) rfl (by simp) (by simp) (by simp)); (unfold maxLen; omega); omega; clear hO; intro v' w9 hO hS9 hv'))
              go_roundw
              case rel => exact ⟨k + 1, by omega, by go_num, rjoin_in HRU.out HIN.out (by omega) HXV.out hO (hS.trans (hS6.trans (Same.trans ‹Same w6 _› (hS7.trans ((Same.alloc _ _).trans hS9)))))⟩
              case measure => simp [intOf]; omega
          · have HXW : Hid (∃ hb : ((k : Int) - a1).toNat < s.size, (wholeOf ⟨a0, a1, s⟩ ⟨a0, b1, t⟩)[k]? = some (s[((k : Int) - a1).toNat]'hb)) := by
              have h3 : a1 ≤ k ∧ (k : Int) < a1 + s.size := by simpa [wrB] using h1
              have hq := hP.out
              obtain ⟨hb, e⟩ := whole_p HR.out HR2.out h1 h2
              refine ⟨by omega, ?_⟩
              rw [e, ← List.getElem?_eq_getElem hb, ← ba_get]
              simp only
              rw [show k - a1.toNat = ((k : Int) - a1).toNat by omega]
            have m0 : a1 ≤ k ∧ (k : Int) < a1 + s.size := by simpa [wrB] using h1
            have m1 : IntKind.i64.wrap ((k : Int) - a1) = (k : Int) - a1 := by rw [IntKind.wrap_i64]; have := hP.out; omega
            have m2 : 0 ≤ (k : Int) - a1 := by omega
            have m3 : (k : Int) - a1 < s.size := by omega
            obtain ⟨hbd, hxw⟩ := HXW.out
            have HBD : Hid (((k : Int) - a1).toNat < s.size) := hbd
            have HXV : Hid ((wholeOf ⟨a0, a1, s⟩ ⟨a0, b1, t⟩)[k]? = some (s[((k : Int) - a1).toNat]'HBD.out)) := hxw
            have H1 := Lib.hid h1
            have H2 := Lib.hid h2
            clear h1 h2 m0 hxw hbd HXW
            rcases hf with ⟨hkl, rfl, rfl⟩ | ⟨hkl, rfl, rfl⟩
            · subst hkl
              go_wp2_with (first | (apply own_loadrow rfl rfl rfl; (first | exact row_pat); exact sz_pat; (first | exact own_get 0 hO rfl | exact own_get 1 hO rfl | exact own_get 2 hO rfl | exact own_get 3 hO rfl | exact own_get 4 hO rfl | exact own_get 5 hO rfl | exact own_get 6 hO rfl | exact own_get 7 hO rfl); (focus (simp; done)); (first | (simp only [List.drop_zero, List.drop_succ_cons, List.take_succ_cons, List.take_zero]; rfl) | rfl)) | (apply own_load1 rfl rfl rfl; (first | exact row_int | exact row_str | exact row_bool | exact row_u8 | exact row_bys | exact row_pats | exact row_err); (first | exact own_get 0 hO rfl | exact own_get 1 hO rfl | exact own_get 2 hO rfl | exact own_get 3 hO rfl | exact own_get 4 hO rfl | exact own_get 5 hO rfl | exact own_get 6 hO rfl | exact own_get 7 hO rfl); (first | (simp only [List.getElem?_toArray, List.getElem?_cons_succ, List.getElem?_cons_zero]; rfl) | rfl)) | (go_at_call 72; with_reducible refine (rwrites_v _ _ a0 a1 s k H1.out hP.out (by omega) hO).mono ?_; clear hO; rintro e w6 ⟨rfl, hO, hS6⟩) | (go_at_call 72; with_reducible refine (rwrites_v _ _ a0 b1 t k H2.out hQ.out (by omega) hO).mono ?_; clear hO; rintro e w7 ⟨rfl, hO, hS7⟩) | (refine own_append (m := 1) (n := min k e1 - k) (xs := bcs (datK ⟨a0, a1, s⟩ ⟨a0, b1, t⟩ k (min k e1))) (news := bcs [(s[((k : Int) - a1).toNat]'HBD.out)]) rfl rfl rfl rfl Try.underlying22 info_u8 rfl (by decide) (own_perm (own_alloc_new hO (.cells #[.int .u8 (((s[((k : Int) - a1).toNat]'HBD.out)).toNat : Int)] 5)) (List.Perm.swap _ _ _)) ?_ (bcs_one _) ?_ ?_ ?_; (exact rd_block (own_get 1 (own_perm (own_alloc_new hO (.cells #[.int .u8 (((s[((k : Int) - a1).toNat]'HBD.out)).toNat : Int)] 5)) (List.Perm.swap _ _ _)) rfl) rfl (by simp) (by simp) (by simp)); (unfold maxLen; omega); omega; clear hO; intro v' w9 hO hS9 hv'))
              go_roundw
              case rel => exact ⟨k + 1, by omega, by go_num, rjoin_in HRU.out HIN.out (by omega) HXV.out hO (hS.trans (hS6.trans (hS7.trans ((Same.alloc _ _).trans hS9))))⟩
              case measure => simp [intOf]; omega
            · have hme : min k e1 = k := by omega
              have f1 : decide ((lo : Int) < 0) = false := by simp
              have f2 : (((min k e1 : Nat) : Int) != (k : Int)) = false := by rw [hme]; simp
              clear hme
              go_wp2_with (first | (apply own_loadrow rfl rfl rfl; (first | exact row_pat); exact sz_pat; (first | exact own_get 0 hO rfl | exact own_get 1 hO rfl | exact own_get 2 hO rfl | exact own_get 3 hO rfl | exact own_get 4 hO rfl | exact own_get 5 hO rfl | exact own_get 6 hO rfl | exact own_get 7 hO rfl); (focus (simp; done)); (first | (simp only [List.drop_zero, List.drop_succ_cons, List.take_succ_cons, List.take_zero]; rfl) | rfl)) | (apply own_load1 rfl rfl rfl; (first | exact row_int | exact row_str | exact row_bool | exact row_u8 | exact row_bys | exact row_pats | exact row_err); (first | exact own_get 0 hO rfl | exact own_get 1 hO rfl | exact own_get 2 hO rfl | exact own_get 3 hO rfl | exact own_get 4 hO rfl | exact own_get 5 hO rfl | exact own_get 6 hO rfl | exact own_get 7 hO rfl); (first | (simp only [List.getElem?_toArray, List.getElem?_cons_succ, List.getElem?_cons_zero]; rfl) | rfl)) | (go_at_call 72; with_reducible refine (rwrites_v _ _ a0 a1 s k H1.out hP.out (by omega) hO).mono ?_; clear hO; rintro e w6 ⟨rfl, hO, hS6⟩) | (go_at_call 72; with_reducible refine (rwrites_v _ _ a0 b1 t k H2.out hQ.out (by omega) hO).mono ?_; clear hO; rintro e w7 ⟨rfl, hO, hS7⟩) | (refine own_append (m := 1) (n := min k e1 - lo) (xs := bcs (datK ⟨a0, a1, s⟩ ⟨a0, b1, t⟩ lo (min k e1))) (news := bcs [(s[((k : Int) - a1).toNat]'HBD.out)]) rfl rfl rfl rfl Try.underlying22 info_u8 rfl (by decide) (own_perm (own_alloc_new hO (.cells #[.int .u8 (((s[((k : Int) - a1).toNat]'HBD.out)).toNat : Int)] 5)) (List.Perm.swap _ _ _)) ?_ (bcs_one _) ?_ ?_ ?_; (exact rd_block (own_get 1 (own_perm (own_alloc_new hO (.cells #[.int .u8 (((s[((k : Int) - a1).toNat]'HBD.out)).toNat : Int)] 5)) (List.Perm.swap _ _ _)) rfl) rfl (by simp) (by simp) (by simp)); (unfold maxLen; omega); omega; clear hO; intro v' w9 hO hS9 hv'))
              go_roundw
              case rel => exact ⟨k + 1, by omega, by go_num, rjoin_in HRU.out HIN.out (by omega) HXV.out hO (hS.trans (hS6.trans (hS7.trans ((Same.alloc _ _).trans hS9))))⟩
              case measure => simp [intOf]; omega
        · have h1 : wrB ⟨a0, a1, s⟩ k = false := by
            cases h : wrB ⟨a0, a1, s⟩ k with
            | false => rfl
            | true => exact absurd (hW.1 (.inl h)) hin
          have h2 : wrB ⟨a0, b1, t⟩ k = false := by
            cases h : wrB ⟨a0, b1, t⟩ k with
            | false => rfl
            | true => exact absurd (hW.1 (.inr h)) hin
          have H1 := Lib.hid h1
          have H2 := Lib.hid h2
          have HIN := Lib.hid hin
          have HST := Lib.hid hst
          clear h1 h2 hin hW hst
          go_wp2_with (first | (apply own_loadrow rfl rfl rfl; (first | exact row_pat); exact sz_pat; (first | exact own_get 0 hO rfl | exact own_get 1 hO rfl | exact own_get 2 hO rfl | exact own_get 3 hO rfl | exact own_get 4 hO rfl | exact own_get 5 hO rfl | exact own_get 6 hO rfl | exact own_get 7 hO rfl); (focus (simp; done)); (first | (simp only [List.drop_zero, List.drop_succ_cons, List.take_succ_cons, List.take_zero]; rfl) | rfl)) | (go_at_call 72; with_reducible refine (rwrites_v _ _ a0 a1 s k H1.out hP.out (by omega) hO).mono ?_; clear hO; rintro e w6 ⟨rfl, hO, hS6⟩) | (go_at_call 72; with_reducible refine (rwrites_v _ _ a0 b1 t k H2.out hQ.out (by omega) hO).mono ?_; clear hO; rintro e w7 ⟨rfl, hO, hS7⟩))
          go_roundw
          case rel => exact ⟨k + 1, by omega, by go_num, rjoin_out HRU.out HIN.out (by omega) HST.out hO (hS.trans (hS6.trans hS7))⟩
          case measure => simp [intOf]; omega
    · have hk32 : k = 32 := by omega
      subst hk32
      obtain ⟨_, rfl, rfl⟩ : lo < 32 ∧ _ ∧ _ := hst.resolve_left (by omega)
      have hme : min 32 e1 = e1 := by omega
      rw [hme] at hO
      have hg32 : g = 32 := by omega
      have HG := Lib.hid hg32
      have HL : Hid (e1 - lo = (datK ⟨a0, a1, s⟩ ⟨a0, b1, t⟩ lo e1).length) := (datK_length HR.out HR2.out (by omega)).symm
      clear hg32 hme hst
      go_wp2_with (first | (apply own_load1 rfl rfl rfl; (first | exact row_int | exact row_str | exact row_bool | exact row_u8 | exact row_bys | exact row_pats | exact row_err); (first | exact own_get 0 hO rfl | exact own_get 1 hO rfl | exact own_get 2 hO rfl | exact own_get 3 hO rfl | exact own_get 4 hO rfl | exact own_get 5 hO rfl | exact own_get 6 hO rfl | exact own_get 7 hO rfl); (first | (simp only [List.getElem?_toArray, List.getElem?_cons_succ, List.getElem?_cons_zero]; rfl) | rfl)) | (refine own_string (n := e1 - lo) (bs := datK ⟨a0, a1, s⟩ ⟨a0, b1, t⟩ lo e1) rfl rfl rfl Try.underlying22 Try.underlying5 Try.underlying9 HL.out (owns_rd hO) ?_) | (refine own_store_all (k := 1) rfl rfl rfl rfl sz_pat hO rfl rfl rfl rfl ?_; clear hO; intro w8 hO hS8; simp only [List.set_cons_zero, List.set_cons_succ] at hO))
      refine bodyPost_ret (results_cell_tmp rfl rfl (own_get 1 hO rfl) row_pat sz_pat) rfl ?_
      unfold RJoinPost
      rw [if_pos HG.out]
      exact ⟨rfl, own_drop (own_drop (own_drop (own_drop hO))), hS.trans hS8⟩
end Go.Proofs.Ytdcbfdepkbplbaa.H
set_option linter.unusedVariables false
set_option linter.unusedSimpArgs false
namespace Go.Proofs.Ytdcbfdepkbplbaa.H
open Go.RowKit
/-- A patch that is on. -/
structure On where
  n : Nat
  p : Pat
structure Stk where
  base : List UInt8
  l : List On
  next : Nat
def Stk.pats (m : Stk) : List Pat := m.l.map On.p
def Stk.bytes (m : Stk) : List UInt8 := appAll m.base m.pats
/-- What stands where a patch is. -/
def cutP (b : List UInt8) (p : Pat) : List UInt8 := (b.drop p.off.toNat).take p.dat.size
/-- .. of each of some, one above the other. -/
def unders : List UInt8 → List Pat → List (List UInt8)
  | _, [] => []
  | b, p :: ps => cutP b p :: unders (app b p) ps
structure Stk.Ok (m : Stk) : Prop where
  base : m.base.length = 32
  right : ∀ x ∈ m.l, rightB x.p = true
  asc : m.l.Pairwise fun a b => a.n < b.n
  lt : ∀ x ∈ m.l, x.n < m.next
  len : m.l.length ≤ 200
  lim : m.next ≤ 1000000
/-- A cell in memory: where it lies, what stands in it. -/
structure Cl where
  a : Nat
  u : Value
  n : Nat
  p : Pat
  und : List UInt8
def Cl.on (c : Cl) : On := ⟨c.n, c.p⟩
def Cl.ptr (c : Cl) : Value := .pointer (some ⟨c.a, 0, none⟩)
def Cl.row (c : Cl) : Array Value := #[.int .i64 c.p.blk, .int .i64 c.p.off, .string c.p.dat, .int .i64 c.n, c.u]
def cellL (cs : List Cl) : List HP := cs.map fun c => pts c.a (.cells c.row 67)
def undL (cs : List Cl) : List HP := cs.map fun c => owns 5 1 c.u c.und.length (bcs c.und)
def srow (byt : List UInt8) (v : Value) (next : Nat) : Array Value := (bcs byt ++ [v, .int .i64 next]).toArray
def stkL (p : Nat) (v : Value) (cs : List Cl) (byt : List UInt8) (next : Nat) : List HP :=
  pts p (.cells (srow byt v next) 72) :: owns 68 1 v cs.length (cs.map Cl.ptr) :: (cellL cs ++ undL cs)
structure Reps (m : Stk) (cs : List Cl) : Prop where
  on : cs.map Cl.on = m.l
  und : cs.map Cl.und = unders m.base m.pats
def stk (p : Nat) (m : Stk) : HP := ex fun x : Value × List Cl => sep (pur (Reps m x.2)) (seps (stkL p x.1 x.2 m.bytes m.next))
theorem stk_open {w : World} {L : List HP} {p : Nat} {m : Stk} : Own w (stk p m :: L) ↔ ∃ v cs, Reps m cs ∧ Own w (stkL p v cs m.bytes m.next ++ L) := by
  unfold stk
  rw [own_ex]
  constructor
  · rintro ⟨⟨v, cs⟩, h⟩
    rw [own_sep, own_pur, own_seps] at h
    exact ⟨v, cs, h.1, h.2⟩
  · rintro ⟨v, cs, h1, h2⟩
    refine ⟨(v, cs), ?_⟩
    rw [own_sep, own_pur, own_seps]
    exact ⟨h1, h2⟩
/-- What may be read of a stack. -/
structure StkAt (w : World) (p : Nat) (v : Value) (cs : List Cl) (byt : List UInt8) (next : Nat) : Prop where
  blk : w.heap[p]? = some (.cells (srow byt v next) 72)
  rd : Rd w 1 v cs.length (cs.map Cl.ptr)
  cell : ∀ (i : Nat) (c : Cl), cs[i]? = some c → w.heap[c.a]? = some (.cells c.row 67)
  und : ∀ (i : Nat) (c : Cl), cs[i]? = some c → RdB w c.u c.und
theorem own_mem {w : World} {L : List HP} {A : HP} (h : Own w L) (hA : A ∈ L) : ∃ L', Own w (A :: L') := by
  obtain ⟨k, hk, e⟩ := List.mem_iff_getElem.1 hA
  exact ⟨_, own_at h (by rw [List.getElem?_eq_getElem hk, e])⟩
theorem stkAt_of {w : World} {L : List HP} {p : Nat} {v : Value} {cs : List Cl} {byt : List UInt8} {next : Nat} (h : Own w (stkL p v cs byt next ++ L)) : StkAt w p v cs byt next := by
  refine ⟨own_get 0 h rfl, owns_rd (own_drop h), fun i c hc => ?_, fun i c hc => ?_⟩
  · obtain ⟨L', h'⟩ := own_mem h (A := pts c.a (.cells c.row 67)) (by
      simp only [stkL, List.cons_append, List.append_assoc, List.mem_cons, List.mem_append]
      exact .inr (.inr (.inl (List.mem_map.2 ⟨c, List.mem_of_getElem? hc, rfl⟩))))
    exact own_pts h'
  · obtain ⟨L', h'⟩ := own_mem h (A := owns 5 1 c.u c.und.length (bcs c.und)) (by
      simp only [stkL, List.cons_append, List.append_assoc, List.mem_cons, List.mem_append]
      exact .inr (.inr (.inr (.inl (List.mem_map.2 ⟨c, List.mem_of_getElem? hc, rfl⟩)))))
    exact owns_rd h'
theorem unders_length (ps : List Pat) : ∀ b, (unders b ps).length = ps.length := by
  induction ps with
  | nil => intro b; rfl
  | cons p ps ih => intro b; simp [unders, ih]
theorem unders_get (ps : List Pat) : ∀ (b : List UInt8) (i : Nat) (p : Pat), ps[i]? = some p → (unders b ps)[i]? = some (cutP (appAll b (ps.take i)) p) := by
  induction ps with
  | nil => intro b i p h; simp at h
  | cons q ps ih =>
    intro b i p h
    cases i with
    | zero => simp at h; subst h; rfl
    | succ i =>
      simp only [unders, List.getElem?_cons_succ, List.take_succ_cons]
      exact ih _ i p (by simpa using h)
theorem unders_snoc (ps : List Pat) (p : Pat) : ∀ b, unders b (ps ++ [p]) = unders b ps ++ [cutP (appAll b ps) p] := by
  induction ps with
  | nil => intro b; rfl
  | cons q ps ih => intro b; simp only [List.cons_append, unders, ih]; rfl
theorem unders_append (ps qs : List Pat) : ∀ b, unders b (ps ++ qs) = unders b ps ++ unders (appAll b ps) qs := by
  induction ps with
  | nil => intro b; rfl
  | cons q ps ih => intro b; simp only [List.cons_append, unders, ih]; rfl
theorem appAll_append (b : List UInt8) (ps qs : List Pat) : appAll b (ps ++ qs) = appAll (appAll b ps) qs := by simp [appAll]
theorem Reps.length {m : Stk} {cs : List Cl} (h : Reps m cs) : cs.length = m.l.length := by rw [← h.on, List.length_map]
theorem Reps.at_ {m : Stk} {cs : List Cl} (h : Reps m cs) {i : Nat} {c : Cl} (hc : cs[i]? = some c) : m.l[i]? = some ⟨c.n, c.p⟩ := by
  rw [← h.on, List.getElem?_map, hc]; rfl
theorem Reps.pats {m : Stk} {cs : List Cl} (h : Reps m cs) : m.pats = cs.map Cl.p := by
  unfold Stk.pats
  rw [← h.on, List.map_map]; rfl
theorem Reps.und_at {m : Stk} {cs : List Cl} (h : Reps m cs) {i : Nat} {c : Cl} (hc : cs[i]? = some c) : c.und = cutP (appAll m.base (m.pats.take i)) c.p := by
  have h1 : (cs.map Cl.und)[i]? = some c.und := by rw [List.getElem?_map, hc]; rfl
  rw [h.und, unders_get _ _ _ c.p (by rw [h.pats, List.getElem?_map, hc]; rfl)] at h1
  exact (Option.some.inj h1).symm
theorem cutP_length {b : List UInt8} {p : Pat} (hb : b.length = 32) (hp : rightB p = true) : (cutP b p).length = p.dat.size := by
  obtain ⟨p1, p2, p3, p4, p5, p6⟩ := rightB_iff.1 hp
  simp only [cutP, List.length_take, List.length_drop]
  omega
/-- Laid and lifted: as it was. -/
theorem lift_lay {b : List UInt8} {p : Pat} (hb : b.length = 32) (hp : rightB p = true) : over (app b p) p.off.toNat (cutP b p) = b := undo_app b p hb hp
end Go.Proofs.Ytdcbfdepkbplbaa.H
