/- live, of the statements on stacks. -/
import Derived.Test.YtdcbfdepkbplbaaS19
set_option linter.unusedVariables false
set_option linter.unusedSimpArgs false
set_option maxRecDepth 100000
namespace Go.Proofs.Ytdcbfdepkbplbaa.H
open Go.RowKit
section
variable (w : World) (L : List HP) (p : Nat)
theorem lv_push0 (hO : Own w (stk p m0 :: L)) :
    Calls Try.prog 25 #[.pointer (some ⟨p, 0, none⟩), .agg #[.int .i64 0, .int .i64 0, .string ⟨#[97, 98]⟩]] w (Ret w (.tuple #[.int .i64 0, .int .i64 0]) (stk p m1 :: L)) :=
  push_ok w L p m0 0 0 ⟨#[97, 98]⟩ hO m0_ok (by decide) (by decide) (by decide)
theorem lv_push1 (hO : Own w (stk p m1 :: L)) :
    Calls Try.prog 25 #[.pointer (some ⟨p, 0, none⟩), .agg #[.int .i64 0, .int .i64 1, .string ⟨#[120]⟩]] w (Ret w (.tuple #[.int .i64 1, .int .i64 0]) (stk p m2 :: L)) :=
  push_ok w L p m1 0 1 ⟨#[120]⟩ hO m1_ok (by decide) (by decide) (by decide)
theorem lv_under (hO : Own w (stk p m2 :: L)) :
    Calls Try.prog 26 #[.pointer (some ⟨p, 0, none⟩), .int .i64 1] w (Ret w (.tuple #[.string ⟨#[98]⟩, .int .i64 0]) (stk p m2 :: L)) := by
  have h := under_m w L p m2 1 ⟨1, ⟨0, 1, ⟨#[120]⟩⟩⟩ hO m2_ok rfl
  rw [show (On.mk 1 ⟨0, 1, ⟨#[120]⟩⟩).p = ⟨0, 1, ⟨#[120]⟩⟩ from rfl, m2_und] at h
  exact h
theorem lv_squash (hO : Own w (stk p m2 :: L)) :
    Calls Try.prog 21 #[.pointer (some ⟨p, 0, none⟩), .int .i64 0, .int .i64 1] w (Ret w (.int .i64 0) (stk p m3 :: L)) := by
  have h := squash_ok w L p m2 0 1 ⟨0, ⟨0, 0, ⟨#[97, 98]⟩⟩⟩ ⟨1, ⟨0, 1, ⟨#[120]⟩⟩⟩ hO m2_ok rfl rfl (by decide) (fun t c h1 h2 => by omega) (by decide)
  rw [show (On.mk 0 ⟨0, 0, ⟨#[97, 98]⟩⟩).p = ⟨0, 0, ⟨#[97, 98]⟩⟩ from rfl, show (⟨(⟨0, 0, ⟨#[97, 98]⟩⟩ : Pat).blk, (On.mk 1 ⟨0, 1, ⟨#[120]⟩⟩).p.off, (On.mk 1 ⟨0, 1, ⟨#[120]⟩⟩).p.dat⟩ : Pat) = ⟨0, 1, ⟨#[120]⟩⟩ from rfl, m2_join] at h
  exact h
theorem lv_get (hO : Own w (stk p m3 :: L)) :
    Calls Try.prog 14 #[.pointer (some ⟨p, 0, none⟩), .int .i64 0] w (Ret w (.tuple #[.agg #[.int .i64 0, .int .i64 0, .string ⟨#[97, 120]⟩], .bool true]) (stk p m3 :: L)) :=
  get_m w L p m3 0 ⟨0, ⟨0, 0, ⟨#[97, 120]⟩⟩⟩ hO m3_ok rfl
theorem lv_bytes (hO : Own w (stk p m3 :: L)) :
    Calls Try.prog 19 #[.pointer (some ⟨p, 0, none⟩)] w (RetX w (fun x : Nat × Nat × Nat × List Value => .slice (some ⟨x.1, 0, none⟩) x.2.2.1 x.2.1) (fun x => pur (1 < x.2.2.1) :: pts x.1 (.cells (bcs ([97, 120] ++ List.replicate 30 0) ++ x.2.2.2).toArray 5) :: stk p m3 :: L)) := by
  refine (bytes_m w L p m3 hO m3_ok).mono ?_
  rintro e w' ⟨x, rfl, hO', hS⟩
  rw [m3_bytes] at hO'
  have hne : x ≠ .slice none 0 0 := by
    rintro rfl
    have := (owns_row hO').1
    obtain ⟨_, hr⟩ := owns_row hO'
    rcases hr with ⟨_, h0⟩ | ⟨g, cap, cur, h0, _⟩
    · simp [bcs] at h0
    · cases h0
  obtain ⟨g, cap, rest, rfl, h1, h2, h3, h4, h5⟩ := owns_open hO' hne
  exact ⟨(g, cap, 32, rest), rfl, own_pur.2 ⟨by simp, h5⟩, hS⟩
end
theorem live_c (w : World) (L : List HP) (hO : Own w L) : Calls Try.prog 12 #[] w (Ret w (.bool true) L) := by
  have hcell : ∀ r : List Value, (bcs ([97, 120] ++ List.replicate 30 0) ++ r).toArray[1]? = some (.int .u8 120) := fun r => by rfl
  have HC := Lib.hid hcell
  clear hcell
  go_enter Try.func12, Try.ntmps12
  go_wp2_with (first | (at_make; refine own_make (n := 32) rfl rfl rfl rfl Try.underlying22 info_u8 (by decide) (by decide) (made_bytes 32) hO ?_; clear hO; intro g w1 hO hS1) | (go_at_call 31; refine (new_c _ _ _ (List.replicate 32 0) hO (fun w' h => ?_) rfl).mono ?_; (exact rd_block (own_get 0 h rfl) (List.take_of_length_le (by simp [bcs_length])) (by simp [bcs_length]) (by simp) (by simp)); clear hO; rintro e w2 ⟨p, rfl, hO, hS2⟩) | (go_at_call 25; (with_reducible refine (lv_push0 _ _ p hO).mono ?_); clear hO; rintro e3 w3 ⟨rfl, hO, hS3⟩) | (go_at_call 25; (with_reducible refine (lv_push1 _ _ p hO).mono ?_); clear hO; rintro e4 w4 ⟨rfl, hO, hS4⟩) | (go_at_call 26; refine (lv_under _ _ p hO).mono ?_; clear hO; rintro e5 w5 ⟨rfl, hO, hS5⟩) | (go_at_call 21; refine (lv_squash _ _ p hO).mono ?_; clear hO; rintro e6 w6 ⟨rfl, hO, hS6⟩) | (go_at_call 14; refine (lv_get _ _ p hO).mono ?_; clear hO; rintro e7 w7 ⟨rfl, hO, hS7⟩) | (refine own_alloc (T := 33) rfl rfl zero_pat rfl hO ?_; clear hO; intro h w8 hO hS8) | (refine own_store_all (k := 0) rfl rfl rfl rfl sz_pat hO rfl rfl rfl rfl ?_; clear hO; intro w9 hO hS9; simp only [List.set_cons_zero] at hO) | (go_at_call 19; refine (lv_bytes _ _ p (own_perm hO (List.Perm.swap _ _ _))).mono ?_; clear hO; rintro e10 w10 ⟨⟨x, cap, n, rest⟩, rfl, hO, hS10⟩; rw [own_pur] at hO; have hn := hO.1; replace hO := hO.2; simp only at hn hO ⊢) | (refine own_load1 (b := h) (off := 2) (cs := #[.int .i64 0, .int .i64 0, .string ⟨#[97, 120]⟩]) (t := 33) (v := .string ⟨#[97, 120]⟩) rfl rfl rfl row_str (own_get 0 hO rfl) rfl ?_) | (refine own_load1 (b := x) (off := 1) (t := 5) (v := .int .u8 120) rfl rfl rfl row_u8 (own_get 0 hO rfl) (HC.out rest) ?_) | (apply own_loadrow rfl rfl rfl; (first | exact row_pat); exact sz_pat; (first | exact own_get 0 hO rfl | exact own_get 1 hO rfl | exact own_get 2 hO rfl | exact own_get 3 hO rfl | exact own_get 4 hO rfl | exact own_get 5 hO rfl | exact own_get 6 hO rfl | exact own_get 7 hO rfl); (focus (simp; done)); (first | (simp only [List.drop_zero, List.drop_succ_cons, List.take_succ_cons, List.take_zero]; rfl) | rfl)))
  go_ret
  exact ⟨rfl, own_drop (own_drop (own_drop (own_drop hO))), hS1.trans (hS2.trans (hS3.trans (hS4.trans (hS5.trans (hS6.trans (hS7.trans (hS8.trans (hS9.trans hS10))))))))⟩
end Go.Proofs.Ytdcbfdepkbplbaa.H
