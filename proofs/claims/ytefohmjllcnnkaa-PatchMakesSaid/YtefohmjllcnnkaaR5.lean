/- Contract of the reference's All; some, of the statements. -/
import Derived.Test.YtefohmjllcnnkaaR4
import Derived.Test.YtefohmjllcnnkaaP6
set_option linter.unusedVariables false
set_option linter.unusedSimpArgs false
set_option maxRecDepth 100000
namespace Go.Proofs.Ytefohmjllcnnkaa.H
open Go.RowKit
theorem own_skip {w : World} {A B : HP} {L : List HP} (h : Own w (A :: B :: L)) : Own w (A :: L) := own_drop (own_perm h (List.Perm.swap _ _ _))
theorem owns_rdB {w : World} {L : List HP} {e m : Nat} {v : Value} {bs : List UInt8} (hm : m = bs.length) (h : Own w (owns e 1 v m (bcs bs) :: L)) : RdB w v bs := by
  subst hm
  exact owns_rd h
/-- some: a slice of patches cut to 40. -/
theorem some_c (w : World) (A : Option Addr) (n c : Nat) (hn : n ≤ c) (hc : c ≤ 9223372036854775807) : Calls Try.prog 26 #[.slice A n c] w (fun e w' => e = .returned (.slice A (min n 40) c) ∧ w = w') := by
  by_cases h : 40 < n
  · have h1 : 40 ≤ c := by omega
    have h2 : min n 40 = 40 := by omega
    rw [h2]
    go_enter Try.func26, Try.ntmps26
    go_wp2
    go_ret
    exact ⟨rfl, rfl⟩
  · have h2 : min n 40 = n := by omega
    rw [h2]
    go_enter Try.func26, Try.ntmps26
    go_wp2
    go_ret
    exact ⟨rfl, rfl⟩
/-- What holds at each round of the reference's All. -/
def RAllInv (L : List HP) (w0 : World) (bs : List UInt8) (ps : List Pat) (v : Value) (k : Nat) (wr : World) : Prop :=
  (∀ p ∈ ps.take k, rightB p = true) ∧ Own wr (owns 5 1 v 32 (bcs (appAll bs (ps.take k))) :: L) ∧ Same w0 wr
/-- What the reference's All hands back. -/
def RAllPost (L : List HP) (w0 : World) (bs : List UInt8) (ps : List Pat) (e : Ending) (w' : World) : Prop :=
  if (∀ p ∈ ps, rightB p = true) then RetX w0 (fun v => .tuple #[v, .int .i64 0]) (fun v => owns 5 1 v 32 (bcs (appAll bs ps)) :: L) e w'
  else Ret w0 (.tuple #[.slice none 0 0, .int .i64 3]) L e w'
set_option maxHeartbeats 800000 in
theorem rall_ok (w : World) (L : List HP) (v vp : Value) (bs : List UInt8) (ps : List Pat) (hO : Own w L) (hr : ∀ w', Own w' L → RdB w' v bs) (hrp : ∀ w', Own w' L → RdP w' vp ps) (h32 : bs.length = 32) :
    Calls Try.prog 27 #[v, vp] w (RAllPost L w bs ps) := by
  obtain ⟨A, c, rfl⟩ := (hr w hO).slice
  obtain ⟨AP, cp, rfl⟩ := (hrp w hO).slice
  have hmax := (hrp w hO).max
  have hlen : ((bs.length : Int) != 32) = false := by simp; omega
  have H32 : Hid (bs.length = 32) := h32
  have HR := Lib.hid hr
  have HRP := Lib.hid hrp
  clear h32 hr hrp
  go_enter Try.func27, Try.ntmps27
  go_wp2_with (first | (refine own_lit0 rfl rfl Try.underlying28 sz_u8 hO ?_; clear hO; intro g0 w3 hO hS3) | (refine own_append (m := bs.length) (news := bcs bs) rfl rfl rfl rfl Try.underlying28 info_u8 rfl (by decide) hO ?_ (bcs_one bs) ?_ ?_ ?_; exact HR.out _ (own_drop hO); (rw [H32.out]; decide); (rw [H32.out]; decide); clear hO; intro v' w4 hO hS4 hv'))
  rw [Nat.zero_add, List.nil_append, H32.out] at hO
  clear hv'
  go_wp2
  go_loopw [6, 7] (fun v i wr => ∃ k : Nat, k ≤ ps.length ∧ i = .int .i64 k ∧ RAllInv L w bs ps v k wr) (fun _ i _ => ps.length - (intOf i).toNat)
  case atStart => exact ⟨0, Nat.zero_le _, rfl, by simp, hO, hS3.trans hS4⟩
  case round =>
    obtain ⟨k, hk, rfl, hright, hO, hS⟩ := hrel
    by_cases hlt : k < ps.length
    · have hp : ∃ b o d, ps[k] = Pat.mk b o d := ⟨_, _, _, rfl⟩
      obtain ⟨b0, o0, d0, hp⟩ := hp
      have hrd := HRP.out _ (own_drop hO)
      obtain ⟨ad, rfl⟩ := hrd.addr (by rw [cellsP_length]; omega)
      have hcells : ∀ (j : Nat) (u : Value), [Value.int .i64 b0, .int .i64 o0, .string d0][j]? = some u → wr.cell? ((ad.add (k * 3)).add j) = some u := fun j u hu => hrd.cell (cellsP_at ps k hlt j u (by rw [hp]; exact hu))
      have HC := Lib.hid hcells
      have HP := Lib.hid hp
      have HRT := Lib.hid hright
      have HL : Hid (32 = (appAll bs (ps.take k)).length) := (appAll_length _ _ H32.out hright).symm
      have hmax1 := hmax.1
      have hmax2 := hmax.2
      clear hcells hp hright hrd
      by_cases hR : rightB ⟨b0, o0, d0⟩ = true
      · go_wp2_with (first | (refine own_loadrow_at (vs := [.int .i64 b0, .int .i64 o0, .string d0]) rfl rfl rfl row_pat sz_pat rfl HC.out ?_) | (go_at_call 18; refine (rapply_ok _ _ _ (appAll bs (ps.take k)) _ _ _ hO (fun w' h => owns_rdB HL.out h) HL.out.symm hR).mono ?_; clear hO; rintro e w7 ⟨v2, rfl, hO, hS7⟩))
        go_roundw
        case rel =>
          refine ⟨k + 1, by omega, by go_num, ?_, ?_, hS.trans hS7⟩
          · intro p hpm
            rw [List.take_succ_eq_append_getElem hlt] at hpm
            rcases List.mem_append.1 hpm with h | h
            · exact HRT.out p h
            · simp at h; rw [h, HP.out]; exact hR
          · rw [List.take_succ_eq_append_getElem hlt, appAll_snoc, HP.out]
            exact own_skip hO
        case measure => simp [intOf]; omega
      · have hR : rightB ⟨b0, o0, d0⟩ = false := by simpa using hR
        go_wp2_with (first | (refine own_loadrow_at (vs := [.int .i64 b0, .int .i64 o0, .string d0]) rfl rfl rfl row_pat sz_pat rfl HC.out ?_) | (go_at_call 18; refine (rapply_no _ _ _ (appAll bs (ps.take k)) _ _ _ hO (fun w' h => owns_rdB HL.out h) (fun _ => hR)).mono ?_; clear hO; rintro e w7 ⟨rfl, hO, hS7⟩))
        go_ret2
        unfold RAllPost
        rw [if_neg (fun hall => by have := hall ps[k] (List.getElem_mem hlt); rw [HP.out, hR] at this; cases this)]
        exact ⟨rfl, own_drop hO, hS.trans hS7⟩
    · have hkk : k = ps.length := by omega
      have HK := Lib.hid hkk
      have HRT := Lib.hid hright
      clear hkk hright
      go_wp2
      go_ret2
      have hkk := HK.out
      subst hkk
      unfold RAllPost
      rw [List.take_length] at hO
      rw [if_pos (by have := HRT.out; rw [List.take_length] at this; exact this)]
      exact ⟨_, rfl, hO, hS⟩
theorem rall_len (w : World) (L : List HP) (v vp : Value) (bs : List UInt8) (hO : Own w L) (hr : ∀ w', Own w' L → RdB w' v bs) (h32 : ¬ bs.length = 32) :
    Calls Try.prog 27 #[v, vp] w (Ret w (.tuple #[.slice none 0 0, .int .i64 3]) L) := by
  obtain ⟨A, c, rfl⟩ := (hr w hO).slice
  have hlen : ((bs.length : Int) != 32) = true := by simp; omega
  clear h32 hr
  go_enter Try.func27, Try.ntmps27
  go_wp2
  go_ret2
  exact ⟨rfl, hO, Same.refl _⟩
end Go.Proofs.Ytefohmjllcnnkaa.H
