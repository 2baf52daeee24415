/- Flush of the reference's disk. -/
import Derived.Test.YtjilkbkafigloaaK19
set_option linter.unusedVariables false
set_option linter.unusedSimpArgs false
set_option maxRecDepth 100000
namespace Go.Proofs.Ytjilkbkafigloaa.H
open Go.RowKit
/-- How many of these have versions. -/
def cntL (a : List Blk) : Nat := (a.filter fun b => !b.vs.isEmpty).length
theorem cntL_nil : cntL [] = 0 := rfl
theorem cntL_app (a b : List Blk) : cntL (a ++ b) = cntL a + cntL b := by simp [cntL]
theorem cntL_no {b : Blk} (h : b.vs = []) : cntL [b] = 0 := by simp [cntL, h]
theorem cntL_yes {b : Blk} (h : b.vs ≠ []) : cntL [b] = 1 := by simp [cntL, h]
theorem cntL_le (a : List Blk) : cntL a ≤ a.length := List.length_filter_le _ _
theorem crashL_app (pk : Nat → Nat → Int) : ∀ (a : List Blk) (k0 : Nat) (b : List Blk), crashL pk k0 (a ++ b) = crashL pk k0 a ++ crashL pk (k0 + cntL a) b
  | [], k0, b => by simp [crashL, cntL]
  | x :: a, k0, b => by
    have e : cntL (x :: a) = cntL [x] + cntL a := cntL_app [x] a
    rw [List.cons_append]
    by_cases h : x.vs = []
    · rw [crashL, if_pos h, crashL, if_pos h, crashL_app pk a k0 b, e, cntL_no h, Nat.zero_add, List.cons_append]
    · rw [crashL, if_neg h, crashL, if_neg h, crashL_app pk a (k0 + 1) b, e, cntL_yes h, show k0 + 1 + cntL a = k0 + (1 + cntL a) by omega, List.cons_append]
/-- Behind the first i blocks. -/
def crK (pk : Nat → Nat → Int) (m : List Blk) (i : Nat) : List Blk := crashL pk 0 (m.take i) ++ m.drop i
section
variable {pk : Nat → Nat → Int} {m : List Blk} {i : Nat} {b : Blk}
theorem crK_zero : crK pk m 0 = m := by simp [crK, crashL]
theorem crK_all : crK pk m m.length = crashL pk 0 m := by simp [crK]
theorem crK_len (hi : i ≤ m.length) : (crK pk m i).length = m.length := by
  unfold crK
  rw [List.length_append, crashL_len, List.length_take, List.length_drop]
  omega
theorem crK_at (hi : m[i]? = some b) : (crK pk m i)[i]? = some b := by
  have h := (List.getElem?_eq_some_iff.1 hi).1
  unfold crK
  rw [List.getElem?_append_right (by rw [crashL_len, List.length_take]; omega), crashL_len, List.length_take, Nat.min_eq_left (by omega), Nat.sub_self, List.getElem?_drop, Nat.add_zero, hi]
theorem take_next (hi : m[i]? = some b) : m.take (i + 1) = m.take i ++ [b] := by rw [List.take_add_one, hi]; rfl
theorem drop_next (hi : m[i]? = some b) : m.drop i = b :: m.drop (i + 1) := by
  have h := (List.getElem?_eq_some_iff.1 hi).1
  rw [List.drop_eq_getElem_cons h]
  congr 1
  have h2 := (List.getElem?_eq_some_iff.1 hi).2
  exact h2
theorem crK_no (hi : m[i]? = some b) (hv : b.vs = []) : crK pk m (i + 1) = crK pk m i := by
  unfold crK
  rw [take_next hi, crashL_app, drop_next hi]
  simp [crashL, hv]
theorem crK_yes (hi : m[i]? = some b) (hv : b.vs ≠ []) : crK pk m (i + 1) = (crK pk m i).set i ⟨sett (pk (cntL (m.take i)) b.vs.length) b, [], b.bad⟩ := by
  have h := (List.getElem?_eq_some_iff.1 hi).1
  unfold crK
  rw [take_next hi, crashL_app, drop_next hi, List.set_append_right _ _ (by rw [crashL_len, List.length_take]; omega), crashL_len, List.length_take, Nat.min_eq_left (by omega), Nat.sub_self, List.set_cons_zero, List.append_assoc, Nat.zero_add]
  simp [crashL, hv]
end
theorem now_sett {b : Blk} (hv : b.vs ≠ []) : sett (b.vs.length : Int) b = b.now := by
  have hlen : 0 < b.vs.length := List.length_pos_iff.2 hv
  unfold sett Blk.now
  rw [if_pos ⟨by omega, Int.le_refl _⟩, List.getLast?_eq_getElem?]
  have : ((b.vs.length : Int) - 1).toNat = b.vs.length - 1 := by omega
  rw [this]
theorem flK_next {m : List Blk} {i : Nat} {b : Blk} (hi : m[i]? = some b) : (crK allV m i).set i ⟨b.now, [], b.bad⟩ = crK allV m (i + 1) := by
  by_cases hv : b.vs = []
  · rw [crK_no hi hv]
    have h := crK_at (pk := allV) hi
    have e : (⟨b.now, [], b.bad⟩ : Blk) = b := by
      obtain ⟨s, vs, bad⟩ := b
      have hv : vs = [] := hv
      subst hv
      rfl
    rw [e]
    exact List.ext_getElem? fun t => by
      rw [List.getElem?_set]
      split
      · rename_i e; subst e
        rw [if_pos (List.getElem?_eq_some_iff.1 h).1, h]
      · rfl
  · rw [crK_yes hi hv, now_sett hv]
/-- What is owned in the reference's loops. -/
abbrev rLd (q g cap n : Nat) (rb : List RB) (rest : List Value) (l : List (Value × List Sec)) (L : List HP) : List HP := pts q (.cells #[.slice (some ⟨g, 0, none⟩) n cap] 72) :: pts g (.cells (rbs rb ++ rest).toArray 69) :: rdV l :: L
section
variable (w : World) (L : List HP) (q g cap n : Nat)
theorem rmay_in (i : Nat) (hO : Own w L) (hq : ∀ w', Own w' L → w'.heap[q]? = some (.cells #[.slice (some ⟨g, 0, none⟩) n cap] 72)) (hl : i < n) : Calls Try.prog 44 #[.pointer (some ⟨q, 0, none⟩), .int .i64 i] w (Ret w (.int .i64 0) L) := by
  have HQ := Lib.hid hq
  have h1 : ¬ ((i : Int) < 0) := by omega
  have h2 : ¬ ((n : Int) ≤ i) := by omega
  clear hq hl
  go_enter Try.func44, Try.ntmps44
  go_wp2_with (first | (refine own_load1 (b := q) (off := 0) (cs := #[.slice (some ⟨g, 0, none⟩) n cap]) (t := 72) (v := .slice (some ⟨g, 0, none⟩) n cap) rfl rfl rfl row_blks (HQ.out _ hO) rfl ?_))
  go_ret
  exact ⟨rfl, hO, Same.refl _⟩
set_option maxHeartbeats 800000 in
theorem rread_in (i : Nat) (b : Blk) (rb : List RB) (rest : List Value) (A : Option Addr) (c : Nat) (hO : Own w L) (hq : ∀ w', Own w' L → w'.heap[q]? = some (.cells #[.slice (some ⟨g, 0, none⟩) n cap] 72)) (hg : ∀ w', Own w' L → w'.heap[g]? = some (.cells (rbs rb ++ rest).toArray 69))
    (hr : ∀ w', Own w' L → Rd w' 32 (.slice A b.vs.length c) b.vs.length (secs b.vs)) (hl : i < n) (hb : rb[i]? = some (.slice A b.vs.length c, b)) (h32 : ∀ x ∈ rb, x.2.s.length = 32) (h32v : ∀ s ∈ b.vs, s.length = 32) : Calls Try.prog 31 #[.pointer (some ⟨q, 0, none⟩), .int .i64 i] w (Ret w (.tuple #[secV b.now, .int .i64 0]) L) := by
  have HQ : Hid (∀ a o w', Own w' (pts a o :: L) → w'.heap[q]? = some (.cells #[.slice (some ⟨g, 0, none⟩) n cap] 72)) := Lib.hid fun a o w' h => hq w' (own_drop h)
  have HG : Hid (∀ a o w', Own w' (pts a o :: L) → w'.heap[g]? = some (.cells (rbs rb ++ rest).toArray 69)) := Lib.hid fun a o w' h => hg w' (own_drop h)
  have hs32 : b.s.length = 32 := h32 _ (List.mem_of_getElem? hb)
  have H32 := Lib.hid hs32
  have HR := Lib.hid (rb_row (rest := rest) h32 hb)
  have HF := Lib.hid (rb_fit (rest := rest) h32 hb)
  have HV := Lib.hid (rb_v (rest := rest) h32 hb)
  have hl2 : (i : Int) < n := by omega
  have HL := Lib.hid hl
  have hS := Same.refl w
  have hr2 := hr w hO
  have hmx := hr2.max
  cases hvs : b.vs.getLast? with
  | none =>
    have e0 : b.vs = [] := List.getLast?_eq_none_iff.1 hvs
    have enow : Hid (b.now = b.s) := by show _ = _; simp [Blk.now, hvs]
    rw [e0] at HV
    clear hmx hvs e0 hr hr2 hq hg hb h32 h32v hs32 hl
    go_enter Try.func31, Try.ntmps31
    go_wp2_with (first | (refine own_alloc (T := 28) rfl rfl zero_rsec rfl hO ?_; clear hO; intro ga u hO hSn; replace hS := hS.trans hSn; clear hSn) | (go_at_call 44; (with_reducible refine Calls.mono (rmay_in _ _ q g cap n i hO (HQ.out _ _) HL.out) ?_); clear hO; rintro e u ⟨rfl, hO, hSn⟩; replace hS := hS.trans hSn; clear hSn) | (refine own_load1 (b := g) (off := i * 34 + 32) (v := .slice A 0 c) rfl rfl rfl row_rsecs (HG.out _ _ _ hO) HV.out ?_) | (refine own_loadrow (b := g) (off := i * 34) (vs := bcs b.s) rfl rfl rfl row_rsec sz_rsec (HG.out _ _ _ hO) (by have := HF.out; omega) HR.out ?_) | (refine own_load1 (b := q) (off := 0) (cs := #[.slice (some ⟨g, 0, none⟩) n cap]) (t := 72) (v := .slice (some ⟨g, 0, none⟩) n cap) rfl rfl rfl row_blks (HQ.out _ _ _ hO) rfl ?_) | (refine own_store_all (k := 0) rfl rfl rfl rfl sz_rsec hO rfl (secA_size H32.out) (by rfl) (bcs_all _) ?_; clear hO; intro u hO hSn; replace hS := hS.trans hSn; clear hSn; simp only [List.set_cons_zero, List.set_cons_succ] at hO))
    refine bodyPost_ret (results_cell_tmp rfl rfl (own_get 0 hO rfl) row_rsec (info_rsec H32.out)) rfl ⟨by rw [enow.out]; rfl, own_drop hO, hS⟩
  | some s =>
    have hne : b.vs ≠ [] := fun e => by rw [e] at hvs; cases hvs
    have hlen : 0 < b.vs.length := List.length_pos_iff.2 hne
    have hat : b.vs[b.vs.length - 1]? = some s := by rw [← List.getLast?_eq_getElem?]; exact hvs
    have enow : Hid (b.now = s) := by show _ = _; simp [Blk.now, hvs]
    have h32s : Hid (s.length = 32) := h32v s (List.mem_of_getElem? hat)
    obtain ⟨ad2, rfl, _⟩ := vers_cell hr2 h32v hat
    have HC2 : Hid (∀ a o w', Own w' (pts a o :: L) → ∀ (j : Nat) (u : Value), (bcs s)[j]? = some u → w'.cell? ((ad2.add ((b.vs.length - 1) * 32)).add j) = some u) := Lib.hid fun a o w' h => by
      obtain ⟨ad3, e3, h3⟩ := vers_cell (hr w' (own_drop h)) h32v hat
      cases e3
      exact h3
    have hlt : ((b.vs.length - 1 : Nat) : Int) < b.vs.length := by omega
    have hpos : (0 : Int) < b.vs.length := by omega
    have hsub : IntKind.i64.wrap ((b.vs.length : Int) - 1) = ((b.vs.length - 1 : Nat) : Int) := by rw [IntKind.wrap_i64] <;> omega
    clear hvs hr hr2 hq hg hb h32 h32v hs32 hl hat hne hlen
    go_enter Try.func31, Try.ntmps31
    go_wp2_with (first | (refine own_alloc (T := 28) rfl rfl zero_rsec rfl hO ?_; clear hO; intro ga u hO hSn; replace hS := hS.trans hSn; clear hSn) | (go_at_call 44; (with_reducible refine Calls.mono (rmay_in _ _ q g cap n i hO (HQ.out _ _) HL.out) ?_); clear hO; rintro e u ⟨rfl, hO, hSn⟩; replace hS := hS.trans hSn; clear hSn) | (refine own_load1 (b := g) (off := i * 34 + 32) (v := .slice (some ad2) b.vs.length c) rfl rfl rfl row_rsecs (HG.out _ _ _ hO) HV.out ?_) | (refine own_loadrow_at (ad := ad2.add ((b.vs.length - 1) * 32)) (vs := bcs s) rfl rfl rfl row_rsec sz_rsec (by rw [bcs_length]; exact h32s.out) (HC2.out _ _ _ hO) ?_) | (refine own_load1 (b := q) (off := 0) (cs := #[.slice (some ⟨g, 0, none⟩) n cap]) (t := 72) (v := .slice (some ⟨g, 0, none⟩) n cap) rfl rfl rfl row_blks (HQ.out _ _ _ hO) rfl ?_) | (refine own_store_all (k := 0) rfl rfl rfl rfl sz_rsec hO rfl (secA_size h32s.out) (by rfl) (bcs_all _) ?_; clear hO; intro u hO hSn; replace hS := hS.trans hSn; clear hSn; simp only [List.set_cons_zero, List.set_cons_succ] at hO))
    refine bodyPost_ret (results_cell_tmp rfl rfl (own_get 0 hO rfl) row_rsec (info_rsec h32s.out)) rfl ⟨by rw [enow.out]; rfl, own_drop hO, hS⟩
end
end Go.Proofs.Ytjilkbkafigloaa.H
