/- Contract of chosen. -/
import Derived.Test.YtdcbfdepkbplbaaS4
set_option linter.unusedVariables false
set_option linter.unusedSimpArgs false
set_option maxRecDepth 100000
namespace Go.Proofs.Ytdcbfdepkbplbaa.H
open Go.RowKit
def ints (l : List Int) : List Value := l.map fun n => Value.int .i64 n
def bls (l : List Bool) : List Value := l.map fun b => Value.bool b
theorem info_bool : (Try.prog.info? 4).map (fun i => (i.zero, i.size, i.bytes)) = some (some (.bool false), 1, 1) := by kernel_rfl
theorem sz_bool : (Try.prog.info? 4).map (·.size) = some 1 := by kernel_rfl
theorem row_b : isRowB Try.prog 4 = some false := by kernel_rfl
/-- Which cells are among some. -/
def inOf (cs : List Cl) (l : List Int) : List Bool := cs.map fun c => l.contains (c.n : Int)
def OutOf (cs : List Cl) (l : List Int) : Prop := ∃ x ∈ l, ∀ c ∈ cs, (c.n : Int) ≠ x
def BusyAt (cs : List Cl) (l : List Int) (i k : Nat) : Prop := ∃ c d, cs[i]? = some c ∧ cs[k]? = some d ∧ l.contains (c.n : Int) = true ∧ l.contains (d.n : Int) = false ∧ meetB c.p d.p = true
def Busy (cs : List Cl) (l : List Int) : Prop := ∃ i k, k < i ∧ BusyAt cs l i k
theorem bls_set (l : List Bool) (i : Nat) (b : Bool) : (bls l).toArray.setIfInBounds i (.bool b) = (bls (l.set i b)).toArray := by
  apply Array.ext'
  rw [Array.toList_setIfInBounds]
  simp [bls, List.map_set]
theorem made_bools (n : Nat) : madeCells #[.bool false] n = (bls (List.replicate n false)).toArray := by
  rw [made_one]; simp [bls]
theorem in_nil (cs : List Cl) : inOf cs [] = List.replicate cs.length false := by
  unfold inOf
  rw [List.eq_replicate_iff]
  simp
theorem in_next {cs : List Cl} (hasc : cs.Pairwise fun a b => a.n < b.n) {l : List Int} {i : Nat} {c : Cl} (hc : cs[i]? = some c) : (inOf cs l).set i true = inOf cs (l ++ [(c.n : Int)]) := by
  apply List.ext_getElem?
  intro j
  rw [List.getElem?_set]
  unfold inOf
  rw [List.length_map, List.getElem?_map, List.getElem?_map]
  obtain ⟨h1, h2⟩ := List.getElem?_eq_some_iff.1 hc
  by_cases hij : i = j
  · subst hij
    subst h2
    simp [h1]
  · rw [if_neg hij]
    cases hj : cs[j]? with
    | none => rfl
    | some d =>
      have hne : ¬ (d.n : Int) = c.n := fun e => by
        rcases Nat.lt_or_ge i j with h | h
        · have := asc_lt hasc hc hj h; omega
        · have := asc_lt hasc hj hc (by omega); omega
      simp [hne]
theorem nb_next {cs : List Cl} {l : List Int} {i k : Nat} (h : ∀ b, b < k → ¬ BusyAt cs l i b) (hk : ¬ BusyAt cs l i k) : ∀ b, b < k + 1 → ¬ BusyAt cs l i b := fun b hb => by
  rcases Nat.lt_or_ge b k with h5 | h5
  · exact h b h5
  · obtain rfl : b = k := by omega
    exact hk
theorem nb_1 {cs : List Cl} {l : List Int} {i k : Nat} {c : Cl} (hc : cs[i]? = some c) (h : false = l.contains (c.n : Int)) : ¬ BusyAt cs l i k := by
  rintro ⟨c', d', hc', hd', e1, e2, e3⟩
  cases Option.some.inj (hc'.symm.trans hc)
  rw [← h] at e1; cases e1
theorem nb_2 {cs : List Cl} {l : List Int} {i k : Nat} {d : Cl} (hd : cs[k]? = some d) (h : true = l.contains (d.n : Int)) : ¬ BusyAt cs l i k := by
  rintro ⟨c', d', hc', hd', e1, e2, e3⟩
  cases Option.some.inj (hd'.symm.trans hd)
  rw [← h] at e2; cases e2
theorem nb_3 {cs : List Cl} {l : List Int} {i k : Nat} {c d : Cl} (hc : cs[i]? = some c) (hd : cs[k]? = some d) (h : meetB c.p d.p = false) : ¬ BusyAt cs l i k := by
  rintro ⟨c', d', hc', hd', e1, e2, e3⟩
  cases Option.some.inj (hc'.symm.trans hc)
  cases Option.some.inj (hd'.symm.trans hd)
  rw [h] at e3; cases e3
theorem nb_row {cs : List Cl} {l : List Int} {i : Nat} (h : ∀ a b, b < a → a < i → ¬ BusyAt cs l a b) (hk : ∀ b, b < i → ¬ BusyAt cs l i b) : ∀ a b, b < a → a < i + 1 → ¬ BusyAt cs l a b := fun a b h1 h2 => by
  rcases Nat.lt_or_ge a i with h5 | h5
  · exact h a b h1 h5
  · obtain rfl : a = i := by omega
    exact hk b h1
def ChosenPost (cs : List Cl) (l : List Int) (w : World) (L : List HP) (e : Ending) (w' : World) : Prop :=
  (OutOf cs l ∧ Ret w (.tuple #[.slice none 0 0, .int .i64 2]) L e w') ∨ (¬ OutOf cs l ∧ Busy cs l ∧ Ret w (.tuple #[.slice none 0 0, .int .i64 12]) L e w') ∨
  (¬ OutOf cs l ∧ ¬ Busy cs l ∧ RetX w (fun g => .tuple #[.slice (some ⟨g, 0, none⟩) cs.length cs.length, .int .i64 0]) (fun g => pts g (.cells (bls (inOf cs l)).toArray 4) :: L) e w')
set_option maxHeartbeats 3200000 in
theorem chosen_c (w : World) (L : List HP) (p : Nat) (v : Value) (cs : List Cl) (byt : List UInt8) (next : Nat) (sv : Value) (l : List Int) (hO : Own w L) (hr : ∀ w', Own w' L → StkAt w' p v cs byt next) (hk : CsOk cs byt) (hs : ∀ w', Own w' L → Rd w' 1 sv l.length (ints l)) (hl : ∀ x ∈ l, i64 x) :
    Calls Try.prog 36 #[.pointer (some ⟨p, 0, none⟩), sv] w (ChosenPost cs l w L) := by
  have HR := Lib.hid hr
  have HK := Lib.hid hk
  have HS := Lib.hid hs
  have HL := Lib.hid hl
  obtain ⟨A, cap, rfl⟩ := (hr w hO).rd.slice
  have hm := (hr w hO).rd.max
  obtain ⟨B, bcap, rfl⟩ := (hs w hO).slice
  have hmb := (hs w hO).max
  have hlen := hk.len
  clear hr hk hs hl
  go_enter Try.func36, Try.ntmps36
  go_wp2_with (first | (refine own_load1 (b := p) (cs := srow byt _ next) (t := 72) (off := 32) (v := .slice A cs.length cap) rfl rfl rfl row_cells (HR.out _ hO).blk (srow_v _ _ _ HK.out.byt) ?_) | (at_make; go_loud (refine own_make (n := cs.length) (cs := (bls (List.replicate cs.length false)).toArray) rfl rfl rfl rfl Try.underlying74 info_bool (by omega) (by omega) (by rw [Nat.mul_one]; exact made_bools cs.length) hO ?_; clear hO; intro g w3 hO hS3)))
  go_loopw [4, 23] (fun s4 i' wr => s4 = .slice (some ⟨g, 0, none⟩) cs.length cs.length ∧ ∃ k : Nat, k ≤ l.length ∧ i' = .int .i64 k ∧ (∀ x ∈ l.take k, ∃ c ∈ cs, (c.n : Int) = x) ∧ Own wr (pts g (.cells (bls (inOf cs (l.take k))).toArray 4) :: L) ∧ Same w wr) (fun _ i' _ => l.length - (intOf i').toNat)
  case atStart => exact ⟨rfl, 0, Nat.zero_le _, rfl, by simp, by rw [List.take_zero, in_nil]; exact hO, hS3⟩
  case round =>
    clear hO hS3
    obtain ⟨rfl, k, hk, rfl, hon, hO, hS⟩ := hrel
    have HON := Lib.hid hon
    clear hon
    by_cases hlt : k < l.length
    · obtain ⟨x, hx⟩ : ∃ x, l[k]? = some x := ⟨_, List.getElem?_eq_getElem hlt⟩
      have HX := Lib.hid hx
      have HXI : Hid (i64 x) := HL.out x (List.mem_of_getElem? hx)
      obtain ⟨ad, rfl⟩ := (HS.out _ (own_drop hO)).addr (by unfold ints; rw [List.length_map]; omega)
      have hcell : wr.cell? (ad.add k) = some (.int .i64 x) := by
        have h1 : wr.cell? ((ad.add (k * 1)).add 0) = some (.int .i64 x) := (HS.out _ (own_drop hO)).cell (by rw [Nat.mul_one, Nat.add_zero]; unfold ints; rw [List.getElem?_map, hx]; rfl)
        rwa [addr_add, Nat.mul_one, Nat.add_zero] at h1
      have hm1 : (k : Int) < l.length := by omega
      clear hx
      by_cases hin : ∃ (i : Nat) (c : Cl), cs[i]? = some c ∧ (c.n : Int) = x
      · obtain ⟨i, c, hc, hcx⟩ := hin
        subst hcx
        have HC := Lib.hid hc
        have hil : i < cs.length := (List.getElem?_eq_some_iff.1 hc).1
        have hi1 : (i : Int) < cs.length := by omega
        have HT : Hid (l.take (k + 1) = l.take k ++ [(c.n : Int)]) := by
          show _ = _
          rw [List.take_succ_eq_append_getElem hlt]
          congr 2
          have := HX.out
          simpa [List.getElem?_eq_getElem hlt] using this
        clear hc
        go_wp2_with (first | (go_at_call 34; refine (place_v _ _ p _ cs byt next _ i c hO (fun w' h => HR.out w' (own_drop h)) HK.out HXI.out HC.out rfl).mono ?_; clear hO hcell; rintro e w5 ⟨rfl, hO, hS5⟩) | (refine own_store1 (k := 0) (b := g) (off := i) (cs := (bls (inOf cs (l.take k))).toArray) (cs' := (bls (inOf cs (l.take (k + 1)))).toArray) rfl rfl rfl rfl sz_bool hO rfl rfl ?_ ?_ ?_; (simp only [List.size_toArray, bls, inOf, List.length_map]; exact hil); (rw [HT.out, ← in_next HK.out.asc HC.out]; exact bls_set _ _ _); clear hO; intro w6 hO hS6; simp only [List.set_cons_zero] at hO))
        go_roundw
        case rel => exact ⟨rfl, k + 1, by omega, by go_num, fun x hx => by
          rw [HT.out, List.mem_append, List.mem_singleton] at hx
          rcases hx with hx | rfl
          · exact HON.out x hx
          · exact ⟨c, List.mem_of_getElem? HC.out, rfl⟩, hO, hS.trans (hS5.trans hS6)⟩
        case measure => simp [intOf]; omega
      · have HNO : Hid (∀ c ∈ cs, (c.n : Int) ≠ x) := fun c hc he => by
          obtain ⟨i, hi, e⟩ := List.mem_iff_getElem.1 hc
          exact hin ⟨i, c, by rw [List.getElem?_eq_getElem hi, e], he⟩
        clear hin
        cases hneg : decide (x < 0) with
        | true =>
          go_wp2_with (first | (go_at_call 34; refine (place_n _ _ p _ cs byt next x hO (fun w' h => HR.out w' (own_drop h)) HK.out HXI.out HNO.out).mono ?_; clear hO hcell; rintro e w5 ⟨rfl, hO, hS5⟩))
          go_ret2
          exact .inl ⟨⟨x, List.mem_of_getElem? HX.out, HNO.out⟩, rfl, own_drop hO, hS.trans hS5⟩
        | false =>
          go_wp2_with (first | (go_at_call 34; refine (place_n _ _ p _ cs byt next x hO (fun w' h => HR.out w' (own_drop h)) HK.out HXI.out HNO.out).mono ?_; clear hO hcell; rintro e w5 ⟨rfl, hO, hS5⟩))
          go_ret2
          exact .inl ⟨⟨x, List.mem_of_getElem? HX.out, HNO.out⟩, rfl, own_drop hO, hS.trans hS5⟩
    · have hke : k = l.length := by omega
      subst hke
      rw [List.take_length] at hO HON
      have HIN : Hid (¬ OutOf cs l) := fun ⟨x, hx, hno⟩ => by
        obtain ⟨c, hc, e⟩ := HON.out x hx
        exact hno c hc e
      clear HON
      go_wp2_with (first | (refine own_load1 (b := p) (cs := srow byt _ next) (t := 72) (off := 32) (v := .slice A cs.length cap) rfl rfl rfl row_cells (HR.out _ (own_drop hO)).blk (srow_v _ _ _ HK.out.byt) ?_))
      go_loopw [4, 45] (fun s4 i' wr => s4 = .slice (some ⟨g, 0, none⟩) cs.length cs.length ∧ ∃ i : Nat, i ≤ cs.length ∧ i' = .int .i64 i ∧ (∀ a b, b < a → a < i → ¬ BusyAt cs l a b) ∧ Own wr (pts g (.cells (bls (inOf cs l)).toArray 4) :: L) ∧ Same w wr) (fun _ i' _ => cs.length - (intOf i').toNat)
      case atStart => exact ⟨rfl, 0, Nat.zero_le _, rfl, fun a b h1 h2 => by omega, hO, hS⟩
      case round =>
        clear hO hS
        obtain ⟨rfl, i, hi, rfl, hnb, hO, hS⟩ := hrel
        have HNB := Lib.hid hnb
        clear hnb
        by_cases hlt2 : i < cs.length
        · obtain ⟨c, hc⟩ : ∃ c, cs[i]? = some c := ⟨_, List.getElem?_eq_getElem hlt2⟩
          have HC := Lib.hid hc
          obtain ⟨ad, rfl⟩ := (HR.out _ (own_drop hO)).rd.addr (by rw [List.length_map]; omega)
          have hcell := ptr_cell (HR.out _ (own_drop hO)).rd hc
          have hi1 : (i : Int) < cs.length := by omega
          have hicap : i ≤ cap := by omega
          obtain ⟨B1, hB1⟩ : ∃ B1, B1 = l.contains (c.n : Int) := ⟨_, rfl⟩
          have HE1 : Hid (B1 = l.contains (c.n : Int)) := hB1
          have HB1 : Hid ((bls (inOf cs l)).toArray[i]? = some (.bool B1)) := by
            show _ = _
            rw [hB1]
            simp only [bls, inOf, List.getElem?_toArray, List.getElem?_map, hc]
            rfl
          clear hc hB1
          go_wp2_with (first | (refine own_load1 (b := p) (cs := srow byt _ next) (t := 72) (off := 32) (v := .slice (some ad) cs.length cap) rfl rfl rfl row_cells (HR.out _ (own_drop hO)).blk (srow_v _ _ _ HK.out.byt) ?_))
          go_loopw [4, 57] (fun s4 k' wr => s4 = .slice (some ⟨g, 0, none⟩) cs.length cs.length ∧ ∃ k : Nat, k ≤ i ∧ k' = .int .i64 k ∧ (∀ b, b < k → ¬ BusyAt cs l i b) ∧ Own wr (pts g (.cells (bls (inOf cs l)).toArray 4) :: L) ∧ Same w wr) (fun _ k' _ => i - (intOf k').toNat)
          case atStart => exact ⟨rfl, 0, Nat.zero_le _, rfl, fun b h1 => by omega, hO, hS⟩
          case round =>
            clear hO hS hcell
            obtain ⟨rfl, k, hk, rfl, hnb2, hO, hS⟩ := hrel
            have HNB2 := Lib.hid hnb2
            clear hnb2
            by_cases hlt3 : k < i
            · obtain ⟨d, hd⟩ : ∃ d, cs[k]? = some d := ⟨_, List.getElem?_eq_getElem (by omega)⟩
              have HD := Lib.hid hd
              have hcell := ptr_cell (HR.out _ (own_drop hO)).rd hd
              have hk1 : (k : Int) < i := by omega
              have hk2 : (k : Int) < cs.length := by omega
              obtain ⟨B2, hB2⟩ : ∃ B2, B2 = l.contains (d.n : Int) := ⟨_, rfl⟩
              have HE2 : Hid (B2 = l.contains (d.n : Int)) := hB2
              have HB2 : Hid ((bls (inOf cs l)).toArray[k]? = some (.bool B2)) := by
                show _ = _
                rw [hB2]
                simp only [bls, inOf, List.getElem?_toArray, List.getElem?_map, hd]
                rfl
              obtain ⟨B3, hmt0⟩ : ∃ B3, meetB c.p d.p = B3 := ⟨_, rfl⟩
              have HMT := Lib.hid hmt0
              clear hd hB2 hmt0
              cases B1 with
              | false =>
                go_wp2_with (first | (refine own_load1 (b := g) (off := i) (cs := (bls (inOf cs l)).toArray) (t := 4) (v := .bool false) rfl rfl rfl row_b (own_get 0 hO rfl) HB1.out ?_))
                go_roundw
                case rel => exact ⟨rfl, k + 1, by omega, by go_num, nb_next HNB2.out (nb_1 HC.out HE1.out), hO, hS⟩
                case measure => simp [intOf]; omega
              | true =>
                cases B2 with
                | true =>
                  go_wp2_with (first | (refine own_load1 (b := g) (off := i) (cs := (bls (inOf cs l)).toArray) (t := 4) (v := .bool true) rfl rfl rfl row_b (own_get 0 hO rfl) HB1.out ?_) | (refine own_load1 (b := g) (off := k) (cs := (bls (inOf cs l)).toArray) (t := 4) (v := .bool true) rfl rfl rfl row_b (own_get 0 hO rfl) HB2.out ?_))
                  go_roundw
                  case rel => exact ⟨rfl, k + 1, by omega, by go_num, nb_next HNB2.out (nb_2 HD.out HE2.out), hO, hS⟩
                  case measure => simp [intOf]; omega
                | false =>
                  cases B3 with
                  | true =>
                    have hmt := HMT.out
                    have HMT2 := Lib.hid hmt
                    clear hmt
                    go_wp2_with (first | (refine own_load1 (b := g) (off := i) (cs := (bls (inOf cs l)).toArray) (t := 4) (v := .bool true) rfl rfl rfl row_b (own_get 0 hO rfl) HB1.out ?_) | (refine own_load1 (b := g) (off := k) (cs := (bls (inOf cs l)).toArray) (t := 4) (v := .bool false) rfl rfl rfl row_b (own_get 0 hO rfl) HB2.out ?_) | (go_at_call 35; refine (meets_v _ _ c d true HMT2.out hO (fun w' h => (HR.out w' (own_drop h)).cell _ _ HC.out) (HK.out.right _ (List.mem_of_getElem? HC.out)) (fun w' h => (HR.out w' (own_drop h)).cell _ _ HD.out) (HK.out.right _ (List.mem_of_getElem? HD.out))).mono ?_; clear hO hcell; rintro e w6 ⟨rfl, hO, hS6⟩))
                    go_ret2
                    exact .inr (.inl ⟨HIN.out, ⟨i, k, hlt3, c, d, HC.out, HD.out, HE1.out.symm, HE2.out.symm, HMT.out⟩, rfl, own_drop hO, hS.trans hS6⟩)
                  | false =>
                    go_wp2_with (first | (refine own_load1 (b := g) (off := i) (cs := (bls (inOf cs l)).toArray) (t := 4) (v := .bool true) rfl rfl rfl row_b (own_get 0 hO rfl) HB1.out ?_) | (refine own_load1 (b := g) (off := k) (cs := (bls (inOf cs l)).toArray) (t := 4) (v := .bool false) rfl rfl rfl row_b (own_get 0 hO rfl) HB2.out ?_) | (go_at_call 35; refine (meets_v _ _ c d false HMT.out hO (fun w' h => (HR.out w' (own_drop h)).cell _ _ HC.out) (HK.out.right _ (List.mem_of_getElem? HC.out)) (fun w' h => (HR.out w' (own_drop h)).cell _ _ HD.out) (HK.out.right _ (List.mem_of_getElem? HD.out))).mono ?_; clear hO hcell; rintro e w6 ⟨rfl, hO, hS6⟩))
                    go_roundw
                    case rel => exact ⟨rfl, k + 1, by omega, by go_num, nb_next HNB2.out (nb_3 HC.out HD.out HMT.out), hO, hS.trans hS6⟩
                    case measure => simp [intOf]; omega
            · have hke2 : k = i := by omega
              subst hke2
              go_wp2
              go_roundw
              case rel => exact ⟨rfl, k + 1, by omega, by go_num, nb_row HNB.out HNB2.out, hO, hS⟩
              case measure => simp [intOf]; omega
        · have hie : i = cs.length := by omega
          have HNBUSY : Hid (¬ Busy cs l) := fun ⟨a, b, hab, hb⟩ => by
            obtain ⟨c, d, hc, hd, r⟩ := hb
            have := (List.getElem?_eq_some_iff.1 hc).1
            exact HNB.out a b hab (by omega) ⟨c, d, hc, hd, r⟩
          subst hie
          go_wp2
          go_ret2
          exact .inr (.inr ⟨HIN.out, HNBUSY.out, g, rfl, hO, hS⟩)
end Go.Proofs.Ytdcbfdepkbplbaa.H
