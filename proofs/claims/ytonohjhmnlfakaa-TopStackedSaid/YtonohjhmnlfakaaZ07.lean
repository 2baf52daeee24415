/- Contract of chosen. Contracts of Roll and Base. Contracts of Roll and Base. Contracts of Roll and Base, on what a stack means. -/
import Derived.Test.YtonohjhmnlfakaaZ05
import Derived.Test.YtonohjhmnlfakaaZ06
set_option linter.unusedVariables false
set_option linter.unusedSimpArgs false
set_option maxRecDepth 100000
namespace Go.Proofs.Ytonohjhmnlfakaa.H
open Go.RowKit
def ints (l : List Int) : List Value := l.map fun n => Value.int .i64 n
def bls (l : List Bool) : List Value := l.map fun b => Value.bool b
theorem info_bool : (Try.prog.info? 4).map (fun i => (i.zero, i.size, i.bytes)) = some (some (.bool false), 1, 1) := by kernel_rfl
theorem sz_bool : (Try.prog.info? 4).map (·.size) = some 1 := by kernel_rfl
theorem row_b : isRowB Try.prog 4 = some false := by kernel_rfl
/-- Which cells are among some. -/
def inOf (cs : List Cl) (l : List Int) : List Bool := cs.map fun c => l.contains (c.n : Int)
def OutOf (cs : List Cl) (l : List Int) : Prop := ∃ x ∈ l, ∀ c ∈ cs, (c.n : Int) ≠ x
def BusyAt (cs : List Cl) (l : List Int) (i k : Nat) : Prop := ∃ c d, cs[i]? = some c ∧ cs[k]? = some d ∧ l.contains (c.n : Int) = true ∧ l.contains (d.n : Int) = false ∧ meetB c.p d.p = true
def Busy (cs : List Cl) (l : List Int) : Prop := ∃ i k, k < i ∧ BusyAt cs l i k
theorem bls_set (l : List Bool) (i : Nat) (b : Bool) : (bls l).toArray.setIfInBounds i (.bool b) = (bls (l.set i b)).toArray := by
  apply Array.ext'
  rw [Array.toList_setIfInBounds]
  simp [bls, List.map_set]
theorem made_bools (n : Nat) : madeCells #[.bool false] n = (bls (List.replicate n false)).toArray := by
  rw [made_one]; simp [bls]
theorem in_nil (cs : List Cl) : inOf cs [] = List.replicate cs.length false := by
  unfold inOf
  rw [List.eq_replicate_iff]
  simp
theorem in_next {cs : List Cl} (hasc : cs.Pairwise fun a b => a.n < b.n) {l : List Int} {i : Nat} {c : Cl} (hc : cs[i]? = some c) : (inOf cs l).set i true = inOf cs (l ++ [(c.n : Int)]) := by
  apply List.ext_getElem?
  intro j
  rw [List.getElem?_set]
  unfold inOf
  rw [List.length_map, List.getElem?_map, List.getElem?_map]
  obtain ⟨h1, h2⟩ := List.getElem?_eq_some_iff.1 hc
  by_cases hij : i = j
  · subst hij
    subst h2
    simp [h1]
  · rw [if_neg hij]
    cases hj : cs[j]? with
    | none => rfl
    | some d =>
      have hne : ¬ (d.n : Int) = c.n := fun e => by
        rcases Nat.lt_or_ge i j with h | h
        · have := asc_lt hasc hc hj h; omega
        · have := asc_lt hasc hj hc (by omega); omega
      simp [hne]
theorem nb_next {cs : List Cl} {l : List Int} {i k : Nat} (h : ∀ b, b < k → ¬ BusyAt cs l i b) (hk : ¬ BusyAt cs l i k) : ∀ b, b < k + 1 → ¬ BusyAt cs l i b := fun b hb => by
  rcases Nat.lt_or_ge b k with h5 | h5
  · exact h b h5
  · obtain rfl : b = k := by omega
    exact hk
theorem nb_1 {cs : List Cl} {l : List Int} {i k : Nat} {c : Cl} (hc : cs[i]? = some c) (h : false = l.contains (c.n : Int)) : ¬ BusyAt cs l i k := by
  rintro ⟨c', d', hc', hd', e1, e2, e3⟩
  cases Option.some.inj (hc'.symm.trans hc)
  rw [← h] at e1; cases e1
theorem nb_2 {cs : List Cl} {l : List Int} {i k : Nat} {d : Cl} (hd : cs[k]? = some d) (h : true = l.contains (d.n : Int)) : ¬ BusyAt cs l i k := by
  rintro ⟨c', d', hc', hd', e1, e2, e3⟩
  cases Option.some.inj (hd'.symm.trans hd)
  rw [← h] at e2; cases e2
theorem nb_3 {cs : List Cl} {l : List Int} {i k : Nat} {c d : Cl} (hc : cs[i]? = some c) (hd : cs[k]? = some d) (h : meetB c.p d.p = false) : ¬ BusyAt cs l i k := by
  rintro ⟨c', d', hc', hd', e1, e2, e3⟩
  cases Option.some.inj (hc'.symm.trans hc)
  cases Option.some.inj (hd'.symm.trans hd)
  rw [h] at e3; cases e3
theorem nb_row {cs : List Cl} {l : List Int} {i : Nat} (h : ∀ a b, b < a → a < i → ¬ BusyAt cs l a b) (hk : ∀ b, b < i → ¬ BusyAt cs l i b) : ∀ a b, b < a → a < i + 1 → ¬ BusyAt cs l a b := fun a b h1 h2 => by
  rcases Nat.lt_or_ge a i with h5 | h5
  · exact h a b h1 h5
  · obtain rfl : a = i := by omega
    exact hk b h1
def ChosenPost (cs : List Cl) (l : List Int) (w : World) (L : List HP) (e : Ending) (w' : World) : Prop :=
  (OutOf cs l ∧ Ret w (.tuple #[.slice none 0 0, .int .i64 2]) L e w') ∨ (¬ OutOf cs l ∧ Busy cs l ∧ Ret w (.tuple #[.slice none 0 0, .int .i64 12]) L e w') ∨
  (¬ OutOf cs l ∧ ¬ Busy cs l ∧ RetX w (fun g => .tuple #[.slice (some ⟨g, 0, none⟩) cs.length cs.length, .int .i64 0]) (fun g => pts g (.cells (bls (inOf cs l)).toArray 4) :: L) e w')
set_option maxHeartbeats 3200000 in
theorem chosen_c (w : World) (L : List HP) (p : Nat) (v : Value) (cs : List Cl) (byt : List UInt8) (next : Nat) (sv : Value) (l : List Int) (hO : Own w L) (hr : ∀ w', Own w' L → StkAt w' p v cs byt next) (hk : CsOk cs byt) (hs : ∀ w', Own w' L → Rd w' 1 sv l.length (ints l)) (hl : ∀ x ∈ l, i64 x) :
    Calls Try.prog 65 #[.pointer (some ⟨p, 0, none⟩), sv] w (ChosenPost cs l w L) := by
  have HR := Lib.hid hr
  have HK := Lib.hid hk
  have HS := Lib.hid hs
  have HL := Lib.hid hl
  obtain ⟨A, cap, rfl⟩ := (hr w hO).rd.slice
  have hm := (hr w hO).rd.max
  obtain ⟨B, bcap, rfl⟩ := (hs w hO).slice
  have hmb := (hs w hO).max
  have hlen := hk.len
  clear hr hk hs hl
  go_enter Try.func65, Try.ntmps65
  go_wp2_with (first | (refine own_load1 (b := p) (cs := srow byt _ next) (t := 104) (off := 32) (v := .slice A cs.length cap) rfl rfl rfl row_cells (HR.out _ hO).blk (srow_v _ _ _ HK.out.byt) ?_) | (at_make; go_loud (refine own_make (n := cs.length) (cs := (bls (List.replicate cs.length false)).toArray) rfl rfl rfl rfl Try.underlying110 info_bool (by omega) (by omega) (by rw [Nat.mul_one]; exact made_bools cs.length) hO ?_; clear hO; intro g w3 hO hS3)))
  go_loopw [4, 23] (fun s4 i' wr => s4 = .slice (some ⟨g, 0, none⟩) cs.length cs.length ∧ ∃ k : Nat, k ≤ l.length ∧ i' = .int .i64 k ∧ (∀ x ∈ l.take k, ∃ c ∈ cs, (c.n : Int) = x) ∧ Own wr (pts g (.cells (bls (inOf cs (l.take k))).toArray 4) :: L) ∧ Same w wr) (fun _ i' _ => l.length - (intOf i').toNat)
  case atStart => exact ⟨rfl, 0, Nat.zero_le _, rfl, by simp, by rw [List.take_zero, in_nil]; exact hO, hS3⟩
  case round =>
    clear hO hS3
    obtain ⟨rfl, k, hk, rfl, hon, hO, hS⟩ := hrel
    have HON := Lib.hid hon
    clear hon
    by_cases hlt : k < l.length
    · obtain ⟨x, hx⟩ : ∃ x, l[k]? = some x := ⟨_, List.getElem?_eq_getElem hlt⟩
      have HX := Lib.hid hx
      have HXI : Hid (i64 x) := HL.out x (List.mem_of_getElem? hx)
      obtain ⟨ad, rfl⟩ := (HS.out _ (own_drop hO)).addr (by unfold ints; rw [List.length_map]; omega)
      have hcell : wr.cell? (ad.add k) = some (.int .i64 x) := by
        have h1 : wr.cell? ((ad.add (k * 1)).add 0) = some (.int .i64 x) := (HS.out _ (own_drop hO)).cell (by rw [Nat.mul_one, Nat.add_zero]; unfold ints; rw [List.getElem?_map, hx]; rfl)
        rwa [addr_add, Nat.mul_one, Nat.add_zero] at h1
      have hm1 : (k : Int) < l.length := by omega
      clear hx
      by_cases hin : ∃ (i : Nat) (c : Cl), cs[i]? = some c ∧ (c.n : Int) = x
      · obtain ⟨i, c, hc, hcx⟩ := hin
        subst hcx
        have HC := Lib.hid hc
        have hil : i < cs.length := (List.getElem?_eq_some_iff.1 hc).1
        have hi1 : (i : Int) < cs.length := by omega
        have HT : Hid (l.take (k + 1) = l.take k ++ [(c.n : Int)]) := by
          show _ = _
          rw [List.take_succ_eq_append_getElem hlt]
          congr 2
          have := HX.out
          simpa [List.getElem?_eq_getElem hlt] using this
        clear hc
        go_wp2_with (first | (go_at_call 88; refine (place_v _ _ p _ cs byt next _ i c hO (fun w' h => HR.out w' (own_drop h)) HK.out HXI.out HC.out rfl).mono ?_; clear hO hcell; rintro e w5 ⟨rfl, hO, hS5⟩) | (refine own_store1 (k := 0) (b := g) (off := i) (cs := (bls (inOf cs (l.take k))).toArray) (cs' := (bls (inOf cs (l.take (k + 1)))).toArray) rfl rfl rfl rfl sz_bool hO rfl rfl ?_ ?_ ?_; (simp only [List.size_toArray, bls, inOf, List.length_map]; exact hil); (rw [HT.out, ← in_next HK.out.asc HC.out]; exact bls_set _ _ _); clear hO; intro w6 hO hS6; simp only [List.set_cons_zero] at hO))
        go_roundw
        case rel => exact ⟨rfl, k + 1, by omega, by go_num, fun x hx => by
          rw [HT.out, List.mem_append, List.mem_singleton] at hx
          rcases hx with hx | rfl
          · exact HON.out x hx
          · exact ⟨c, List.mem_of_getElem? HC.out, rfl⟩, hO, hS.trans (hS5.trans hS6)⟩
        case measure => simp [intOf]; omega
      · have HNO : Hid (∀ c ∈ cs, (c.n : Int) ≠ x) := fun c hc he => by
          obtain ⟨i, hi, e⟩ := List.mem_iff_getElem.1 hc
          exact hin ⟨i, c, by rw [List.getElem?_eq_getElem hi, e], he⟩
        clear hin
        cases hneg : decide (x < 0) with
        | true =>
          go_wp2_with (first | (go_at_call 88; refine (place_n _ _ p _ cs byt next x hO (fun w' h => HR.out w' (own_drop h)) HK.out HXI.out HNO.out).mono ?_; clear hO hcell; rintro e w5 ⟨rfl, hO, hS5⟩))
          go_ret2
          exact .inl ⟨⟨x, List.mem_of_getElem? HX.out, HNO.out⟩, rfl, own_drop hO, hS.trans hS5⟩
        | false =>
          go_wp2_with (first | (go_at_call 88; refine (place_n _ _ p _ cs byt next x hO (fun w' h => HR.out w' (own_drop h)) HK.out HXI.out HNO.out).mono ?_; clear hO hcell; rintro e w5 ⟨rfl, hO, hS5⟩))
          go_ret2
          exact .inl ⟨⟨x, List.mem_of_getElem? HX.out, HNO.out⟩, rfl, own_drop hO, hS.trans hS5⟩
    · have hke : k = l.length := by omega
      subst hke
      rw [List.take_length] at hO HON
      have HIN : Hid (¬ OutOf cs l) := fun ⟨x, hx, hno⟩ => by
        obtain ⟨c, hc, e⟩ := HON.out x hx
        exact hno c hc e
      clear HON
      go_wp2_with (first | (refine own_load1 (b := p) (cs := srow byt _ next) (t := 104) (off := 32) (v := .slice A cs.length cap) rfl rfl rfl row_cells (HR.out _ (own_drop hO)).blk (srow_v _ _ _ HK.out.byt) ?_))
      go_loopw [4, 45] (fun s4 i' wr => s4 = .slice (some ⟨g, 0, none⟩) cs.length cs.length ∧ ∃ i : Nat, i ≤ cs.length ∧ i' = .int .i64 i ∧ (∀ a b, b < a → a < i → ¬ BusyAt cs l a b) ∧ Own wr (pts g (.cells (bls (inOf cs l)).toArray 4) :: L) ∧ Same w wr) (fun _ i' _ => cs.length - (intOf i').toNat)
      case atStart => exact ⟨rfl, 0, Nat.zero_le _, rfl, fun a b h1 h2 => by omega, hO, hS⟩
      case round =>
        clear hO hS
        obtain ⟨rfl, i, hi, rfl, hnb, hO, hS⟩ := hrel
        have HNB := Lib.hid hnb
        clear hnb
        by_cases hlt2 : i < cs.length
        · obtain ⟨c, hc⟩ : ∃ c, cs[i]? = some c := ⟨_, List.getElem?_eq_getElem hlt2⟩
          have HC := Lib.hid hc
          obtain ⟨ad, rfl⟩ := (HR.out _ (own_drop hO)).rd.addr (by rw [List.length_map]; omega)
          have hcell := ptr_cell (HR.out _ (own_drop hO)).rd hc
          have hi1 : (i : Int) < cs.length := by omega
          have hicap : i ≤ cap := by omega
          obtain ⟨B1, hB1⟩ : ∃ B1, B1 = l.contains (c.n : Int) := ⟨_, rfl⟩
          have HE1 : Hid (B1 = l.contains (c.n : Int)) := hB1
          have HB1 : Hid ((bls (inOf cs l)).toArray[i]? = some (.bool B1)) := by
            show _ = _
            rw [hB1]
            simp only [bls, inOf, List.getElem?_toArray, List.getElem?_map, hc]
            rfl
          clear hc hB1
          go_wp2_with (first | (refine own_load1 (b := p) (cs := srow byt _ next) (t := 104) (off := 32) (v := .slice (some ad) cs.length cap) rfl rfl rfl row_cells (HR.out _ (own_drop hO)).blk (srow_v _ _ _ HK.out.byt) ?_))
          go_loopw [4, 57] (fun s4 k' wr => s4 = .slice (some ⟨g, 0, none⟩) cs.length cs.length ∧ ∃ k : Nat, k ≤ i ∧ k' = .int .i64 k ∧ (∀ b, b < k → ¬ BusyAt cs l i b) ∧ Own wr (pts g (.cells (bls (inOf cs l)).toArray 4) :: L) ∧ Same w wr) (fun _ k' _ => i - (intOf k').toNat)
          case atStart => exact ⟨rfl, 0, Nat.zero_le _, rfl, fun b h1 => by omega, hO, hS⟩
          case round =>
            clear hO hS hcell
            obtain ⟨rfl, k, hk, rfl, hnb2, hO, hS⟩ := hrel
            have HNB2 := Lib.hid hnb2
            clear hnb2
            by_cases hlt3 : k < i
            · obtain ⟨d, hd⟩ : ∃ d, cs[k]? = some d := ⟨_, List.getElem?_eq_getElem (by omega)⟩
              have HD := Lib.hid hd
              have hcell := ptr_cell (HR.out _ (own_drop hO)).rd hd
              have hk1 : (k : Int) < i := by omega
              have hk2 : (k : Int) < cs.length := by omega
              obtain ⟨B2, hB2⟩ : ∃ B2, B2 = l.contains (d.n : Int) := ⟨_, rfl⟩
              have HE2 : Hid (B2 = l.contains (d.n : Int)) := hB2
              have HB2 : Hid ((bls (inOf cs l)).toArray[k]? = some (.bool B2)) := by
                show _ = _
                rw [hB2]
                simp only [bls, inOf, List.getElem?_toArray, List.getElem?_map, hd]
                rfl
              obtain ⟨B3, hmt0⟩ : ∃ B3, meetB c.p d.p = B3 := ⟨_, rfl⟩
              have HMT := Lib.hid hmt0
              clear hd hB2 hmt0
              cases B1 with
              | false =>
                go_wp2_with (first | (refine own_load1 (b := g) (off := i) (cs := (bls (inOf cs l)).toArray) (t := 4) (v := .bool false) rfl rfl rfl row_b (own_get 0 hO rfl) HB1.out ?_))
                go_roundw
                case rel => exact ⟨rfl, k + 1, by omega, by go_num, nb_next HNB2.out (nb_1 HC.out HE1.out), hO, hS⟩
                case measure => simp [intOf]; omega
              | true =>
                cases B2 with
                | true =>
                  go_wp2_with (first | (refine own_load1 (b := g) (off := i) (cs := (bls (inOf cs l)).toArray) (t := 4) (v := .bool true) rfl rfl rfl row_b (own_get 0 hO rfl) HB1.out ?_) | (refine own_load1 (b := g) (off := k) (cs := (bls (inOf cs l)).toArray) (t := 4) (v := .bool true) rfl rfl rfl row_b (own_get 0 hO rfl) HB2.out ?_))
                  go_roundw
                  case rel => exact ⟨rfl, k + 1, by omega, by go_num, nb_next HNB2.out (nb_2 HD.out HE2.out), hO, hS⟩
                  case measure => simp [intOf]; omega
                | false =>
                  cases B3 with
                  | true =>
                    have hmt := HMT.out
                    have HMT2 := Lib.hid hmt
                    clear hmt
                    go_wp2_with (first | (refine own_load1 (b := g) (off := i) (cs := (bls (inOf cs l)).toArray) (t := 4) (v := .bool true) rfl rfl rfl row_b (own_get 0 hO rfl) HB1.out ?_) | (refine own_load1 (b := g) (off := k) (cs := (bls (inOf cs l)).toArray) (t := 4) (v := .bool false) rfl rfl rfl row_b (own_get 0 hO rfl) HB2.out ?_) | (go_at_call 89; refine (meets_v _ _ c d true HMT2.out hO (fun w' h => (HR.out w' (own_drop h)).cell _ _ HC.out) (HK.out.right _ (List.mem_of_getElem? HC.out)) (fun w' h => (HR.out w' (own_drop h)).cell _ _ HD.out) (HK.out.right _ (List.mem_of_getElem? HD.out))).mono ?_; clear hO hcell; rintro e w6 ⟨rfl, hO, hS6⟩))
                    go_ret2
                    exact .inr (.inl ⟨HIN.out, ⟨i, k, hlt3, c, d, HC.out, HD.out, HE1.out.symm, HE2.out.symm, HMT.out⟩, rfl, own_drop hO, hS.trans hS6⟩)
                  | false =>
                    go_wp2_with (first | (refine own_load1 (b := g) (off := i) (cs := (bls (inOf cs l)).toArray) (t := 4) (v := .bool true) rfl rfl rfl row_b (own_get 0 hO rfl) HB1.out ?_) | (refine own_load1 (b := g) (off := k) (cs := (bls (inOf cs l)).toArray) (t := 4) (v := .bool false) rfl rfl rfl row_b (own_get 0 hO rfl) HB2.out ?_) | (go_at_call 89; refine (meets_v _ _ c d false HMT.out hO (fun w' h => (HR.out w' (own_drop h)).cell _ _ HC.out) (HK.out.right _ (List.mem_of_getElem? HC.out)) (fun w' h => (HR.out w' (own_drop h)).cell _ _ HD.out) (HK.out.right _ (List.mem_of_getElem? HD.out))).mono ?_; clear hO hcell; rintro e w6 ⟨rfl, hO, hS6⟩))
                    go_roundw
                    case rel => exact ⟨rfl, k + 1, by omega, by go_num, nb_next HNB2.out (nb_3 HC.out HD.out HMT.out), hO, hS.trans hS6⟩
                    case measure => simp [intOf]; omega
            · have hke2 : k = i := by omega
              subst hke2
              go_wp2
              go_roundw
              case rel => exact ⟨rfl, k + 1, by omega, by go_num, nb_row HNB.out HNB2.out, hO, hS⟩
              case measure => simp [intOf]; omega
        · have hie : i = cs.length := by omega
          have HNBUSY : Hid (¬ Busy cs l) := fun ⟨a, b, hab, hb⟩ => by
            obtain ⟨c, d, hc, hd, r⟩ := hb
            have := (List.getElem?_eq_some_iff.1 hc).1
            exact HNB.out a b hab (by omega) ⟨c, d, hc, hd, r⟩
          subst hie
          go_wp2
          go_ret2
          exact .inr (.inr ⟨HIN.out, HNBUSY.out, g, rfl, hO, hS⟩)
end Go.Proofs.Ytonohjhmnlfakaa.H
set_option linter.unusedVariables false
set_option linter.unusedSimpArgs false
set_option maxRecDepth 100000
namespace Go.Proofs.Ytonohjhmnlfakaa.H
open Go.RowKit
theorem row_blk : isRowB Try.prog 46 = some true := by kernel_rfl
theorem sz_blk : (Try.prog.info? 46).map (·.size) = some 32 := by kernel_rfl
theorem row_bls : isRowB Try.prog 110 = some false := by kernel_rfl
theorem sz_bls : (Try.prog.info? 110).map (·.size) = some 1 := by kernel_rfl
theorem zero_bls : (Try.prog.info? 110).map (·.zero) = some (some (.slice none 0 0)) := by kernel_rfl
theorem zero_bys : (Try.prog.info? 22).map (·.zero) = some (some (.slice none 0 0)) := by kernel_rfl
/-- The patches of those that are among some. -/
def selP (cs : List Cl) (l : List Int) : List Pat := (cs.filter fun c => l.contains (c.n : Int)).map Cl.p
theorem sel_yes {cs : List Cl} {l : List Int} {k : Nat} {c : Cl} (hc : cs[k]? = some c) (h : l.contains (c.n : Int) = true) : selP (cs.take (k + 1)) l = selP (cs.take k) l ++ [c.p] := by
  obtain ⟨h1, h2⟩ := List.getElem?_eq_some_iff.1 hc
  unfold selP
  rw [List.take_succ_eq_append_getElem h1, h2, List.filter_append, List.map_append]
  simp only [List.filter_cons, h, if_true, List.filter_nil]
  rfl
theorem sel_no {cs : List Cl} {l : List Int} {k : Nat} {c : Cl} (hc : cs[k]? = some c) (h : l.contains (c.n : Int) = false) : selP (cs.take (k + 1)) l = selP (cs.take k) l := by
  obtain ⟨h1, h2⟩ := List.getElem?_eq_some_iff.1 hc
  unfold selP
  rw [List.take_succ_eq_append_getElem h1, h2, List.filter_append, List.map_append]
  simp only [List.filter_cons, h, List.filter_nil, Bool.false_eq_true, if_false, List.map_nil, List.append_nil]
theorem sel_right {cs : List Cl} (hr : ∀ c ∈ cs, rightB c.p = true) (l : List Int) : ∀ p ∈ selP cs l, rightB p = true := by
  intro p hp
  obtain ⟨c, hc, rfl⟩ := List.mem_map.1 hp
  exact hr c (List.mem_filter.1 hc).1
theorem srow_row {byt : List UInt8} {v : Value} {next : Nat} (hb : byt.length = 32) : ((srow byt v next).toList.drop 0).take 32 = bcs byt := by
  simp only [srow, List.drop_zero]
  rw [List.take_append_of_le_length (by rw [bcs_length]; omega), List.take_of_length_le (by rw [bcs_length]; omega)]
theorem own_four {w : World} {A B C D : HP} {S R : List HP} : Own w (S ++ (A :: B :: C :: D :: R)) ↔ Own w (A :: B :: C :: D :: (S ++ R)) :=
  ⟨fun h => own_perm h (List.perm_append_comm_assoc S [A, B, C, D] R), fun h => own_perm h (List.perm_append_comm_assoc S [A, B, C, D] R).symm⟩
set_option maxHeartbeats 3200000 in
theorem roll1_c (w : World) (R : List HP) (p bs bin bout g : Nat) (v : Value) (cs : List Cl) (byt : List UInt8) (next : Nat) (l : List Int) (ov : Value) (hO : Own w (stkL p v cs byt next ++ (pts bin (.cells #[.slice (some ⟨g, 0, none⟩) cs.length cs.length] 110) :: pts g (.cells (bls (inOf cs l)).toArray 4) :: pts bout (.cells #[ov] 22) :: pts bs (.cells #[.pointer (some ⟨p, 0, none⟩)] 52) :: R))) (hb : byt.length = 32) (hr : ∀ c ∈ cs, rightB c.p = true) (hlen : cs.length ≤ 200) :
    Calls Try.prog 67 #[.pointer (some ⟨bs, 0, none⟩), .pointer (some ⟨bin, 0, none⟩), .pointer (some ⟨bout, 0, none⟩)] w
      (RetX w (fun _ => .tuple #[]) (fun gb => stkL p v cs byt next ++ (pts bin (.cells #[.slice (some ⟨g, 0, none⟩) cs.length cs.length] 110) :: pts g (.cells (bls (inOf cs l)).toArray 4) :: pts bout (.cells #[.slice (some ⟨gb, 0, none⟩) 32 32] 22) :: pts bs (.cells #[.pointer (some ⟨p, 0, none⟩)] 52) :: pts gb (.cells (bcs (appAll byt (selP cs l))).toArray 46) :: R))) := by
  obtain ⟨A, cap, rfl⟩ := (stkAt_of hO).rd.slice
  have hmx := (stkAt_of hO).rd.max
  have HB : Hid (byt.length = 32) := hb
  have HR := Lib.hid hr
  have hO := own_four.1 hO
  clear hb hr
  go_enter Try.func67, Try.ntmps67
  go_wp2_with (first | (refine own_load1 (b := bs) (off := 0) (cs := #[.pointer (some ⟨p, 0, none⟩)]) (t := 52) (v := .pointer (some ⟨p, 0, none⟩)) rfl rfl rfl row_sptr (own_get 3 hO rfl) rfl ?_) | (refine own_load1 (b := bs) (off := 0) (cs := #[.pointer (some ⟨p, 0, none⟩)]) (t := 52) (v := .pointer (some ⟨p, 0, none⟩)) rfl rfl rfl row_sptr (own_get 4 hO rfl) rfl ?_) | (refine own_load1 (b := p) (off := 32) (cs := srow byt (.slice A cs.length cap) next) (t := 104) (v := .slice A cs.length cap) rfl rfl rfl row_cells (own_get 5 hO rfl) (srow_v _ _ _ HB.out) ?_) | (refine own_loadrow (b := p) (off := 0) (cs := srow byt (.slice A cs.length cap) next) (t := 104) (vs := bcs byt) rfl rfl rfl row_blk sz_blk (own_get 4 hO rfl) (by rw [srow_size _ _ _ HB.out]; omega) (srow_row HB.out) ?_) | (refine own_alloc rfl rfl zero_blk rfl hO ?_; clear hO; intro gb w3 hO hS3) | (refine own_store_all (k := 0) (cs := (bcs (List.replicate 32 0)).toArray) (vs := (bcs byt).toArray) rfl rfl rfl rfl sz_blk hO rfl (by simp [bcs_length, HB.out]) (by simp [bcs_length]) (by simpa using bcs_one byt) ?_; clear hO; intro w4 hO hS4; simp only [List.set_cons_zero] at hO))
  go_loopw [15] (fun i' wr => ∃ k : Nat, k ≤ cs.length ∧ i' = .int .i64 k ∧ Own wr (pts gb (.cells (bcs (appAll byt (selP (cs.take k) l))).toArray 46) :: pts bin (.cells #[.slice (some ⟨g, 0, none⟩) cs.length cs.length] 110) :: pts g (.cells (bls (inOf cs l)).toArray 4) :: pts bout (.cells #[ov] 22) :: pts bs (.cells #[.pointer (some ⟨p, 0, none⟩)] 52) :: (stkL p (.slice A cs.length cap) cs byt next ++ R)) ∧ Same w wr) (fun i' _ => cs.length - (intOf i').toNat)
  case atStart => exact ⟨0, Nat.zero_le _, rfl, hO, hS3.trans hS4⟩
  case round =>
    clear hO hS3 hS4
    obtain ⟨k, hk, rfl, hO, hS⟩ := hrel
    by_cases hlt : k < cs.length
    · obtain ⟨c, hc⟩ : ∃ c, cs[k]? = some c := ⟨_, List.getElem?_eq_getElem hlt⟩
      have HC := Lib.hid hc
      have hst := stkAt_of (own_drop (own_drop (own_drop (own_drop (own_drop hO)))))
      obtain ⟨ad, rfl⟩ := hst.rd.addr (by rw [List.length_map]; omega)
      have hcell := ptr_cell hst.rd hc
      have hk1 : (k : Int) < cs.length := by omega
      obtain ⟨B1, hB1⟩ : ∃ B1, l.contains (c.n : Int) = B1 := ⟨_, rfl⟩
      have HE1 := Lib.hid hB1
      have HB1 : Hid ((bls (inOf cs l)).toArray[k]? = some (.bool B1)) := by
        show _ = _
        rw [← hB1]
        simp only [bls, inOf, List.getElem?_toArray, List.getElem?_map, hc]
        rfl
      have HCR : Hid (∀ w' S, Own w' (stkL p (.slice (some ad) cs.length cap) cs byt next ++ S) → w'.heap[c.a]? = some (.cells c.row 107)) := fun w' S h => (stkAt_of h).cell _ _ HC.out
      obtain ⟨p1, p2, p3, p4, p5, p6⟩ := rightB_iff.1 (HR.out c (List.mem_of_getElem? hc))
      obtain ⟨o, ho⟩ : ∃ o, o = c.p.off := ⟨_, rfl⟩
      have l0 : 0 ≤ o := by omega
      have l1 : o ≤ 32 := by omega
      have l3 : Hid (¬ (32 = o.toNat)) := by show ¬ _; omega
      have HR1 : Hid (c.row[1]? = some (.int .i64 o)) := by show _ = _; rw [ho]; rfl
      have HO : Hid (c.p.off.toNat = o.toNat ∧ o.toNat + c.p.dat.size ≤ 32 ∧ c.p.dat.size ≤ 32 - o.toNat) := by show _ ∧ _; rw [← ho]; omega
      have HLN : Hid ((appAll byt (selP (cs.take k) l)).length = 32) := appAll_length _ _ HB.out (sel_right (fun c hc => HR.out c (List.mem_of_mem_take hc)) l)
      clear hc hst hB1 p1 p2 p3 p4 p5 p6 ho
      cases B1 with
      | false =>
        go_wp2_with (first | (refine own_load1 (b := bin) (off := 0) (cs := #[.slice (some ⟨g, 0, none⟩) cs.length cs.length]) (t := 110) (v := .slice (some ⟨g, 0, none⟩) cs.length cs.length) rfl rfl rfl row_bls (own_get 1 hO rfl) rfl ?_) | (refine own_load1 (b := g) (off := k) (cs := (bls (inOf cs l)).toArray) (t := 4) (v := .bool false) rfl rfl rfl row_b (own_get 2 hO rfl) HB1.out ?_))
        go_roundw
        case rel => exact ⟨k + 1, by omega, by go_num, by rw [sel_no HC.out HE1.out]; exact hO, hS⟩
        case measure => simp [intOf]; omega
      | true =>
        go_wp2_with (first | (refine own_load1 (b := bin) (off := 0) (cs := #[.slice (some ⟨g, 0, none⟩) cs.length cs.length]) (t := 110) (v := .slice (some ⟨g, 0, none⟩) cs.length cs.length) rfl rfl rfl row_bls (own_get 1 hO rfl) rfl ?_) | (refine own_load1 (b := g) (off := k) (cs := (bls (inOf cs l)).toArray) (t := 4) (v := .bool true) rfl rfl rfl row_b (own_get 2 hO rfl) HB1.out ?_))
        have l4 := l3.out
        refine wp_region_seq (Cls wr (pts gb (.cells (bcs (appAll byt (selP (cs.take k) l))).toArray 46) :: pts bin (.cells #[.slice (some ⟨g, 0, none⟩) cs.length cs.length] 110) :: pts g (.cells (bls (inOf cs l)).toArray 4) :: pts bout (.cells #[ov] 22) :: pts bs (.cells #[.pointer (some ⟨p, 0, none⟩)] 52) :: (stkL p (.slice (some ad) cs.length cap) cs byt next ++ R))) 11 38 mixed (by kernel_rfl) rfl (cls_drew hO) ?_
        simp only [List.append_eq, List.cons_append, List.nil_append, List.take_succ_cons, List.take_zero]
        repeat (first
          | (apply wv_skip rfl; simp only [Act.put, List.setIfInBounds_toArray, List.set_cons_zero, List.set_cons_succ])
          | (refine wv_load1 (b := c.a) (cs := c.row) (t := 107) (v := .int .i64 o) rfl rfl rfl row_int (fun w h => HCR.out _ _ (own_drop (own_drop (own_drop (own_drop (own_drop h.1)))))) HR1.out ?_; simp only [Act.put, List.setIfInBounds_toArray, List.set_cons_zero, List.set_cons_succ])
          | (refine wv_load1 (b := c.a) (cs := c.row) (t := 107) (v := .string c.p.dat) rfl rfl rfl row_str (fun w h => HCR.out _ _ (own_drop (own_drop (own_drop (own_drop (own_drop h.1)))))) rfl ?_; simp only [Act.put, List.setIfInBounds_toArray, List.set_cons_zero, List.set_cons_succ])
          | (apply wv_load1 rfl rfl rfl; (first | exact row_int | exact row_str | exact row_bool | exact row_u8 | exact row_bys | exact row_pats | exact row_err); (intro w h; (first | exact own_get 0 h.1 rfl | exact own_get 1 h.1 rfl | exact own_get 2 h.1 rfl | exact own_get 3 h.1 rfl | exact own_get 4 h.1 rfl | exact own_get 5 h.1 rfl | exact own_get 6 h.1 rfl | exact own_get 7 h.1 rfl)); (first | (simp only [List.getElem?_toArray, List.getElem?_cons_succ, List.getElem?_cons_zero]; rfl) | rfl); simp only [Act.put, List.setIfInBounds_toArray, List.set_cons_zero, List.set_cons_succ])
          | (apply wv_loadrow rfl rfl rfl; (first | exact row_pat); exact sz_pat; (intro w h; (first | exact own_get 0 h.1 rfl | exact own_get 1 h.1 rfl | exact own_get 2 h.1 rfl | exact own_get 3 h.1 rfl | exact own_get 4 h.1 rfl | exact own_get 5 h.1 rfl | exact own_get 6 h.1 rfl | exact own_get 7 h.1 rfl)); (focus (simp; done)); (first | (simp only [List.drop_zero, List.drop_succ_cons, List.take_succ_cons, List.take_zero]; rfl) | rfl); simp only [Act.put, List.setIfInBounds_toArray, List.set_cons_zero, List.set_cons_succ])
          | (apply wv_run rfl; (focus (intro w h; go_simp; first | done | rfl)); simp only [Act.put, List.setIfInBounds_toArray, List.set_cons_zero, List.set_cons_succ])
          | (apply wv_call rfl; (focus (intro w; go_simp; first | done | exact ⟨rfl, rfl⟩)); (focus (intro w h; apply cls_call h; fail)); simp only [Act.put, List.setIfInBounds_toArray, List.set_cons_zero, List.set_cons_succ]))
        refine wv_nil ?_
        simp only [List.drop_succ_cons, List.drop_zero]
        intro w5 ⟨hO5, hS5⟩
        clear hO l4 hcell
        refine own_copy_str (new := bcs (over (appAll byt (selP (cs.take k) l)) o.toNat c.p.dat.data.toList)) (k := 0) (g := gb) (off := o.toNat) (cur := (bcs (appAll byt (selP (cs.take k) l))).toArray) (t := 46) rfl rfl rfl rfl Try.underlying22 sz_u8 hO5 rfl HO.out.2.2 ?_ (bcs_over _ _ _ (by rw [Array.length_toList]; rfl)) ?_
        · rw [List.size_toArray, bcs_length, HLN.out]; have := HO.out; omega
        intro w6 hO hS6
        clear hO5
        simp only [List.set_cons_zero] at hO
        go_wp2
        go_roundw
        case rel => exact ⟨k + 1, by omega, by go_num, by
          rw [sel_yes HC.out HE1.out, appAll_snoc]
          have e : app (appAll byt (selP (cs.take k) l)) c.p = over (appAll byt (selP (cs.take k) l)) o.toNat c.p.dat.data.toList := by rw [← HO.out.1]; rfl
          rw [e]
          exact hO, hS.trans (hS5.trans hS6)⟩
        case measure => simp [intOf]; omega
    · have hke : k = cs.length := by omega
      subst hke
      rw [List.take_length] at hO
      go_wp2_with (refine own_store1 (k := 3) (b := bout) (off := 0) (cs := #[ov]) (cs' := #[.slice (some ⟨gb, 0, none⟩) 32 32]) rfl rfl rfl rfl sz_bys hO rfl rfl (by simp) rfl ?_; clear hO; intro w6 hO hS6; simp only [List.set_cons_zero, List.set_cons_succ] at hO)
      refine bodyPost_ret (results_none rfl _ _ _) rfl ⟨gb, rfl, ?_, hS.trans hS6⟩
      have hp := (List.perm_append_comm_assoc [pts gb (.cells (bcs (appAll byt (selP cs l))).toArray 46), pts bin (.cells #[.slice (some ⟨g, 0, none⟩) cs.length cs.length] 110), pts g (.cells (bls (inOf cs l)).toArray 4), pts bout (.cells #[.slice (some ⟨gb, 0, none⟩) 32 32] 22), pts bs (.cells #[.pointer (some ⟨p, 0, none⟩)] 52)] (stkL p (.slice A cs.length cap) cs byt next) R).trans ((List.perm_middle (l₁ := [pts bin (.cells #[.slice (some ⟨g, 0, none⟩) cs.length cs.length] 110), pts g (.cells (bls (inOf cs l)).toArray 4), pts bout (.cells #[.slice (some ⟨gb, 0, none⟩) 32 32] 22), pts bs (.cells #[.pointer (some ⟨p, 0, none⟩)] 52)]) (l₂ := R)).symm.append_left _)
      exact own_perm hO hp
end Go.Proofs.Ytonohjhmnlfakaa.H
set_option linter.unusedVariables false
set_option linter.unusedSimpArgs false
set_option maxRecDepth 100000
namespace Go.Proofs.Ytonohjhmnlfakaa.H
open Go.RowKit
theorem results_cell1_tmp {P : Program} {fn : Func} {p u : Tmp} {T : TypeId} (h : fn.results = #[.cell p T, .tmp u]) {tmps : Array Value} {w : World} {g : Nat} {t : TypeId} {cs : Array Value} {fr : Nat × Nat} {v : Value} (hp : tmps.getD p undef = .pointer (some ⟨g, 0, none⟩)) (hg : w.heap[g]? = some (.cells cs t fr))
    (hT : isRowB P T = some false) (hv : cs[0]? = some v) : (results fn tmps).run P w = .ok (.tuple #[v, tmps.getD u undef]) w := by
  have hp' : tmps[p]?.getD undef = .pointer (some ⟨g, 0, none⟩) := by simpa using hp
  obtain ⟨d, hd, hr⟩ := underlying_row hT
  have hc : w.cell? ⟨g, 0, none⟩ = some v := by rw [cell_of_row w g 0 cs t fr hg, hv]
  have hagg : (isAgg T).run P w = .ok false w := by
    unfold isAgg
    rw [Sem.run_bind, run_underlying hd w]
    cases d <;> simp_all
  have hl : (loadVar T ⟨g, 0, none⟩).run P w = .ok v w := by
    simp [loadVar, Sem.run_bind, hagg, load]
    simp only [Sem.run, hc]
  simp [results, h, hp', asAddr, hl]
/-- Some that are not on. -/
def OutL (l : List On) (s : List Int) : Prop := ∃ x ∈ s, ∀ o ∈ l, (o.n : Int) ≠ x
/-- One is among some, and needs one that is not. -/
def BusyL (l : List On) (s : List Int) : Prop := ∃ i k : Nat, k < i ∧ ∃ c d : On, l[i]? = some c ∧ l[k]? = some d ∧ s.contains (c.n : Int) = true ∧ s.contains (d.n : Int) = false ∧ meetB c.p d.p = true
/-- The patches of those that are among some. -/
def selL (l : List On) (s : List Int) : List Pat := (l.filter fun o => s.contains (o.n : Int)).map On.p
theorem out_iff {cs : List Cl} {l : List On} {s : List Int} (h : cs.map Cl.on = l) : OutOf cs s ↔ OutL l s := by
  subst h
  constructor
  · rintro ⟨x, hx, hn⟩
    refine ⟨x, hx, fun o ho => ?_⟩
    obtain ⟨c, hc, rfl⟩ := List.mem_map.1 ho
    exact hn c hc
  · rintro ⟨x, hx, hn⟩
    exact ⟨x, hx, fun c hc => hn c.on (List.mem_map_of_mem hc)⟩
theorem busy_iff {cs : List Cl} {l : List On} {s : List Int} (h : cs.map Cl.on = l) : Busy cs s ↔ BusyL l s := by
  subst h
  constructor
  · rintro ⟨i, k, hik, c, d, hc, hd, r⟩
    exact ⟨i, k, hik, c.on, d.on, by rw [List.getElem?_map, hc]; rfl, by rw [List.getElem?_map, hd]; rfl, r⟩
  · rintro ⟨i, k, hik, c, d, hc, hd, r⟩
    rw [List.getElem?_map, Option.map_eq_some_iff] at hc hd
    obtain ⟨c', hc', rfl⟩ := hc
    obtain ⟨d', hd', rfl⟩ := hd
    exact ⟨i, k, hik, c', d', hc', hd', r⟩
theorem sel_eq {cs : List Cl} {l : List On} {s : List Int} (h : cs.map Cl.on = l) : selP cs s = selL l s := by
  subst h
  unfold selP selL
  rw [List.filter_map, List.map_map]
  rfl
theorem Reps.csok {m : Stk} {cs : List Cl} (h : Reps m cs) (hm : m.Ok) : CsOk cs m.bytes := by
  have key : ∀ c ∈ cs, c.on ∈ m.l := fun c hc => by rw [← h.on]; exact List.mem_map_of_mem hc
  refine ⟨?_, fun c hc => ?_, ?_, ?_, fun c hc => hm.right _ (key c hc)⟩
  · have := hm.asc
    rw [← h.on, List.pairwise_map] at this
    exact this
  · have := hm.lt _ (key c hc)
    have := hm.lim
    simp only [Cl.on] at *
    omega
  · rw [h.length]; exact hm.len
  · exact appAll_length _ _ hm.base (fun p hp => by
      obtain ⟨o, ho, rfl⟩ := List.mem_map.1 hp
      exact hm.right o ho)
theorem Reps.piled {m : Stk} {cs : List Cl} (h : Reps m cs) (hm : m.Ok) : Piled m.base cs :=
  ⟨hm.base, by rw [h.und, h.pats], (h.csok hm).right, (h.csok hm).len⟩
theorem Reps.bytes {m : Stk} {cs : List Cl} (h : Reps m cs) : m.bytes = appAll m.base (cs.map Cl.p) := by unfold Stk.bytes; rw [h.pats]
theorem relaid_all {byt : List UInt8} {n : Nat} {cs cs' : List Cl} (h : Relaid byt 0 n cs cs') (hn : n = cs.length) : cs'.map Cl.on = cs.map Cl.on ∧ cs'.map Cl.und = unders byt (cs.map Cl.p) := by
  have h1 := h.und
  have hl := h.length
  simp only [List.drop_zero] at h1
  rw [List.take_of_length_le (by omega), List.take_of_length_le (by omega)] at h1
  exact ⟨h.on, h1⟩
theorem pats_of_on {cs cs' : List Cl} (h : cs'.map Cl.on = cs.map Cl.on) : cs'.map Cl.p = cs.map Cl.p := by
  have e : Cl.p = On.p ∘ Cl.on := rfl
  rw [e, ← List.map_map, ← List.map_map, h]
section
variable (w : World) (L : List HP) (p : Nat) (v : Value) (cs : List Cl) (byt : List UInt8) (next : Nat) (sv : Value) (l : List Int)
theorem chosen_out (hO : Own w L) (hr : ∀ w', Own w' L → StkAt w' p v cs byt next) (hk : CsOk cs byt) (hs : ∀ w', Own w' L → Rd w' 1 sv l.length (ints l)) (hl : ∀ x ∈ l, i64 x) (h : OutOf cs l) :
    Calls Try.prog 65 #[.pointer (some ⟨p, 0, none⟩), sv] w (Ret w (.tuple #[.slice none 0 0, .int .i64 2]) L) :=
  (chosen_c w L p v cs byt next sv l hO hr hk hs hl).mono fun e w' h' => by
    rcases h' with ⟨_, h'⟩ | ⟨h1, _⟩ | ⟨h1, _⟩
    · exact h'
    · exact absurd h h1
    · exact absurd h h1
theorem chosen_busy (hO : Own w L) (hr : ∀ w', Own w' L → StkAt w' p v cs byt next) (hk : CsOk cs byt) (hs : ∀ w', Own w' L → Rd w' 1 sv l.length (ints l)) (hl : ∀ x ∈ l, i64 x) (h : ¬ OutOf cs l) (hb : Busy cs l) :
    Calls Try.prog 65 #[.pointer (some ⟨p, 0, none⟩), sv] w (Ret w (.tuple #[.slice none 0 0, .int .i64 12]) L) :=
  (chosen_c w L p v cs byt next sv l hO hr hk hs hl).mono fun e w' h' => by
    rcases h' with ⟨h1, h'⟩ | ⟨h1, _, h'⟩ | ⟨h1, h2, _⟩
    · exact absurd h1 h
    · exact h'
    · exact absurd hb h2
theorem chosen_ok (hO : Own w L) (hr : ∀ w', Own w' L → StkAt w' p v cs byt next) (hk : CsOk cs byt) (hs : ∀ w', Own w' L → Rd w' 1 sv l.length (ints l)) (hl : ∀ x ∈ l, i64 x) (h : ¬ OutOf cs l) (hb : ¬ Busy cs l) :
    Calls Try.prog 65 #[.pointer (some ⟨p, 0, none⟩), sv] w (RetX w (fun g => .tuple #[.slice (some ⟨g, 0, none⟩) cs.length cs.length, .int .i64 0]) (fun g => pts g (.cells (bls (inOf cs l)).toArray 4) :: L)) :=
  (chosen_c w L p v cs byt next sv l hO hr hk hs hl).mono fun e w' h' => by
    rcases h' with ⟨h1, h'⟩ | ⟨h1, h2, h'⟩ | ⟨h1, h2, h'⟩
    · exact absurd h1 h
    · exact absurd h2 hb
    · exact h'
end
end Go.Proofs.Ytonohjhmnlfakaa.H
set_option linter.unusedVariables false
set_option linter.unusedSimpArgs false
set_option maxRecDepth 100000
namespace Go.Proofs.Ytonohjhmnlfakaa.H
open Go.RowKit
theorem roll_bare (w : World) (L : List HP) (p bs bin bout g : Nat) (v : Value) (cs : List Cl) (base : List UInt8) (next : Nat) (l : List Int) (ov : Value) (hP : Piled base cs)
    (hO : Own w (pts bin (.cells #[.slice (some ⟨g, 0, none⟩) cs.length cs.length] 110) :: pts g (.cells (bls (inOf cs l)).toArray 4) :: pts bout (.cells #[ov] 22) :: pts bs (.cells #[.pointer (some ⟨p, 0, none⟩)] 52) :: (stkL p v cs (appAll base (cs.map Cl.p)) next ++ L))) :
    Calls Try.prog 66 #[.pointer (some ⟨p, 0, none⟩), .int .i64 0, .func (.func 67) #[] #[.pointer (some ⟨bs, 0, none⟩), .pointer (some ⟨bin, 0, none⟩), .pointer (some ⟨bout, 0, none⟩)]] w
      (RetX w (fun _ => .tuple #[]) (fun y : Nat × List Cl => pts bin (.cells #[.slice (some ⟨g, 0, none⟩) cs.length cs.length] 110) :: pts g (.cells (bls (inOf cs l)).toArray 4) :: pts bout (.cells #[.slice (some ⟨y.1, 0, none⟩) 32 32] 22) :: pts bs (.cells #[.pointer (some ⟨p, 0, none⟩)] 52) :: (pur (y.2.map Cl.on = cs.map Cl.on ∧ y.2.map Cl.und = unders base (cs.map Cl.p)) :: (stkL p v y.2 (appAll base (cs.map Cl.p)) next ++ (pts y.1 (.cells (bcs (appAll base (selP cs l))).toArray 46) :: L))))) := by
  have h0 : appAll base ((cs.take 0).map Cl.p) = base := rfl
  have hb := bare_c (α := Nat) (fun _ => v) (fun _ => cs) (fun _ => base) (fun gb => pts bin (.cells #[.slice (some ⟨g, 0, none⟩) cs.length cs.length] 110) :: pts g (.cells (bls (inOf cs l)).toArray 4) :: pts bout (.cells #[.slice (some ⟨gb, 0, none⟩) 32 32] 22) :: pts bs (.cells #[.pointer (some ⟨p, 0, none⟩)] 52) :: pts gb (.cells (bcs (appAll base (selP cs l))).toArray 46) :: L) w (pts bin (.cells #[.slice (some ⟨g, 0, none⟩) cs.length cs.length] 110) :: pts g (.cells (bls (inOf cs l)).toArray 4) :: pts bout (.cells #[ov] 22) :: pts bs (.cells #[.pointer (some ⟨p, 0, none⟩)] 52) :: L) p 0 v cs base next 67 #[.pointer (some ⟨bs, 0, none⟩), .pointer (some ⟨bin, 0, none⟩), .pointer (some ⟨bout, 0, none⟩)] (own_four.2 hO) (Nat.zero_le _) hP
    (fun w' F h' => roll1_c w' (L ++ F) p bs bin bout g v cs base next l ov h' hP.base hP.right hP.len) (fun w' => by simp [go_sem, callFunc]; rfl) (fun _ _ _ _ => ⟨hP.base, hP.right, hP.len⟩)
  refine hb.mono ?_
  rintro e w' ⟨⟨gb, cs'⟩, rfl, hO', hS⟩
  rw [own_pur] at hO'
  obtain ⟨hre, hO'⟩ := hO'
  have hre' := relaid_all (n := cs.length) (by simpa using hre) rfl
  simp only [Nat.zero_min, List.drop_zero] at hO'
  have h5 := own_four.1 hO'
  refine ⟨(gb, cs'), rfl, ?_, hS⟩
  have hp : ∀ {A B C D X : HP} {S : List HP}, X = pur (cs'.map Cl.on = cs.map Cl.on ∧ cs'.map Cl.und = unders base (cs.map Cl.p)) → Own w' (A :: B :: C :: D :: S) → Own w' (A :: B :: C :: D :: X :: S) := fun {A B C D X S} hX h => by
    subst hX
    have h6 := own_pur.2 ⟨hre', h⟩
    exact own_perm h6 (List.perm_middle (l₁ := [A, B, C, D]) (l₂ := S)).symm
  exact hp rfl h5
section
variable (w : World) (L : List HP) (p : Nat) (m : Stk) (sv : Value) (l : List Int)
set_option maxHeartbeats 1600000 in
theorem roll_no (hO : Own w (stk p m :: L)) (hk : m.Ok) (hs : ∀ w', Own w' L → Rd w' 1 sv l.length (ints l)) (hl : ∀ x ∈ l, i64 x) (e : Int) (he : (OutL m.l l ∧ e = 2) ∨ (¬ OutL m.l l ∧ BusyL m.l l ∧ e = 12)) :
    Calls Try.prog 28 #[.pointer (some ⟨p, 0, none⟩), sv] w (Ret w (.tuple #[.slice none 0 0, .int .i64 e]) (stk p m :: L)) := by
  obtain ⟨v, cs, hrep, hO⟩ := stk_open.1 hO
  have HREP := Lib.hid hrep
  have HK := Lib.hid hk
  have HS := Lib.hid hs
  have HL := Lib.hid hl
  rcases he with ⟨h1, rfl⟩ | ⟨h1, h2, rfl⟩
  · have HOUT := Lib.hid ((out_iff hrep.on).2 h1)
    clear hrep hk hs hl h1
    go_enter Try.func28, Try.ntmps28
    go_wp2_with (first | (refine own_box (x := .tmp 0) (cs := #[.pointer (some ⟨p, 0, none⟩)]) rfl rfl rfl rfl hO ?_; clear hO; intro bs w1 hO hS1) | (refine own_alloc (T := 22) (cs := #[.slice none 0 0]) rfl rfl zero_bys rfl hO ?_; clear hO; intro bout w2 hO hS2) | (refine own_alloc (T := 110) (cs := #[.slice none 0 0]) rfl rfl zero_bls rfl hO ?_; clear hO; intro bin w4 hO hS4) | (refine own_load1 (b := bs) (off := 0) (cs := #[.pointer (some ⟨p, 0, none⟩)]) (t := 52) (v := .pointer (some ⟨p, 0, none⟩)) rfl rfl rfl row_sptr (own_get 1 hO rfl) rfl ?_) | (go_at_call 65; refine (chosen_out _ _ p v cs m.bytes m.next sv l hO (fun w' h => stkAt_of (own_drop (own_drop h))) (HREP.out.csok HK.out) (fun w' h => HS.out w' (own_drops (own_drop (own_drop h)))) HL.out HOUT.out).mono ?_; clear hO; rintro e w3 ⟨rfl, hO, hS3⟩) | (refine own_store1 (k := 0) (b := bin) (off := 0) (cs := #[.slice none 0 0]) (cs' := #[.slice none 0 0]) rfl rfl rfl rfl sz_bls hO rfl rfl (by simp) rfl ?_; clear hO; intro w5 hO hS5; simp only [List.set_cons_zero, List.set_cons_succ] at hO) | (refine own_store1 (k := 1) (b := bout) (off := 0) (cs := #[.slice none 0 0]) (cs' := #[.slice none 0 0]) rfl rfl rfl rfl sz_bys hO rfl rfl (by simp) rfl ?_; clear hO; intro w6 hO hS6; simp only [List.set_cons_zero, List.set_cons_succ] at hO))
    exact bodyPost_ret (results_cell1_tmp rfl rfl (own_get 1 hO rfl) row_bys rfl) rfl ⟨rfl, stk_open.2 ⟨v, cs, HREP.out, own_drop (own_drop (own_drop hO))⟩, hS1.trans (hS2.trans (hS3.trans (hS4.trans (hS5.trans hS6))))⟩
  · have HOUT := Lib.hid (fun h => h1 ((out_iff hrep.on).1 h))
    have HBUSY := Lib.hid ((busy_iff hrep.on).2 h2)
    clear hrep hk hs hl h1 h2
    go_enter Try.func28, Try.ntmps28
    go_wp2_with (first | (refine own_box (x := .tmp 0) (cs := #[.pointer (some ⟨p, 0, none⟩)]) rfl rfl rfl rfl hO ?_; clear hO; intro bs w1 hO hS1) | (refine own_alloc (T := 22) (cs := #[.slice none 0 0]) rfl rfl zero_bys rfl hO ?_; clear hO; intro bout w2 hO hS2) | (refine own_alloc (T := 110) (cs := #[.slice none 0 0]) rfl rfl zero_bls rfl hO ?_; clear hO; intro bin w4 hO hS4) | (refine own_load1 (b := bs) (off := 0) (cs := #[.pointer (some ⟨p, 0, none⟩)]) (t := 52) (v := .pointer (some ⟨p, 0, none⟩)) rfl rfl rfl row_sptr (own_get 1 hO rfl) rfl ?_) | (go_at_call 65; refine (chosen_busy _ _ p v cs m.bytes m.next sv l hO (fun w' h => stkAt_of (own_drop (own_drop h))) (HREP.out.csok HK.out) (fun w' h => HS.out w' (own_drops (own_drop (own_drop h)))) HL.out HOUT.out HBUSY.out).mono ?_; clear hO; rintro e w3 ⟨rfl, hO, hS3⟩) | (refine own_store1 (k := 0) (b := bin) (off := 0) (cs := #[.slice none 0 0]) (cs' := #[.slice none 0 0]) rfl rfl rfl rfl sz_bls hO rfl rfl (by simp) rfl ?_; clear hO; intro w5 hO hS5; simp only [List.set_cons_zero, List.set_cons_succ] at hO) | (refine own_store1 (k := 1) (b := bout) (off := 0) (cs := #[.slice none 0 0]) (cs' := #[.slice none 0 0]) rfl rfl rfl rfl sz_bys hO rfl rfl (by simp) rfl ?_; clear hO; intro w6 hO hS6; simp only [List.set_cons_zero, List.set_cons_succ] at hO))
    exact bodyPost_ret (results_cell1_tmp rfl rfl (own_get 1 hO rfl) row_bys rfl) rfl ⟨rfl, stk_open.2 ⟨v, cs, HREP.out, own_drop (own_drop (own_drop hO))⟩, hS1.trans (hS2.trans (hS3.trans (hS4.trans (hS5.trans hS6))))⟩
set_option maxHeartbeats 1600000 in
theorem roll_ok (hO : Own w (stk p m :: L)) (hk : m.Ok) (hs : ∀ w', Own w' L → Rd w' 1 sv l.length (ints l)) (hl : ∀ x ∈ l, i64 x) (h1 : ¬ OutL m.l l) (h2 : ¬ BusyL m.l l) :
    Calls Try.prog 28 #[.pointer (some ⟨p, 0, none⟩), sv] w (RetX w (fun g => .tuple #[.slice (some ⟨g, 0, none⟩) 32 32, .int .i64 0]) (fun g => stk p m :: pts g (.cells (bcs (appAll m.base (selL m.l l))).toArray 46) :: L)) := by
  obtain ⟨v, cs, hrep, hO⟩ := stk_open.1 hO
  have HREP := Lib.hid hrep
  have HK := Lib.hid hk
  have HS := Lib.hid hs
  have HL := Lib.hid hl
  have HOUT := Lib.hid (fun h => h1 ((out_iff hrep.on).1 h))
  have HBUSY := Lib.hid (fun h => h2 ((busy_iff hrep.on).1 h))
  have HPI := Lib.hid (hrep.piled hk)
  have HBY := Lib.hid hrep.bytes
  have hmf : ∀ (fn : Fn) (first cap : Array Value) (w : World), (Instr.makeFunc fn first cap).run Try.prog w = .ok (.func fn first cap) w := fun _ _ _ _ => rfl
  have HMF := Lib.hid hmf
  clear hrep hk hs hl h1 h2 hmf
  go_enter Try.func28, Try.ntmps28
  go_wp2_with (first | (refine own_box (x := .tmp 0) (cs := #[.pointer (some ⟨p, 0, none⟩)]) rfl rfl rfl rfl hO ?_; clear hO; intro bs w1 hO hS1) | (refine own_alloc (T := 22) (cs := #[.slice none 0 0]) rfl rfl zero_bys rfl hO ?_; clear hO; intro bout w2 hO hS2) | (refine own_alloc (T := 110) (cs := #[.slice none 0 0]) rfl rfl zero_bls rfl hO ?_; clear hO; intro bin w4 hO hS4) | (refine own_load1 (b := bs) (off := 0) (cs := #[.pointer (some ⟨p, 0, none⟩)]) (t := 52) (v := .pointer (some ⟨p, 0, none⟩)) rfl rfl rfl row_sptr (own_get 1 hO rfl) rfl ?_) | (refine own_load1 (b := bs) (off := 0) (cs := #[.pointer (some ⟨p, 0, none⟩)]) (t := 52) (v := .pointer (some ⟨p, 0, none⟩)) rfl rfl rfl row_sptr (own_get 3 hO rfl) rfl ?_) | (go_at_call 65; refine (chosen_ok _ _ p v cs m.bytes m.next sv l hO (fun w' h => stkAt_of (own_drop (own_drop h))) (HREP.out.csok HK.out) (fun w' h => HS.out w' (own_drops (own_drop (own_drop h)))) HL.out HOUT.out HBUSY.out).mono ?_; clear hO; rintro e w3 ⟨g, rfl, hO, hS3⟩) | (refine own_store1 (k := 0) (b := bin) (off := 0) (cs := #[.slice none 0 0]) (cs' := #[.slice (some ⟨g, 0, none⟩) cs.length cs.length]) rfl rfl rfl rfl sz_bls hO rfl rfl (by simp) rfl ?_; clear hO; intro w5 hO hS5; simp only [List.set_cons_zero, List.set_cons_succ] at hO) | (go_at_call 66; refine (roll_bare _ L p bs bin bout g v cs m.base m.next l (.slice none 0 0) HPI.out (by rw [← HBY.out]; exact hO)).mono ?_; clear hO; rintro e w6 ⟨⟨gb, cs'⟩, rfl, hO, hS6⟩) | (refine own_load1 (b := bout) (off := 0) (cs := #[.slice (some ⟨gb, 0, none⟩) 32 32]) (t := 22) (v := .slice (some ⟨gb, 0, none⟩) 32 32) rfl rfl rfl row_bys (own_get 2 hO rfl) rfl ?_) | (refine own_store1 (k := 2) (b := bout) (off := 0) (cs := #[.slice (some ⟨gb, 0, none⟩) 32 32]) (cs' := #[.slice (some ⟨gb, 0, none⟩) 32 32]) rfl rfl rfl rfl sz_bys hO rfl rfl (by simp) rfl ?_; clear hO; intro w7 hO hS7; simp only [List.set_cons_zero, List.set_cons_succ] at hO))
  refine bodyPost_ret (results_cell1_tmp rfl rfl (own_get 2 hO rfl) row_bys rfl) rfl ⟨gb, rfl, ?_, hS1.trans (hS2.trans (hS3.trans (hS4.trans (hS5.trans (hS6.trans hS7)))))⟩
  have h5 := own_drop (own_drop (own_drop (own_drop hO)))
  rw [own_pur] at h5
  have hon := h5.1.1.trans HREP.out.on
  rw [← sel_eq HREP.out.on]
  refine stk_open.2 ⟨v, cs', ⟨hon, ?_⟩, ?_⟩
  · rw [h5.1.2, HREP.out.pats]
  · rw [HBY.out]
    exact h5.2
end
end Go.Proofs.Ytonohjhmnlfakaa.H
