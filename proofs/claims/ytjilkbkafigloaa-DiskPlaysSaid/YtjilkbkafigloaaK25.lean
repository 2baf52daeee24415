/- The law's play; DiskPlays. -/
import Derived.Test.YtjilkbkafigloaaK24
import Derived.Test.YtjilkbkafigloaaA5
import Derived.OwnWalk
set_option linter.unusedVariables false
set_option linter.unusedSimpArgs false
set_option maxRecDepth 100000
namespace Go.Proofs.Ytjilkbkafigloaa.H
open Go.RowKit
def PlayD (w : World) (L : List HP) (N : Nat) (e : Ending) (w' : World) : Prop :=
  ∃ (d q : Nat) (m : List Blk), m.length = N ∧ Lim 60 m ∧ Uni m ∧ Ret w (.tuple #[.pointer (some ⟨d, 0, none⟩), .pointer (some ⟨q, 0, none⟩), .bool true]) (diskP d m :: rdiskP q m :: L) e w'
theorem row_ddeed : isRowB Try.prog 50 = some true := by kernel_rfl
theorem sz_ddeed : (Try.prog.info? 50).map (·.size) = some 5 := by kernel_rfl
theorem ddeed_cells {w : World} {ad : Addr} {c : Nat} {ds : List DDeed} (h : Rd w 5 (.slice (some ad) ds.length c) ds.length (cellsX ds)) {k : Nat} {d : DDeed} (hd : ds[k]? = some d) : ∀ (j : Nat) (u : Value), d.cells[j]? = some u → w.cell? ((ad.add (k * 5)).add j) = some u :=
  fun j u hu => h.cell (cellsX_at ds k d hd j u hu)
theorem fresh_gd (N : Nat) : (fresh (List.replicate N sec0)).length = N ∧ Lim 0 (fresh (List.replicate N sec0)) ∧ Uni (fresh (List.replicate N sec0)) := by
  refine ⟨by simp [fresh], fun b hb => ?_, fun b hb => ?_⟩
  · simp [fresh] at hb; rw [hb.2]; exact Nat.le_refl _
  · simp [fresh] at hb; rw [hb.2]; exact ⟨⟨0, rfl⟩, fun s hs => by simp at hs⟩
set_option maxHeartbeats 1600000 in
theorem play_d (w : World) (L : List HP) (n : Nat) (hn : n < 256) (A1 : Option Addr) (n1 c1 : Nat) (ds : List DDeed) (hl1 : n1 = ds.length) (hO : Own w L) (hr1 : ∀ w', Own w' L → Rd w' 5 (.slice A1 n1 c1) n1 (cellsX ds)) (hd : ∀ w', Own w' L → ∀ d ∈ ds, d.At w') :
    Calls Try.prog 16 #[.int .u8 (n : Int), .slice A1 n1 c1] w (PlayD w L (n % 8 + 1)) := by
  subst hl1
  have HR1 := Lib.hid hr1
  have HD := Lib.hid hd
  have hmx := (hr1 w hO).max
  obtain ⟨K, hKe⟩ : ∃ K : Nat, K = n % 8 := ⟨_, rfl⟩
  have hK8 : K < 8 := by omega
  have hK : (n : Int).tmod 8 = (K : Int) := by rw [hKe]; rfl
  have hw0 : IntKind.i64.wrap (n : Int) = n := by rw [IntKind.wrap_i64] <;> omega
  have hw1 : IntKind.i64.wrap (K : Int) = K := by rw [IntKind.wrap_i64] <;> omega
  have hw2 : IntKind.i64.wrap ((K : Int) + 1) = ((K + 1 : Nat) : Int) := by rw [IntKind.wrap_i64] <;> omega
  have HNEW : Hid (∀ (w : World) (L : List HP), Own w L → Calls Try.prog 14 #[.int .i64 ((K : Int) + 1)] w (RetX w (fun d : Nat => .pointer (some ⟨d, 0, none⟩)) (fun d => diskP d (fresh (List.replicate (K + 1) sec0)) :: L))) := Lib.hid fun w L h => new_ok w L (K + 1) h (by omega) (by omega)
  have HRNEW : Hid (∀ (w : World) (L : List HP), Own w L → Calls Try.prog 29 #[.int .i64 ((K : Int) + 1)] w (RetX w (fun d : Nat => .pointer (some ⟨d, 0, none⟩)) (fun d => rdiskP d (fresh (List.replicate (K + 1) sec0)) :: L))) := Lib.hid fun w L h => rnew_ok w L (K + 1) h (by omega) (by omega)
  rw [← hKe]
  have hS := Same.refl w
  clear hr1 hd hKe
  go_enter Try.func16, Try.ntmps16
  go_wp2_with (first | (go_at_call 14; (with_reducible refine Calls.mono (HNEW.out _ _ hO) ?_); clear hO; rintro e u ⟨d, rfl, hO, hSn⟩; replace hS := hS.trans hSn; clear hSn) | (go_at_call 29; (with_reducible refine Calls.mono (HRNEW.out _ _ hO) ?_); clear hO; rintro e u ⟨q, rfl, hO, hSn⟩; replace hS := hS.trans hSn; clear hSn; replace hO := own_perm hO (List.Perm.swap _ _ _)))
  go_loopw [9] (fun i wr => ∃ (k : Nat) (m : List Blk), k ≤ ds.length ∧ k ≤ 60 ∧ i = .int .i64 k ∧ m.length = K + 1 ∧ Lim k m ∧ Uni m ∧ Own wr (diskP d m :: rdiskP q m :: L) ∧ Same w wr) (fun i _ => ds.length - (intOf i).toNat)
  case atStart => exact ⟨0, _, Nat.zero_le _, Nat.zero_le _, rfl, (fresh_gd (K + 1)).1, (fresh_gd (K + 1)).2.1, (fresh_gd (K + 1)).2.2, hO, hS⟩
  case round =>
    clear hO hS
    obtain ⟨k, m, hk, hk60, rfl, hmn, hml, hmu, hO, hS⟩ := hrel
    by_cases hlt : k < ds.length
    · have hm1 : (k : Int) < ds.length := by omega
      by_cases h60 : k < 60
      · have f1 : decide (k < 60) = true := by simpa using h60
        have f2 : (k : Int) < 60 := by omega
        obtain ⟨x, hx⟩ : ∃ x, ds[k]? = some x := ⟨_, List.getElem?_eq_getElem hlt⟩
        obtain ⟨ad, rfl⟩ := (HR1.out _ (own_drop (own_drop hO))).addr (by rw [cellsX_length]; omega)
        have HC : Hid (∀ (j : Nat) (u : Value), x.cells[j]? = some u → wr.cell? ((ad.add (k * 5)).add j) = some u) := ddeed_cells (HR1.out _ (own_drop (own_drop hO))) hx
        have HDA : Hid (∀ w', Own w' L → x.At w') := fun w' h => HD.out w' h x (List.mem_of_getElem? hx)
        have HM : Hid (m.length = K + 1 ∧ Lim k m ∧ Uni m ∧ k < 60) := ⟨hmn, hml, hmu, h60⟩
        have HL6 : Hid (0 < m.length ∧ Lim 1000000 m) := ⟨by omega, fun b hb => by have := hml b hb; omega⟩
        clear hx hmn hml hmu h60 hk60
        go_wp2_with (first | (refine own_loadrow_at (ad := ad.add (k * 5)) (vs := x.cells) rfl rfl rfl row_ddeed sz_ddeed rfl HC.out ?_) | (go_at_call 26; (with_reducible refine Calls.mono (do_d _ _ d q m x hO HL6.out.1 HL6.out.2 HDA.out) ?_); clear hO; rintro e u ⟨m', hg, rfl, hO, hSn⟩; replace hS := hS.trans hSn; clear hSn; have HG := Lib.hid hg; clear hg))
        go_roundw
        case rel => exact ⟨k + 1, m', by omega, by have := HM.out; omega, by go_num, by rw [HG.out.len]; exact HM.out.1, HG.out.lim k HM.out.2.1, HG.out.uni HM.out.2.2.1, hO, hS⟩
        case measure => simp [intOf]; omega
      · have hk3 : k = 60 := by omega
        have HM : Hid (m.length = K + 1 ∧ Lim k m ∧ Uni m) := ⟨hmn, hml, hmu⟩
        subst hk3
        clear hmn hml hmu h60 hk60
        go_wp2
        go_ret3
        exact ⟨d, q, m, HM.out.1, HM.out.2.1, HM.out.2.2, rfl, hO, hS⟩
    · have hke : k = ds.length := by omega
      have HM : Hid (m.length = K + 1 ∧ Lim 60 m ∧ Uni m) := ⟨hmn, fun b hb => Nat.le_trans (hml b hb) hk60, hmu⟩
      subst hke
      clear hmn hml hmu
      go_wp2
      go_ret3
      exact ⟨d, q, m, HM.out.1, HM.out.2.1, HM.out.2.2, rfl, hO, hS⟩
/-- What is asked of a law's deeds. -/
structure ArgX (w : World) (A1 : Option Addr) (n1 c1 : Nat) (ds : List DDeed) : Prop where
  hl1 : n1 = ds.length
  rd1 : Rd w 5 (.slice A1 n1 c1) n1 (cellsX ds)
  at_ : ∀ d ∈ ds, d.At w
theorem ddk {w w' : World} {d : DDeed} (h : d.At w) (hk : ∀ (i : Nat) (o : Obj), w.heap[i]? = some o → w'.heap[i]? = some o) : d.At w' := ⟨h.rd.keep hk, h.inl, h.ini⟩
theorem rd_snapD {w0 w' : World} {L : List HP} {size n : Nat} {v : Value} {xs : List Value} (h : Rd w0 size v n xs) (hO : Own w' (snap w0 :: L)) : Rd w' size v n xs := h.keep (fun i o hi => own_kept hO i o hi)
theorem play_ds (w0 w : World) (n : Nat) (hn : n < 256) (A1 : Option Addr) (n1 c1 : Nat) (ds : List DDeed) (h : ArgX w0 A1 n1 c1 ds) (L : List HP) (hO : Own w (snap w0 :: L)) :
    Calls Try.prog 16 #[.int .u8 (n : Int), .slice A1 n1 c1] w (PlayD w (snap w0 :: L) (n % 8 + 1)) :=
  play_d w _ n hn A1 n1 c1 ds h.hl1 hO (fun w' hh => rd_snapD h.rd1 hh) (fun w' hh d hd => ddk (h.at_ d hd) (fun i o hi => own_kept hh i o hi))
/-- DiskPlays: the walk. -/
theorem plays_d (w : World) (n : Nat) (hn : n < 256) (A1 : Option Addr) (n1 c1 : Nat) (ds : List DDeed) (h : ArgX w A1 n1 c1 ds) :
    Calls Try.prog 4 #[.int .u8 (n : Int), .slice A1 n1 c1] w (fun e w' => e = .returned (.bool true) ∧ Below w.heap.size w w') := by
  have HA := Lib.hid h
  have HN := Lib.hid hn
  have hO : Own w [snap w] := own_snap
  have hS := Same.refl w
  clear h hn
  go_enter Try.func4, Try.ntmps4
  go_wp2_with (first | (go_at_call 16; (with_reducible refine Calls.mono (play_ds _ _ n HN.out _ _ _ ds HA.out _ hO) ?_); clear hO; rintro e u ⟨d, q, m, hm, hl, hu, rfl, hO, hSn⟩; replace hS := hS.trans hSn; clear hSn; clear hm hl hu) | (go_at_call 13; (with_reducible refine Calls.mono (live4_c _ _ hO) ?_); clear hO; rintro e u ⟨rfl, hO, hSn⟩; replace hS := hS.trans hSn; clear hSn) | (go_at_call 15; (with_reducible refine Calls.mono (same_d _ _ d q m hO) ?_); clear hO; rintro e u ⟨rfl, hO, hSn⟩; replace hS := hS.trans hSn; clear hSn))
  go_ret
  exact ⟨rfl, below_of (own_at hO (k := 2) rfl) hS⟩
end Go.Proofs.Ytjilkbkafigloaa.H
