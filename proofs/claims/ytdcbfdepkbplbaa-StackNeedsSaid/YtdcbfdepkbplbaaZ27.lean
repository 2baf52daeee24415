/- The law's play. -/
import Derived.Test.YtdcbfdepkbplbaaZ26
import Derived.OwnWalk
set_option linter.unusedVariables false
set_option linter.unusedSimpArgs false
set_option maxRecDepth 100000
namespace Go.Proofs.Ytdcbfdepkbplbaa.H
open Go.RowKit
def PlayPost (w : World) (L : List HP) (e : Ending) (w' : World) : Prop :=
  ∃ (p q : Nat) (m : Stk), m.Ok ∧ m.l.length ≤ 30 ∧ m.next ≤ 30 ∧ Ret w (.tuple #[.pointer (some ⟨p, 0, none⟩), .pointer (some ⟨q, 0, none⟩), .bool true]) (stk p m :: rstk q m :: L) e w'
theorem new_ok {bs : List UInt8} (h : bs.length = 32) : (⟨bs, [], 0⟩ : Stk).Ok := ⟨h, by simp, by simp, by simp, by simp, by simp⟩
theorem row_deed : isRowB Try.prog 42 = some true := by kernel_rfl
theorem sz_deed : (Try.prog.info? 42).map (·.size) = some 7 := by kernel_rfl
theorem deed_cells {w : World} {ad : Addr} {c : Nat} {ds : List Dd} (h : Rd w 7 (.slice (some ad) ds.length c) ds.length (cellsD ds)) {k : Nat} {d : Dd} (hd : ds[k]? = some d) : ∀ (j : Nat) (u : Value), d.cells[j]? = some u → w.cell? ((ad.add (k * 7)).add j) = some u :=
  fun j u hu => h.cell (cellsD_at ds k d hd j u hu)
set_option maxHeartbeats 1600000 in
theorem play_c (w : World) (L : List HP) (A0 : Option Addr) (n0 c0 : Nat) (l0 : List UInt8) (A1 : Option Addr) (n1 c1 : Nat) (ds : List Dd) (hl0 : n0 = l0.length) (hl1 : n1 = ds.length) (hO : Own w L) (hr0 : ∀ w', Own w' L → RdB w' (.slice A0 n0 c0) l0) (hr1 : ∀ w', Own w' L → Rd w' 7 (.slice A1 n1 c1) n1 (cellsD ds)) (hd : ∀ w', Own w' L → ∀ d ∈ ds, d.At w') :
    Calls Try.prog 11 #[.slice A0 n0 c0, .slice A1 n1 c1] w (PlayPost w L) := by
  subst hl0 hl1
  have HR0 := Lib.hid hr0
  have HR1 := Lib.hid hr1
  have HD := Lib.hid hd
  have hmx := (hr1 w hO).max
  obtain ⟨bs, hbs⟩ : ∃ bs, bs = blockL l0 (min l0.length 32) := ⟨_, rfl⟩
  have HB : Hid (bs.length = 32) := by show _ = _; rw [hbs]; exact block_len (Nat.min_le_right _ _) (Nat.min_le_left _ _)
  have HBS := Lib.hid hbs
  have hS := Same.refl w
  clear hr0 hr1 hd hbs
  go_enter Try.func11, Try.ntmps11
  go_wp2_with (first | (go_at_call 32; (with_reducible refine Calls.mono (block_c _ _ _ l0 hO HR0.out) ?_); clear hO; rintro e u ⟨g1, rfl, hO, hSn⟩; replace hS := hS.trans hSn; clear hSn; rw [← HBS.out] at hO) | (go_at_call 31; (with_reducible refine Calls.mono (new_c _ _ _ bs hO (fun w' h => rdB_block HB.out.symm (own_get 0 h rfl) (by decide) (by decide)) HB.out) ?_); clear hO; rintro e u ⟨p, rfl, hO, hSn⟩; replace hS := hS.trans hSn; clear hSn; replace hO := own_skip hO) | (go_at_call 32; (with_reducible refine Calls.mono (block_c _ _ _ l0 hO (fun w' h => HR0.out w' (own_drop h))) ?_); clear hO; rintro e u ⟨g2, rfl, hO, hSn⟩; replace hS := hS.trans hSn; clear hSn; rw [← HBS.out] at hO) | (go_at_call 33; (with_reducible refine Calls.mono (rnew_c _ _ _ bs hO (fun w' h => rdB_block HB.out.symm (own_get 0 h rfl) (by decide) (by decide)) HB.out) ?_); clear hO; rintro e u ⟨q, rfl, hO, hSn⟩; replace hS := hS.trans hSn; clear hSn; replace hO := own_perm (own_skip hO) (List.Perm.swap _ _ _)))
  go_loopw [9] (fun i wr => ∃ (k : Nat) (m : Stk), k ≤ ds.length ∧ k ≤ 30 ∧ i = .int .i64 k ∧ m.Ok ∧ m.l.length ≤ k ∧ m.next ≤ k ∧ Own wr (stk p m :: rstk q m :: L) ∧ Same w wr) (fun i _ => ds.length - (intOf i).toNat)
  case atStart => exact ⟨0, ⟨bs, [], 0⟩, Nat.zero_le _, Nat.zero_le _, rfl, new_ok HB.out, Nat.zero_le _, Nat.zero_le _, hO, hS⟩
  case round =>
    clear hO hS
    obtain ⟨k, m, hk, hk30, rfl, hm, hml, hmn, hO, hS⟩ := hrel
    by_cases hlt : k < ds.length
    · have hm1 : (k : Int) < ds.length := by omega
      by_cases h30 : k < 30
      · have f1 : decide (k < 30) = true := by simpa using h30
        have f2 : (k : Int) < 30 := by omega
        obtain ⟨d, hd⟩ : ∃ d, ds[k]? = some d := ⟨_, List.getElem?_eq_getElem hlt⟩
        obtain ⟨ad, rfl⟩ := (HR1.out _ (own_drop (own_drop hO))).addr (by rw [cellsD_length]; omega)
        have HC : Hid (∀ (j : Nat) (u : Value), d.cells[j]? = some u → wr.cell? ((ad.add (k * 7)).add j) = some u) := deed_cells (HR1.out _ (own_drop (own_drop hO))) hd
        have HDA : Hid (∀ w', Own w' L → d.At w') := fun w' h => HD.out w' h d (List.mem_of_getElem? hd)
        have HM : Hid (m.Ok ∧ m.l.length ≤ k ∧ m.next ≤ k ∧ k < 30) := ⟨hm, hml, hmn, h30⟩
        clear hd hm hml hmn h30 hk30
        go_wp2_with (first | (refine own_loadrow_at (ad := ad.add (k * 7)) (vs := d.cells) rfl rfl rfl row_deed sz_deed rfl HC.out ?_) | (go_at_call 30; (with_reducible refine Calls.mono (do_c _ _ p q m d hO HM.out.1 (by have := HM.out; omega) (by have := HM.out; omega) HDA.out) ?_); clear hO; rintro e u ⟨m', hm', hl', hn', rfl, hO, hSn⟩; replace hS := hS.trans hSn; clear hSn))
        go_roundw
        case rel => exact ⟨k + 1, m', by omega, by have := HM.out; omega, by go_num, hm', by have := HM.out; omega, by have := HM.out; omega, hO, hS⟩
        case measure => simp [intOf]; omega
      · have hk3 : k = 30 := by omega
        have HM : Hid (m.Ok ∧ m.l.length ≤ k ∧ m.next ≤ k) := ⟨hm, hml, hmn⟩
        subst hk3
        clear hm hml hmn h30 hk30
        go_wp2
        go_ret3
        exact ⟨p, q, m, HM.out.1, HM.out.2.1, HM.out.2.2, rfl, hO, hS⟩
    · have hke : k = ds.length := by omega
      have HM : Hid (m.Ok ∧ m.l.length ≤ 30 ∧ m.next ≤ 30) := ⟨hm, by omega, by omega⟩
      subst hke
      clear hm hml hmn
      go_wp2
      go_ret3
      exact ⟨p, q, m, HM.out.1, HM.out.2.1, HM.out.2.2, rfl, hO, hS⟩
/-- What is asked of a law's first two arguments. -/
structure Arg (w : World) (A0 : Option Addr) (n0 c0 : Nat) (l0 : List UInt8) (A1 : Option Addr) (n1 c1 : Nat) (ds : List Dd) : Prop where
  hl0 : n0 = l0.length
  hl1 : n1 = ds.length
  rd0 : Rd w 1 (.slice A0 n0 c0) n0 (bcs l0)
  rd1 : Rd w 7 (.slice A1 n1 c1) n1 (cellsD ds)
  at_ : ∀ d ∈ ds, d.At w
theorem dd_keep {w w' : World} {d : Dd} (h : d.At w) (hk : ∀ (i : Nat) (o : Obj), w.heap[i]? = some o → w'.heap[i]? = some o) : d.At w' := ⟨h.rd.keep hk, h.i64, h.n64, h.m64⟩
theorem rd_snap1 {w0 w' : World} {L : List HP} {size n : Nat} {v : Value} {xs : List Value} (h : Rd w0 size v n xs) (hO : Own w' (snap w0 :: L)) : Rd w' size v n xs := h.keep (fun i o hi => own_kept hO i o hi)
theorem play_s (w0 w : World) (A0 : Option Addr) (n0 c0 : Nat) (l0 : List UInt8) (A1 : Option Addr) (n1 c1 : Nat) (ds : List Dd) (h : Arg w0 A0 n0 c0 l0 A1 n1 c1 ds) (L : List HP) (hO : Own w (snap w0 :: L)) :
    Calls Try.prog 11 #[.slice A0 n0 c0, .slice A1 n1 c1] w (PlayPost w (snap w0 :: L)) :=
  play_c w _ A0 n0 c0 l0 A1 n1 c1 ds h.hl0 h.hl1 hO (fun w' hh => by have h2 := rd_snap1 h.rd0 hh; have e := h.hl0; subst e; exact h2) (fun w' hh => rd_snap1 h.rd1 hh) (fun w' hh d hd => dd_keep (h.at_ d hd) (fun i o hi => own_kept hh i o hi))
/-- StackPlays: the walk. -/
theorem plays_c (w : World) (A0 : Option Addr) (n0 c0 : Nat) (l0 : List UInt8) (A1 : Option Addr) (n1 c1 : Nat) (ds : List Dd) (h : Arg w A0 n0 c0 l0 A1 n1 c1 ds) :
    Calls Try.prog 5 #[.slice A0 n0 c0, .slice A1 n1 c1] w (fun e w' => e = .returned (.bool true) ∧ Below w.heap.size w w') := by
  have HA := Lib.hid h
  have hO : Own w [snap w] := own_snap
  have hS := Same.refl w
  clear h
  go_enter Try.func5, Try.ntmps5
  go_wp2_with (first | (go_at_call 11; (with_reducible refine Calls.mono (play_s _ _ _ _ _ l0 _ _ _ ds HA.out _ hO) ?_); clear hO; rintro e u ⟨p, q, m, hm, hl, hn, rfl, hO, hSn⟩; replace hS := hS.trans hSn; clear hSn; have HM := Lib.hid hm; clear hm hl hn) | (go_at_call 12; (with_reducible refine Calls.mono (live_c _ _ hO) ?_); clear hO; rintro e u ⟨rfl, hO, hSn⟩; replace hS := hS.trans hSn; clear hSn) | (go_at_call 23; (with_reducible refine Calls.mono (same_c _ _ p q m hO HM.out) ?_); clear hO; rintro e u ⟨rfl, hO, hSn⟩; replace hS := hS.trans hSn; clear hSn))
  go_ret
  exact ⟨rfl, below_of (own_at hO (k := 2) rfl) hS⟩
end Go.Proofs.Ytdcbfdepkbplbaa.H
