/- The law's play on both engines; EnginePlays, EngineForks: the walks. -/
import Derived.Test.YtlmkcnkidkoilaaGreatZ37
import Derived.OwnWalk
set_option linter.unusedVariables false
set_option linter.unusedSimpArgs false
set_option maxRecDepth 100000
namespace Go.Proofs.YtlmkcnkidkoilaaGreat.H
open Go.RowKit
theorem Pk.lim {k : Nat} {E : Eng} (h : Pk k E) (hk : k ≤ 1000000) : ∀ b ∈ E.m, b.vs.length ≤ 1000000 := fun b hb => Nat.le_trans (h.vl b hb) hk
def PlayE (w : World) (L : List HP) (e : Ending) (w' : World) : Prop :=
  ∃ (p q : Nat) (E : Eng), Pk 24 E ∧ Ret w (.tuple #[.pointer (some ⟨p, 0, none⟩), .pointer (some ⟨q, 0, none⟩), .bool true]) (engP p E :: rengP q E :: L) e w'
theorem row_edeed : isRowB Tryz.prog 56 = some true := by kernel_rfl
theorem sz_edeed : (Tryz.prog.info? 56).map (·.size) = some 4 := by kernel_rfl
theorem edeed_cells {w : World} {ad : Addr} {c : Nat} {ds : List EDeed} (h : Rd w 4 (.slice (some ad) ds.length c) ds.length (cellsY ds)) {k : Nat} {d : EDeed} (hd : ds[k]? = some d) : ∀ (j : Nat) (u : Value), d.cells[j]? = some u → w.cell? ((ad.add (k * 4)).add j) = some u :=
  fun j u hu => h.cell (cellsY_at ds k d hd j u hu)
set_option maxHeartbeats 1600000 in
theorem play_e (w : World) (L : List HP) (A1 : Option Addr) (n1 c1 : Nat) (ds : List EDeed) (hl1 : n1 = ds.length) (hO : Own w L) (hr1 : ∀ w', Own w' L → Rd w' 4 (.slice A1 n1 c1) n1 (cellsY ds)) (hd : ∀ w', Own w' L → ∀ d ∈ ds, d.At w') :
    Calls Tryz.prog 8 #[.slice A1 n1 c1] w (PlayE w L) := by
  subst hl1
  have HR1 := Lib.hid hr1
  have HD := Lib.hid hd
  have hmx := (hr1 w hO).max
  have HLM : Hid (∀ b ∈ fresh (List.replicate 5 sec0), b.vs.length ≤ 1000000) := Lib.hid fun b hb => by simp [fresh] at hb; rw [hb]; exact Nat.zero_le _
  have HL0 : Hid (0 < (fresh (List.replicate 5 sec0)).length) := by show 0 < _; simp [fresh]
  have HNEW : Hid (∀ (w : World) (L : List HP), Own w L → Calls Tryz.prog 28 #[.int .i64 5] w (RetX w (fun d : Nat => .pointer (some ⟨d, 0, none⟩)) (fun d => diskP d (fresh (List.replicate 5 sec0)) :: L))) := Lib.hid fun w L h => new_ok w L 5 h (by omega) (by omega)
  have HRNEW : Hid (∀ (w : World) (L : List HP), Own w L → Calls Tryz.prog 30 #[.int .i64 5] w (RetX w (fun d : Nat => .pointer (some ⟨d, 0, none⟩)) (fun d => rdiskP d (fresh (List.replicate 5 sec0)) :: L))) := Lib.hid fun w L h => rnew_ok w L 5 h (by omega) (by omega)
  have HENEW : Hid (∀ (w : World) (L : List HP) (d : Nat), Own w (diskP d (fresh (List.replicate 5 sec0)) :: L) → Calls Tryz.prog 27 #[.pointer (some ⟨d, 0, none⟩)] w (RetX w (fun e : Nat => .pointer (some ⟨e, 0, none⟩)) (fun e => engP e (eng0 5) :: diskP d (fresh (List.replicate 5 sec0)) :: L))) := Lib.hid fun w L d h => enew_c w L d _ h HL0.out HLM.out
  have HQNEW : Hid (∀ (w : World) (L : List HP) (d : Nat), Own w (rdiskP d (fresh (List.replicate 5 sec0)) :: L) → Calls Tryz.prog 29 #[.pointer (some ⟨d, 0, none⟩)] w (RetX w (fun e : Nat => .pointer (some ⟨e, 0, none⟩)) (fun e => rengP e (eng0 5) :: rdiskP d (fresh (List.replicate 5 sec0)) :: L))) := Lib.hid fun w L d h => rnew_e w L d _ h HLM.out
  have hS := Same.refl w
  clear hr1 hd
  go_enter Tryz.func8, Tryz.ntmps8
  go_wp2_with (first | (go_at_call 28; (with_reducible refine Calls.mono (HNEW.out _ _ hO) ?_); clear hO; rintro e u ⟨d, rfl, hO, hSn⟩; replace hS := hS.trans hSn; clear hSn) | (go_at_call 27; (with_reducible refine Calls.mono (HENEW.out _ _ d hO) ?_); clear hO; rintro e u ⟨p, rfl, hO, hSn⟩; replace hS := hS.trans hSn; clear hSn; replace hO := own_drop (own_swap hO)) | (go_at_call 30; (with_reducible refine Calls.mono (HRNEW.out _ _ hO) ?_); clear hO; rintro e u ⟨d, rfl, hO, hSn⟩; replace hS := hS.trans hSn; clear hSn) | (go_at_call 29; (with_reducible refine Calls.mono (HQNEW.out _ _ d hO) ?_); clear hO; rintro e u ⟨q, rfl, hO, hSn⟩; replace hS := hS.trans hSn; clear hSn; replace hO := own_drop (own_order [1, 1] hO rfl)))
  go_loopw [7] (fun i wr => ∃ (k : Nat) (E : Eng), k ≤ ds.length ∧ k ≤ 24 ∧ i = .int .i64 k ∧ Hid (Pk k E) ∧ Own wr (engP p E :: rengP q E :: L) ∧ Same w wr) (fun i _ => ds.length - (intOf i).toNat)
  case atStart => exact ⟨0, eng0 5, Nat.zero_le _, Nat.zero_le _, rfl, Pk.start, hO, hS⟩
  case round =>
    clear hO hS
    obtain ⟨k, E, hk, hk24, rfl, HPK, hO, hS⟩ := hrel
    by_cases hlt : k < ds.length
    · have hm1 : (k : Int) < ds.length := by omega
      by_cases h24 : k < 24
      · have f1 : decide (k < 24) = true := by simpa using h24
        have f2 : (k : Int) < 24 := by omega
        obtain ⟨x, hx⟩ : ∃ x, ds[k]? = some x := ⟨_, List.getElem?_eq_getElem hlt⟩
        obtain ⟨ad, rfl⟩ := (HR1.out _ (own_drop (own_drop hO))).addr (by rw [cellsY_length]; omega)
        have HC : Hid (∀ (j : Nat) (u : Value), x.cells[j]? = some u → wr.cell? ((ad.add (k * 4)).add j) = some u) := edeed_cells (HR1.out _ (own_drop (own_drop hO))) hx
        have HDA : Hid (∀ w', Own w' L → x.At w') := fun w' h => HD.out w' h x (List.mem_of_getElem? hx)
        have HK1 : Hid (k ≤ 1000 ∧ k < 24) := ⟨by omega, h24⟩
        clear hx h24 hk24
        go_wp2_with (first | (refine own_loadrow_at (ad := ad.add (k * 4)) (vs := x.cells) rfl rfl rfl row_edeed sz_edeed rfl HC.out ?_) | (go_at_call 26; (with_reducible refine Calls.mono (do_e _ _ p q k E x hO HPK.out HK1.out.1 HDA.out) ?_); clear hO; rintro e u ⟨E', hg, rfl, hO, hSn⟩; replace hS := hS.trans hSn; clear hSn; have HG := Lib.hid hg; clear hg))
        go_roundw
        case rel => exact ⟨k + 1, E', by omega, by have := HK1.out; omega, by go_num, HG, hO, hS⟩
        case measure => simp [intOf]; omega
      · have hk3 : k = 24 := by omega
        have HPK2 : Hid (Pk 24 E) := by rw [← hk3]; exact HPK
        clear h24 hk24
        subst hk3
        go_wp2
        go_ret3
        exact ⟨p, q, E, HPK2.out, rfl, hO, hS⟩
    · have hke : k = ds.length := by omega
      have HPK2 : Hid (Pk 24 E) := HPK.out.mono hk24
      subst hke
      go_wp2
      go_ret3
      exact ⟨p, q, E, HPK2.out, rfl, hO, hS⟩
/-- What is asked of a law's deeds. -/
structure ArgY (w : World) (A1 : Option Addr) (n1 c1 : Nat) (ds : List EDeed) : Prop where
  hl1 : n1 = ds.length
  rd1 : Rd w 4 (.slice A1 n1 c1) n1 (cellsY ds)
  at_ : ∀ d ∈ ds, d.At w
theorem ivk {w w' : World} {x : Iv} (h : x.At w) (hk : ∀ (i : Nat) (o : Obj), w.heap[i]? = some o → w'.heap[i]? = some o) : x.At w' :=
  ⟨let ⟨A, c, e, h1⟩ := h.rd; ⟨A, c, e, h1.keep hk⟩, h.inl⟩
theorem edk {w w' : World} {d : EDeed} (h : d.At w) (hk : ∀ (i : Nat) (o : Obj), w.heap[i]? = some o → w'.heap[i]? = some o) : d.At w' :=
  ⟨let ⟨A, c, e, h1⟩ := h.rd; ⟨A, c, e, h1.keep hk⟩, fun x hx => ivk (h.inl x hx) hk, h.ini⟩
theorem rd_snapE {w0 w' : World} {L : List HP} {size n : Nat} {v : Value} {xs : List Value} (h : Rd w0 size v n xs) (hO : Own w' (snap w0 :: L)) : Rd w' size v n xs := h.keep (fun i o hi => own_kept hO i o hi)
theorem play_es (w0 w : World) (A1 : Option Addr) (n1 c1 : Nat) (ds : List EDeed) (h : ArgY w0 A1 n1 c1 ds) (L : List HP) (hO : Own w (snap w0 :: L)) :
    Calls Tryz.prog 8 #[.slice A1 n1 c1] w (PlayE w (snap w0 :: L)) :=
  play_e w _ A1 n1 c1 ds h.hl1 hO (fun w' hh => rd_snapE h.rd1 hh) (fun w' hh d hd => edk (h.at_ d hd) (fun i o hi => own_kept hh i o hi))
/-- EnginePlays: the walk. -/
theorem eplays_law (w : World) (A0 : Option Addr) (n0 c0 : Nat) (ds : List EDeed) (h : ArgY w A0 n0 c0 ds) (A1 : Option Addr) (n1 c1 : Nat) (pl : List Int) (hn1 : n1 = pl.length) (hr : Rd w 1 (.slice A1 n1 c1) n1 (pl.map encZ)) (hi : ∀ x ∈ pl, inI x) :
    Calls Tryz.prog 5 #[.slice A0 n0 c0, .slice A1 n1 c1] w (fun e w' => e = .returned (.bool true) ∧ Below w.heap.size w w') := by
  subst hn1
  have HA := Lib.hid h
  have HR := Lib.hid hr
  have HI := Lib.hid hi
  have hO : Own w [snap w] := own_snap
  have hS := Same.refl w
  clear h hr hi
  go_enter Tryz.func5, Tryz.ntmps5
  go_wp2_with (first | (go_at_call 8; (with_reducible refine Calls.mono (play_es _ _ _ _ _ ds HA.out _ hO) ?_); clear hO; rintro e u ⟨p, q, E, hpk, rfl, hO, hSn⟩; replace hS := hS.trans hSn; clear hSn; have HPK := Lib.hid hpk; clear hpk) | (go_at_call 9; (with_reducible refine Calls.mono (elive_c _ _ hO) ?_); clear hO; rintro e u ⟨rfl, hO, hSn⟩; replace hS := hS.trans hSn; clear hSn) | (go_at_call 21; (with_reducible refine Calls.mono (same_e _ _ p q 24 E (.slice A1 pl.length c1) pl hO HPK.out (by decide) (fun w' h => rd_snapE HR.out h) HI.out) ?_); clear hO; rintro e u ⟨rfl, hO, hSn⟩; replace hS := hS.trans hSn; clear hSn))
  go_ret
  exact ⟨rfl, below_of (own_at hO (k := 2) rfl) hS⟩
theorem swap4e {w : World} {A B C D : HP} {L : List HP} (h : Own w (A :: B :: C :: D :: L)) : Own w (C :: D :: A :: B :: L) := own_order [2, 2] h rfl
set_option maxHeartbeats 1600000 in
/-- EngineForks: the walk. -/
theorem eforks_law (w : World) (A0 : Option Addr) (n0 c0 : Nat) (ds : List EDeed) (h : ArgY w A0 n0 c0 ds) (A2 : Option Addr) (n2 c2 : Nat) (es : List EDeed) (h2 : ArgY w A2 n2 c2 es) (A1 : Option Addr) (n1 c1 : Nat) (pl : List Int) (hn1 : n1 = pl.length) (hr : Rd w 1 (.slice A1 n1 c1) n1 (pl.map encZ)) (hi : ∀ x ∈ pl, inI x) :
    Calls Tryz.prog 7 #[.slice A0 n0 c0, .slice A2 n2 c2, .slice A1 n1 c1] w (fun e w' => e = .returned (.bool true) ∧ Below w.heap.size w w') := by
  have hl2 := h2.hl1
  subst hl2
  subst hn1
  have HA := Lib.hid h
  have HA2 := Lib.hid h2
  have HR := Lib.hid hr
  have HI := Lib.hid hi
  have hmx2 := h2.rd1.max
  have hO : Own w [snap w] := own_snap
  have hS := Same.refl w
  clear h h2 hr hi
  go_enter Tryz.func7, Tryz.ntmps7
  go_wp2_with (first | (go_at_call 8; (with_reducible refine Calls.mono (play_es _ _ _ _ _ ds HA.out _ hO) ?_); clear hO; rintro e u ⟨p, q, E, hpk, rfl, hO, hSn⟩; replace hS := hS.trans hSn; clear hSn; have HPK := Lib.hid hpk; clear hpk) | (go_at_call 9; (with_reducible refine Calls.mono (elive_c _ _ hO) ?_); clear hO; rintro e u ⟨rfl, hO, hSn⟩; replace hS := hS.trans hSn; clear hSn) | (go_at_call 10; (with_reducible refine Calls.mono (efork_c _ _ p E hO HPK.out.ok (HPK.out.lim (by decide))) ?_); clear hO; rintro e u ⟨f, rfl, hO, hSn⟩; replace hS := hS.trans hSn; clear hSn) | (go_at_call 25; (with_reducible refine Calls.mono (rfork_e _ _ q E (own_order [2] hO rfl) HPK.out.ok (by have := HPK.out.m5; omega) (HPK.out.lim (by decide))) ?_); clear hO; rintro e u ⟨g, rfl, hO, hSn⟩; replace hS := hS.trans hSn; clear hSn))
  have hO : Own u (engP f E :: rengP g E :: engP p E :: rengP q E :: [snap w]) := own_order [2, 0, 1] hO rfl
  go_loopw [12] (fun kv wr => ∃ (k : Nat) (F : Eng), k ≤ es.length ∧ k ≤ 8 ∧ kv = .int .i64 k ∧ Hid (Pk (24 + k) F) ∧ Own wr (engP f F :: rengP g F :: engP p E :: rengP q E :: [snap w]) ∧ Same w wr) (fun kv _ => es.length - (intOf kv).toNat)
  case atStart => exact ⟨0, E, Nat.zero_le _, Nat.zero_le _, rfl, HPK, hO, hS⟩
  case round =>
    clear hO hS
    obtain ⟨k, F, hk, hk8, rfl, HF, hO, hS⟩ := hrel
    by_cases hgo : k < es.length ∧ k < 8
    · obtain ⟨hlt, h8⟩ := hgo
      have f1 : decide (k < 8) = true := by simpa using h8
      have f2 : (k : Int) < 8 := by omega
      have f3 : (k : Int) < es.length := by omega
      obtain ⟨x, hx⟩ : ∃ x, es[k]? = some x := ⟨_, List.getElem?_eq_getElem hlt⟩
      have hr1 : Rd wr 4 (.slice A2 es.length c2) es.length (cellsY es) := rd_snapE HA2.out.rd1 (own_at hO (k := 4) rfl)
      obtain ⟨ad, rfl⟩ := hr1.addr (by rw [cellsY_length]; omega)
      have HC : Hid (∀ (j : Nat) (u : Value), x.cells[j]? = some u → wr.cell? ((ad.add (k * 4)).add j) = some u) := edeed_cells hr1 hx
      have HDA : Hid (∀ w', Own w' (engP p E :: rengP q E :: [snap w]) → x.At w') := Lib.hid fun w' h => edk (HA2.out.at_ x (List.mem_of_getElem? hx)) (fun i o hi => own_kept (own_at h (k := 2) rfl) i o hi)
      have HK1 : Hid (24 + k ≤ 1000 ∧ k < 8) := ⟨by omega, h8⟩
      clear hx hr1
      go_wp2_with (first | (refine own_loadrow_at (ad := ad.add (k * 4)) (vs := x.cells) rfl rfl rfl row_edeed sz_edeed rfl HC.out ?_) | (go_at_call 26; (with_reducible refine Calls.mono (do_e _ _ f g (24 + k) F x hO HF.out HK1.out.1 HDA.out) ?_); clear hO; rintro e u ⟨E', hg, rfl, hO, hSn⟩; replace hS := hS.trans hSn; clear hSn; have HG := Lib.hid hg; clear hg))
      go_roundw
      case rel => exact ⟨k + 1, E', by omega, by omega, by go_num, HG, hO, hS⟩
      case measure => simp [intOf]; omega
    · have hO := swap4e hO
      have HF2 : Hid (Pk 32 F) := HF.out.mono (by omega)
      by_cases hlt : k < es.length
      · have hk3 : k = 8 := by omega
        subst hk3
        have f3 : (8 : Int) < es.length := by omega
        clear hgo hlt
        go_wp2_with (first | (go_at_call 21; (first | (with_reducible refine Calls.mono (same_e _ _ p q 24 E (.slice A1 pl.length c1) pl hO HPK.out (by decide) (fun w' h => rd_snapE HR.out (own_at h (k := 2) rfl)) HI.out) ?_) | (with_reducible refine Calls.mono (same_e _ _ f g 32 F (.slice A1 pl.length c1) pl hO HF2.out (by decide) (fun w' h => rd_snapE HR.out (own_at h (k := 2) rfl)) HI.out) ?_)); clear hO; rintro e u ⟨rfl, hO, hSn⟩; replace hS := hS.trans hSn; clear hSn; replace hO := swap4e hO))
        go_ret
        exact ⟨rfl, below_of (own_at hO (k := 4) rfl) hS⟩
      · have hke : k = es.length := by omega
        subst hke
        clear hgo hlt
        go_wp2_with (first | (go_at_call 21; (first | (with_reducible refine Calls.mono (same_e _ _ p q 24 E (.slice A1 pl.length c1) pl hO HPK.out (by decide) (fun w' h => rd_snapE HR.out (own_at h (k := 2) rfl)) HI.out) ?_) | (with_reducible refine Calls.mono (same_e _ _ f g 32 F (.slice A1 pl.length c1) pl hO HF2.out (by decide) (fun w' h => rd_snapE HR.out (own_at h (k := 2) rfl)) HI.out) ?_)); clear hO; rintro e u ⟨rfl, hO, hSn⟩; replace hS := hS.trans hSn; clear hSn; replace hO := swap4e hO))
        go_ret
        exact ⟨rfl, below_of (own_at hO (k := 4) rfl) hS⟩
end Go.Proofs.YtlmkcnkidkoilaaGreat.H
