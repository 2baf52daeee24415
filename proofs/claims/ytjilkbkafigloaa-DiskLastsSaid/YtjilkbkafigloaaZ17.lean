/- DiskForks, DiskLasts: the walks. Opening a law's argument: a slice of ints (disk). All parts of the disk's laws. -/
import Derived.Test.YtjilkbkafigloaaZ12
import Derived.Test.YtjilkbkafigloaaZ15
import Derived.Test.YtjilkbkafigloaaZ16
import Derived.Test.YtjilkbkafigloaaZ13
import Derived.Test.YtjilkbkafigloaaZ14
set_option linter.unusedVariables false
set_option linter.unusedSimpArgs false
set_option maxRecDepth 100000
namespace Go.Proofs.Ytjilkbkafigloaa.H
open Go.RowKit
theorem swap4 {w : World} {A B C D : HP} {L : List HP} (h : Own w (A :: B :: C :: D :: L)) : Own w (C :: D :: A :: B :: L) := own_perm h (by
  refine List.Perm.trans (perm_at (k := 2) rfl) (List.Perm.cons _ ?_)
  exact perm_at (k := 2) rfl)
set_option maxHeartbeats 3200000 in
theorem forks_law (w : World) (A0 : Option Addr) (n0 c0 : Nat) (ds : List DDeed) (h : ArgX w A0 n0 c0 ds) (A1 : Option Addr) (n1 c1 : Nat) (es : List DDeed) (h1 : ArgX w A1 n1 c1 es) :
    Calls Try.prog 8 #[.slice A0 n0 c0, .slice A1 n1 c1] w (fun e w' => e = .returned (.bool true) ∧ Below w.heap.size w w') := by
  have hl1 := h1.hl1
  subst hl1
  have HA := Lib.hid h
  have HA1 := Lib.hid h1
  have hO : Own w [snap w] := own_snap
  have hS := Same.refl w
  have hmx1 := h1.rd1.max
  clear h h1
  go_enter Try.func8, Try.ntmps8
  go_wp2_with (first | (go_at_call 16; (with_reducible refine Calls.mono (play_ds _ _ 5 (by decide) _ _ _ ds HA.out _ hO) ?_); clear hO; rintro e u ⟨d, q, m, hm, hl, hu, rfl, hO, hSn⟩; replace hS := hS.trans hSn; clear hSn; have HM : Hid (m.length = 6 ∧ Lim 60 m) := ⟨hm, hl⟩; clear hm hl hu) | (go_at_call 13; (with_reducible refine Calls.mono (live4_c _ _ hO) ?_); clear hO; rintro e u ⟨rfl, hO, hSn⟩; replace hS := hS.trans hSn; clear hSn) | (go_at_call 24; (with_reducible refine Calls.mono (fork_ok _ _ d m hO (by have := HM.out.1; omega) (fun b hb => Nat.le_trans (HM.out.2 b hb) (by decide))) ?_); clear hO; rintro e u ⟨f, rfl, hO, hSn⟩; replace hS := hS.trans hSn; clear hSn) | (go_at_call 25; (with_reducible refine Calls.mono (rfork_d _ _ q m (own_at hO (k := 2) rfl) (fun b hb => Nat.le_trans (HM.out.2 b hb) (by decide))) ?_); clear hO; rintro e u ⟨g, rfl, hO, hSn⟩; replace hS := hS.trans hSn; clear hSn))
  have hO : Own u (diskP f m :: rdiskP g m :: diskP d m :: rdiskP q m :: [snap w]) := own_perm hO (by
    refine List.Perm.trans (perm_at (k := 2) rfl) (List.Perm.cons _ (List.Perm.cons _ ?_))
    exact List.Perm.swap _ _ _)
  go_loopw [10] (fun kv wr => ∃ (k : Nat) (mf : List Blk), k ≤ es.length ∧ k ≤ 20 ∧ kv = .int .i64 k ∧ mf.length = 6 ∧ Lim (60 + k) mf ∧ Own wr (diskP f mf :: rdiskP g mf :: diskP d m :: rdiskP q m :: [snap w]) ∧ Same w wr) (fun kv _ => es.length - (intOf kv).toNat)
  case atStart => exact ⟨0, m, Nat.zero_le _, Nat.zero_le _, rfl, HM.out.1, HM.out.2, hO, hS⟩
  case round =>
    clear hO hS
    obtain ⟨k, mf, hk, hk20, rfl, hm6, hml, hO, hS⟩ := hrel
    have HK : Hid (mf.length = 6 ∧ Lim (60 + k) mf) := ⟨hm6, hml⟩
    clear hm6 hml
    by_cases hgo : k < es.length ∧ k < 20
    · obtain ⟨hlt, h20⟩ := hgo
      have f1 : decide (k < 20) = true := by simpa using h20
      have f2 : (k : Int) < 20 := by omega
      have f3 : (k : Int) < es.length := by omega
      obtain ⟨x, hx⟩ : ∃ x, es[k]? = some x := ⟨_, List.getElem?_eq_getElem hlt⟩
      have hr1 : Rd wr 5 (.slice A1 es.length c1) es.length (cellsX es) := rd_snapD HA1.out.rd1 (own_at hO (k := 4) rfl)
      obtain ⟨ad, rfl⟩ := hr1.addr (by rw [cellsX_length]; omega)
      have HC : Hid (∀ (j : Nat) (u : Value), x.cells[j]? = some u → wr.cell? ((ad.add (k * 5)).add j) = some u) := ddeed_cells hr1 hx
      have HDA : Hid (∀ w', Own w' (diskP d m :: rdiskP q m :: [snap w]) → x.At w') := Lib.hid fun w' h => ddk (HA1.out.at_ x (List.mem_of_getElem? hx)) (fun i o hi => own_kept (own_at h (k := 2) rfl) i o hi)
      have HL6 : Hid (0 < mf.length ∧ Lim 1000000 mf) := ⟨by have := HK.out.1; omega, fun b hb => by have := HK.out.2 b hb; omega⟩
      clear hx hr1
      go_wp2_with (first | (refine own_loadrow_at (ad := ad.add (k * 5)) (vs := x.cells) rfl rfl rfl row_ddeed sz_ddeed rfl HC.out ?_) | (go_at_call 26; (with_reducible refine Calls.mono (do_d _ _ f g mf x hO HL6.out.1 HL6.out.2 HDA.out) ?_); clear hO; rintro e u ⟨m', hg, rfl, hO, hSn⟩; replace hS := hS.trans hSn; clear hSn; have HG := Lib.hid hg; clear hg))
      go_roundw
      case rel => exact ⟨k + 1, m', by omega, by omega, by go_num, by rw [HG.out.len]; exact HK.out.1, HG.out.lim (60 + k) HK.out.2, hO, hS⟩
      case measure => simp [intOf]; omega
    · have hO := swap4 hO
      by_cases hlt : k < es.length
      · have hk3 : k = 20 := by omega
        subst hk3
        have f3 : (20 : Int) < es.length := by omega
        clear hgo hlt
        go_wp2_with (first | (go_at_call 15; (with_reducible refine Calls.mono (same_d _ _ d q m hO) ?_); clear hO; rintro e u ⟨rfl, hO, hSn⟩; replace hS := hS.trans hSn; clear hSn; replace hO := swap4 hO) | (go_at_call 15; (with_reducible refine Calls.mono (same_d _ _ f g mf hO) ?_); clear hO; rintro e u ⟨rfl, hO, hSn⟩; replace hS := hS.trans hSn; clear hSn))
        go_ret
        exact ⟨rfl, below_of (own_at hO (k := 4) rfl) hS⟩
      · have hke : k = es.length := by omega
        subst hke
        clear hgo hlt
        go_wp2_with (first | (go_at_call 15; (with_reducible refine Calls.mono (same_d _ _ d q m hO) ?_); clear hO; rintro e u ⟨rfl, hO, hSn⟩; replace hS := hS.trans hSn; clear hSn; replace hO := swap4 hO) | (go_at_call 15; (with_reducible refine Calls.mono (same_d _ _ f g mf hO) ?_); clear hO; rintro e u ⟨rfl, hO, hSn⟩; replace hS := hS.trans hSn; clear hSn))
        go_ret
        exact ⟨rfl, below_of (own_at hO (k := 4) rfl) hS⟩
theorem crashL_none : ∀ (m : List Blk) (k : Nat), crashL (pickV []) k m = m.map fun b => ⟨b.s, [], b.bad⟩
  | [], _ => rfl
  | b :: r, k => by
    unfold crashL
    by_cases h : b.vs = []
    · rw [if_pos h, crashL_none r k]
      obtain ⟨s, vs, bad⟩ := b
      have h : vs = [] := h
      subst h
      rfl
    · rw [if_neg h, crashL_none r (k + 1)]
      have e : sett (pickV [] k b.vs.length) b = b.s := by
        unfold sett
        rw [if_neg (fun h => by have := h.1; simp [pickV] at this)]
      rw [e]
      rfl
/-- The same lasts. -/
def SameS (m mk : List Blk) : Prop := mk.map (·.s) = m.map (·.s)
theorem SameS.at_ {m mk : List Blk} (h : SameS m mk) {i : Nat} {b : Blk} (hb : m[i]? = some b) : ∃ b', mk[i]? = some b' ∧ b'.s = b.s := by
  have h1 : (m.map (·.s))[i]? = some b.s := by rw [List.getElem?_map, hb]; rfl
  rw [← h, List.getElem?_map, Option.map_eq_some_iff] at h1
  exact h1
set_option maxHeartbeats 6400000 in
theorem lasts_law (w : World) (A0 : Option Addr) (n0 c0 : Nat) (ds : List DDeed) (h : ArgX w A0 n0 c0 ds) (A1 : Option Addr) (n1 c1 : Nat) (es : List DDeed) (h1 : ArgX w A1 n1 c1 es) :
    Calls Try.prog 7 #[.slice A0 n0 c0, .slice A1 n1 c1] w (fun e w' => e = .returned (.bool true) ∧ Below w.heap.size w w') := by
  have hl1 := h1.hl1
  subst hl1
  have HA := Lib.hid h
  have HA1 := Lib.hid h1
  have hO : Own w [snap w] := own_snap
  have hS := Same.refl w
  have hmx1 := h1.rd1.max
  clear h h1
  go_enter Try.func7, Try.ntmps7
  go_wp2_with (first | (go_at_call 16; (with_reducible refine Calls.mono (play_ds _ _ 5 (by decide) _ _ _ ds HA.out _ hO) ?_); clear hO; rintro e u ⟨d, q, m, hm, hl, hu, rfl, hO, hSn⟩; replace hS := hS.trans hSn; clear hSn; have HM : Hid (m.length = 6 ∧ Lim 60 m) := ⟨hm, hl⟩; clear hm hl hu) | (go_at_call 13; (with_reducible refine Calls.mono (live4_c _ _ hO) ?_); clear hO; rintro e u ⟨rfl, hO, hSn⟩; replace hS := hS.trans hSn; clear hSn) | (go_at_call 24; (with_reducible refine Calls.mono (fork_ok _ _ d m hO (by have := HM.out.1; omega) (fun b hb => Nat.le_trans (HM.out.2 b hb) (by decide))) ?_); clear hO; rintro e u ⟨f, rfl, hO, hSn⟩; replace hS := hS.trans hSn; clear hSn))
  obtain ⟨hs32, _⟩ := s32_of hO
  have HS32 := Lib.hid hs32
  clear hs32
  have hO : Own u (diskP d m :: diskP f m :: rdiskP q m :: [snap w]) := own_perm hO (List.Perm.swap _ _ _)
  go_loopw [9] (fun kv wr => ∃ (k : Nat) (mk : List Blk), k ≤ es.length ∧ k ≤ 40 ∧ kv = .int .i64 k ∧ SameS m mk ∧ Lim (60 + k) mk ∧ Own wr (diskP d mk :: diskP f m :: rdiskP q m :: [snap w]) ∧ Same w wr) (fun kv _ => es.length - (intOf kv).toNat)
  case atStart => exact ⟨0, m, Nat.zero_le _, Nat.zero_le _, rfl, rfl, HM.out.2, hO, hS⟩
  case round =>
    clear hO hS
    obtain ⟨k, mk, hk, hk40, rfl, hss, hml, hO, hS⟩ := hrel
    have HK : Hid (SameS m mk ∧ Lim (60 + k) mk) := ⟨hss, hml⟩
    clear hss hml
    by_cases hgo : k < es.length ∧ k < 40
    · obtain ⟨hlt, h40⟩ := hgo
      have f1 : decide (k < 40) = true := by simpa using h40
      have f2 : (k : Int) < 40 := by omega
      have f3 : (k : Int) < es.length := by omega
      obtain ⟨x, hx⟩ : ∃ x, es[k]? = some x := ⟨_, List.getElem?_eq_getElem hlt⟩
      have hr1 : ∀ w' L, Own w' (snap w :: L) → Rd w' 5 (.slice A1 es.length c1) es.length (cellsX es) := fun w' L h => rd_snapD HA1.out.rd1 h
      obtain ⟨ad, rfl⟩ := (hr1 _ _ (own_at hO (k := 3) rfl)).addr (by rw [cellsX_length]; omega)
      have HC : Hid (∀ w' L, Own w' (snap w :: L) → ∀ (j : Nat) (u : Value), x.cells[j]? = some u → w'.cell? ((ad.add (k * 5)).add j) = some u) := Lib.hid fun w' L h => ddeed_cells (hr1 _ _ h) hx
      have HXI : Hid (∀ L w', Own w' (snap w :: L) → w'.cell? ((ad.add (k * 5)).add 1) = some (.int .i64 x.i)) := Lib.hid fun L w' h => HC.out w' L h 1 _ rfl
      have HXC : Hid (∀ L w', Own w' (snap w :: L) → w'.cell? ((ad.add (k * 5)).add 2) = some (.int .u8 (x.c.toNat : Int))) := Lib.hid fun L w' h => HC.out w' L h 2 _ rfl
      have HSN : Hid (∀ (A B C : HP) (L : List HP) w', Own w' (A :: B :: C :: snap w :: L) → ∃ L', Own w' (snap w :: L')) := Lib.hid fun A B C L w' h => ⟨_, own_at h (k := 3) rfl⟩
      have hW : ∃ (e : Int) (mk2 : List Blk), (∀ (w : World) (L : List HP), Own w (diskP d mk :: L) → Calls Try.prog 19 #[.pointer (some ⟨d, 0, none⟩), .int .i64 x.i, secV (sec x.c)] w (Ret w (.int .i64 e) (diskP d mk2 :: L))) ∧ SameS m mk2 ∧ Lim (60 + (k + 1)) mk2 := by
        rcases dcases mk x.i with ⟨j, b, hj, hb⟩ | hno
        · cases hbad : b.bad with
          | true => exact ⟨10, mk, fun w L h => by rw [hj]; exact write_bad w L d mk j b _ h hb hbad, HK.out.1, fun b hb => Nat.le_succ_of_le (HK.out.2 b hb)⟩
          | false => exact ⟨0, mk.set j (b.wr (sec x.c)), fun w L h => by rw [hj]; exact write_ok w L d mk j b _ h hb hbad (by simp) (Nat.le_trans (HK.out.2 b (List.mem_of_getElem? hb)) (by omega)), by show _ = _; rw [map_set_s (b' := b.wr (sec x.c)) hb rfl]; exact HK.out.1, (gd_write hb x.c).lim (60 + k) HK.out.2⟩
        · exact ⟨2, mk, fun w L h => write_no w L d mk _ _ h hno, HK.out.1, fun b hb => Nat.le_succ_of_le (HK.out.2 b hb)⟩
      obtain ⟨e, mk2, hw1, hw2, hw3⟩ := hW
      have HW := Lib.hid hw1
      have HK2 : Hid (SameS m mk2 ∧ Lim (60 + (k + 1)) mk2) := ⟨hw2, hw3⟩
      clear hx hr1 hw1 hw2 hw3
      go_upto_region 8 with fail
      refine wp_region_seq (Cls _ (_)) 12 105 mixed (by kernel_rfl) rfl (cls_drew hO) ?_
      simp only [List.append_eq, List.cons_append, List.nil_append, List.take_succ_cons, List.take_zero]
      repeat (first
        | (apply wv_skip rfl; simp only [Act.put, List.setIfInBounds_toArray, List.set_cons_zero, List.set_cons_succ])
        | (refine wv_load1_at (ad := (ad.add (k * 5)).add 1) (v := .int .i64 x.i) rfl rfl rfl row_int (fun w h => by obtain ⟨L', h'⟩ := HSN.out _ _ _ _ _ h.1; exact HXI.out _ _ h') ?_; simp only [Act.put, List.setIfInBounds_toArray, List.set_cons_zero, List.set_cons_succ])
        | (refine wv_load1_at (ad := (ad.add (k * 5)).add 2) (v := .int .u8 (x.c.toNat : Int)) rfl rfl rfl row_u8D (fun w h => by obtain ⟨L', h'⟩ := HSN.out _ _ _ _ _ h.1; exact HXC.out _ _ h') ?_; simp only [Act.put, List.setIfInBounds_toArray, List.set_cons_zero, List.set_cons_succ])
        | (apply wv_load1 rfl rfl rfl; (first | exact row_int | exact row_str | exact row_bool | exact row_u8 | exact row_bys | exact row_pats | exact row_err); (intro w h; (first | exact own_get 0 h.1 rfl | exact own_get 1 h.1 rfl | exact own_get 2 h.1 rfl | exact own_get 3 h.1 rfl | exact own_get 4 h.1 rfl | exact own_get 5 h.1 rfl | exact own_get 6 h.1 rfl | exact own_get 7 h.1 rfl)); (first | (simp only [List.getElem?_toArray, List.getElem?_cons_succ, List.getElem?_cons_zero]; rfl) | rfl); simp only [Act.put, List.setIfInBounds_toArray, List.set_cons_zero, List.set_cons_succ])
        | (apply wv_loadrow rfl rfl rfl; (first | exact row_pat); exact sz_pat; (intro w h; (first | exact own_get 0 h.1 rfl | exact own_get 1 h.1 rfl | exact own_get 2 h.1 rfl | exact own_get 3 h.1 rfl | exact own_get 4 h.1 rfl | exact own_get 5 h.1 rfl | exact own_get 6 h.1 rfl | exact own_get 7 h.1 rfl)); (focus (simp; done)); (first | (simp only [List.drop_zero, List.drop_succ_cons, List.take_succ_cons, List.take_zero]; rfl) | rfl); simp only [Act.put, List.setIfInBounds_toArray, List.set_cons_zero, List.set_cons_succ])
        | (apply wv_run rfl; (focus (intro w h; go_simp; first | done | rfl)); simp only [Act.put, List.setIfInBounds_toArray, List.set_cons_zero, List.set_cons_succ])
        | (apply wv_call rfl; (focus (intro w; go_simp; first | done | exact ⟨rfl, rfl⟩)); (focus (intro w h; apply cls_call h; (first | exact sector_c _ _ x.c h.1))); simp only [Act.put, List.setIfInBounds_toArray, List.set_cons_zero, List.set_cons_succ]))
      refine wv_nil ?_
      simp only [List.drop_succ_cons, List.drop_zero]
      intro w10 ⟨hO10, hS10⟩
      replace hS := hS.trans hS10
      clear hO hS10
      refine ev_call rfl (by go_simp; first | done | exact ⟨rfl, rfl⟩) ?_
      refine Calls.mono (HW.out _ _ hO10) ?_
      rintro e2 w11 ⟨rfl, hO, hS11⟩
      refine ⟨_, rfl, wpList_nil ?_⟩
      replace hS := hS.trans hS11
      clear hO10 hS11
      simp only [Act.put, List.setIfInBounds_toArray, List.set_cons_zero, List.set_cons_succ]
      try simp only [Exit.then]
      go_wp2
      go_roundw
      case rel => exact ⟨k + 1, mk2, by omega, by omega, by go_num, HK2.out.1, HK2.out.2, hO, hS⟩
      case measure => simp [intOf]; omega
    · obtain ⟨mc, hmc⟩ : ∃ mc, mc = crashL (pickV []) 0 mk := ⟨_, rfl⟩
      have hlen : mk.length = m.length := by have := congrArg List.length HK.out.1; simpa using this
      have HCR : Hid (∀ (w' : World) (L : List HP), Own w' (diskP d mk :: L) → Calls Try.prog 20 #[.pointer (some ⟨d, 0, none⟩), .slice none 0 0] w' (Ret w' (.int .i64 0) (diskP d mc :: L))) := Lib.hid fun w' L h => by
        rw [hmc]
        exact crash_c w' L d mk _ [] h (by have := HM.out.1; omega) (fun b hb => Nat.le_trans (HK.out.2 b hb) (by omega)) (fun w2 h2 => rd_nil _ _)
      have HMC : Hid (∀ (i : Nat) (b : Blk), m[i]? = some b → ∃ b', mc[i]? = some b' ∧ b'.now = b.s) := Lib.hid fun i b hb => by
        obtain ⟨b', h1, h2⟩ := HK.out.1.at_ hb
        rw [hmc, crashL_none]
        exact ⟨⟨b'.s, [], b'.bad⟩, by rw [List.getElem?_map, h1]; rfl, h2⟩
      clear hmc hlen
      by_cases hlt : k < es.length
      · have f1 : decide (k < 40) = false := decide_eq_false (by omega)
        have f2 : ¬ ((k : Int) < 40) := by omega
        have f3 : (k : Int) < es.length := by omega
        clear hgo hlt
        go_wp2
        go_loopw [10] (fun iv wr => ∃ i : Nat, i ≤ 6 ∧ iv = .int .i64 i ∧ Own wr (diskP d mk :: diskP f m :: rdiskP q m :: [snap w]) ∧ Same w wr) (fun iv _ => 6 - (intOf iv).toNat)
        case atStart => exact ⟨0, Nat.zero_le _, rfl, hO, hS⟩
        case round =>
          clear hO hS
          obtain ⟨i, hi, rfl, hO, hS⟩ := hrel
          by_cases hlt : i < 6
          · have hi1 : (i : Int) < 6 := by omega
            obtain ⟨b, hb⟩ : ∃ b, m[i]? = some b := ⟨_, List.getElem?_eq_getElem (by have := HM.out.1; omega)⟩
            obtain ⟨b', hb', hbs⟩ := HK.out.1.at_ hb
            obtain ⟨s, hse⟩ : ∃ s, s = b.s := ⟨_, rfl⟩
            have HL1 : Hid (s.length = 32) := by show _ = _; rw [hse]; exact (HS32.out b (List.mem_of_getElem? hb)).1
            have HLD : Hid (∀ (w : World) (L : List HP), Own w (diskP d mk :: L) → Calls Try.prog 18 #[.pointer (some ⟨d, 0, none⟩), .int .i64 (i : Int)] w (Ret w (.tuple #[secV s, .int .i64 0]) (diskP d mk :: L))) := Lib.hid fun w L h => by rw [hse, ← hbs]; exact lasting_ok w L d mk i b' h hb'
            have HLF : Hid (∀ (w : World) (L : List HP), Own w (diskP f m :: L) → Calls Try.prog 18 #[.pointer (some ⟨f, 0, none⟩), .int .i64 (i : Int)] w (Ret w (.tuple #[secV s, .int .i64 0]) (diskP f m :: L))) := Lib.hid fun w L h => by rw [hse]; exact lasting_ok w L f m i b h hb
            obtain ⟨i0, hi0⟩ := u8_info
            have HE1 : Hid (∀ w', (Op.equalIn 10000 26 (secV s) (secV s)).run Try.prog w' = .ok true w') := Lib.hid fun w' => by
              have h := eq_sec w' (n := 0) und_sec hi0 9998 HL1.out HL1.out
              simpa using h
            clear hb hb' hbs hse hi0
            go_upto_region 13 with (first | (go_at_call 18; (with_reducible refine Calls.mono (call_at 0 (fun L' h => HLD.out _ L' h) rfl hO) ?_); clear hO; rintro e u ⟨rfl, hO, hSn⟩; replace hS := hS.trans hSn; clear hSn; simp only [List.set_cons_zero, List.set_cons_succ] at hO) | (refine own_alloc (T := 26) rfl rfl zero_sec rfl hO ?_; clear hO; intro g1 u hO hSn; replace hS := hS.trans hSn; clear hSn) | (refine own_store_all (k := 0) rfl rfl rfl rfl sz_sec hO rfl (secA_size HL1.out) (by rfl) (bcs_all _) ?_; clear hO; intro u hO hSn; replace hS := hS.trans hSn; clear hSn; simp only [List.set_cons_zero, List.set_cons_succ] at hO))
            go_upto_region 14 with (first | (go_at_call 18; (with_reducible refine Calls.mono (call_at 2 (fun L' h => HLF.out _ L' h) rfl hO) ?_); clear hO; rintro e u ⟨rfl, hO, hSn⟩; replace hS := hS.trans hSn; clear hSn; simp only [List.set_cons_zero, List.set_cons_succ] at hO) | (refine own_alloc (T := 26) rfl rfl zero_sec rfl hO ?_; clear hO; intro g2 u hO hSn; replace hS := hS.trans hSn; clear hSn) | (refine own_store_all (k := 0) rfl rfl rfl rfl sz_sec hO rfl (secA_size HL1.out) (by rfl) (bcs_all _) ?_; clear hO; intro u hO hSn; replace hS := hS.trans hSn; clear hSn; simp only [List.set_cons_zero, List.set_cons_succ] at hO))
            refine wp_plain_seq (Cls _ (_)) 11 (cls_here hO) ?_
            simp only [List.append_eq, List.cons_append, List.nil_append, List.take_succ_cons, List.take_zero]
            repeat (first
              | (apply wv_skip rfl; simp only [Act.put, List.setIfInBounds_toArray, List.set_cons_zero, List.set_cons_succ])
              | (apply wv_load1 rfl rfl rfl; (first | exact row_int | exact row_str | exact row_bool | exact row_u8 | exact row_bys | exact row_pats | exact row_err); (intro w h; (first | exact own_get 0 h.1 rfl | exact own_get 1 h.1 rfl | exact own_get 2 h.1 rfl | exact own_get 3 h.1 rfl | exact own_get 4 h.1 rfl | exact own_get 5 h.1 rfl | exact own_get 6 h.1 rfl | exact own_get 7 h.1 rfl)); (first | (simp only [List.getElem?_toArray, List.getElem?_cons_succ, List.getElem?_cons_zero]; rfl) | rfl); simp only [Act.put, List.setIfInBounds_toArray, List.set_cons_zero, List.set_cons_succ])
              | (apply wv_loadrow rfl rfl rfl; (first | exact row_pat); exact sz_pat; (intro w h; (first | exact own_get 0 h.1 rfl | exact own_get 1 h.1 rfl | exact own_get 2 h.1 rfl | exact own_get 3 h.1 rfl | exact own_get 4 h.1 rfl | exact own_get 5 h.1 rfl | exact own_get 6 h.1 rfl | exact own_get 7 h.1 rfl)); (focus (simp; done)); (first | (simp only [List.drop_zero, List.drop_succ_cons, List.take_succ_cons, List.take_zero]; rfl) | rfl); simp only [Act.put, List.setIfInBounds_toArray, List.set_cons_zero, List.set_cons_succ])
              | (refine wv_loadrow (b := g1) (off := 0) (cs := (bcs s).toArray) (t := 26) (vs := bcs s) rfl rfl rfl row_sec sz_sec (fun w h => own_get 1 h.1 rfl) (by simp [bcs_length, HL1.out]) (by rw [List.drop_zero]; exact List.take_of_length_le (by simp [bcs_length, HL1.out])) ?_; simp only [Act.put, List.setIfInBounds_toArray, List.set_cons_zero, List.set_cons_succ])
              | (refine wv_loadrow (b := g2) (off := 0) (cs := (bcs s).toArray) (t := 26) (vs := bcs s) rfl rfl rfl row_sec sz_sec (fun w h => own_get 0 h.1 rfl) (by simp [bcs_length, HL1.out]) (by rw [List.drop_zero]; exact List.take_of_length_le (by simp [bcs_length, HL1.out])) ?_; simp only [Act.put, List.setIfInBounds_toArray, List.set_cons_zero, List.set_cons_succ])
              | (apply wv_run rfl; (focus (intro w h; go_simp; simp only [HE1.out w]; first | done | rfl)); simp only [Act.put, List.setIfInBounds_toArray, List.set_cons_zero, List.set_cons_succ])
              | (apply wv_run rfl; (focus (intro w h; go_simp; first | done | rfl)); simp only [Act.put, List.setIfInBounds_toArray, List.set_cons_zero, List.set_cons_succ])
              | (apply wv_call rfl; (focus (intro w; go_simp; first | done | exact ⟨rfl, rfl⟩)); (focus (intro w h; apply cls_call h; fail)); simp only [Act.put, List.setIfInBounds_toArray, List.set_cons_zero, List.set_cons_succ]))
            refine wv_nil ?_
            simp only [List.drop_succ_cons, List.drop_zero]
            intro w9 ⟨hO9, hS9⟩
            clear hO
            have hO := own_drop (own_drop hO9)
            replace hS := hS.trans hS9
            clear hO9 hS9
            go_wp2
            go_roundw
            case rel => exact ⟨i + 1, by omega, by go_num, hO, hS⟩
            case measure => simp [intOf]; omega
          · have hie : i = 6 := by omega
            subst hie
            go_wp2_with (first | (go_at_call 20; (with_reducible refine Calls.mono (HCR.out _ _ hO) ?_); clear hO; rintro e u ⟨rfl, hO, hSn⟩; replace hS := hS.trans hSn; clear hSn))
            go_loopw [15] (fun iv wr => ∃ i : Nat, i ≤ 6 ∧ iv = .int .i64 i ∧ Own wr (diskP d mc :: diskP f m :: rdiskP q m :: [snap w]) ∧ Same w wr) (fun iv _ => 6 - (intOf iv).toNat)
            case atStart => exact ⟨0, Nat.zero_le _, rfl, hO, hS⟩
            case round =>
              clear hO hS
              obtain ⟨i, hi, rfl, hO, hS⟩ := hrel
              by_cases hlt : i < 6
              · have hi1 : (i : Int) < 6 := by omega
                obtain ⟨b, hb⟩ : ∃ b, m[i]? = some b := ⟨_, List.getElem?_eq_getElem (by have := HM.out.1; omega)⟩
                obtain ⟨b', hb', hbs⟩ := HMC.out i b hb
                obtain ⟨s, hse⟩ : ∃ s, s = b.s := ⟨_, rfl⟩
                have HL1 : Hid (s.length = 32) := by show _ = _; rw [hse]; exact (HS32.out b (List.mem_of_getElem? hb)).1
                have HLD : Hid (∀ (w : World) (L : List HP), Own w (diskP d mc :: L) → Calls Try.prog 21 #[.pointer (some ⟨d, 0, none⟩), .int .i64 (i : Int)] w (Ret w (.tuple #[secV s, .int .i64 0]) (diskP d mc :: L))) := Lib.hid fun w L h => by rw [hse, ← hbs]; exact read_ok w L d mc i b' h hb'
                have HLF : Hid (∀ (w : World) (L : List HP), Own w (diskP f m :: L) → Calls Try.prog 18 #[.pointer (some ⟨f, 0, none⟩), .int .i64 (i : Int)] w (Ret w (.tuple #[secV s, .int .i64 0]) (diskP f m :: L))) := Lib.hid fun w L h => by rw [hse]; exact lasting_ok w L f m i b h hb
                obtain ⟨i0, hi0⟩ := u8_info
                have HE1 : Hid (∀ w', (Op.equalIn 10000 26 (secV s) (secV s)).run Try.prog w' = .ok true w') := Lib.hid fun w' => by
                  have h := eq_sec w' (n := 0) und_sec hi0 9998 HL1.out HL1.out
                  simpa using h
                clear hb hb' hbs hse hi0
                go_upto_region 21 with (first | (go_at_call 21; (with_reducible refine Calls.mono (call_at 0 (fun L' h => HLD.out _ L' h) rfl hO) ?_); clear hO; rintro e u ⟨rfl, hO, hSn⟩; replace hS := hS.trans hSn; clear hSn; simp only [List.set_cons_zero, List.set_cons_succ] at hO) | (refine own_alloc (T := 26) rfl rfl zero_sec rfl hO ?_; clear hO; intro g1 u hO hSn; replace hS := hS.trans hSn; clear hSn) | (refine own_store_all (k := 0) rfl rfl rfl rfl sz_sec hO rfl (secA_size HL1.out) (by rfl) (bcs_all _) ?_; clear hO; intro u hO hSn; replace hS := hS.trans hSn; clear hSn; simp only [List.set_cons_zero, List.set_cons_succ] at hO))
                go_upto_region 22 with (first | (go_at_call 18; (with_reducible refine Calls.mono (call_at 2 (fun L' h => HLF.out _ L' h) rfl hO) ?_); clear hO; rintro e u ⟨rfl, hO, hSn⟩; replace hS := hS.trans hSn; clear hSn; simp only [List.set_cons_zero, List.set_cons_succ] at hO) | (refine own_alloc (T := 26) rfl rfl zero_sec rfl hO ?_; clear hO; intro g2 u hO hSn; replace hS := hS.trans hSn; clear hSn) | (refine own_store_all (k := 0) rfl rfl rfl rfl sz_sec hO rfl (secA_size HL1.out) (by rfl) (bcs_all _) ?_; clear hO; intro u hO hSn; replace hS := hS.trans hSn; clear hSn; simp only [List.set_cons_zero, List.set_cons_succ] at hO))
                refine wp_plain_seq (Cls _ (_)) 3 (cls_here hO) ?_
                simp only [List.append_eq, List.cons_append, List.nil_append, List.take_succ_cons, List.take_zero]
                repeat (first
                  | (apply wv_skip rfl; simp only [Act.put, List.setIfInBounds_toArray, List.set_cons_zero, List.set_cons_succ])
                  | (apply wv_load1 rfl rfl rfl; (first | exact row_int | exact row_str | exact row_bool | exact row_u8 | exact row_bys | exact row_pats | exact row_err); (intro w h; (first | exact own_get 0 h.1 rfl | exact own_get 1 h.1 rfl | exact own_get 2 h.1 rfl | exact own_get 3 h.1 rfl | exact own_get 4 h.1 rfl | exact own_get 5 h.1 rfl | exact own_get 6 h.1 rfl | exact own_get 7 h.1 rfl)); (first | (simp only [List.getElem?_toArray, List.getElem?_cons_succ, List.getElem?_cons_zero]; rfl) | rfl); simp only [Act.put, List.setIfInBounds_toArray, List.set_cons_zero, List.set_cons_succ])
                  | (apply wv_loadrow rfl rfl rfl; (first | exact row_pat); exact sz_pat; (intro w h; (first | exact own_get 0 h.1 rfl | exact own_get 1 h.1 rfl | exact own_get 2 h.1 rfl | exact own_get 3 h.1 rfl | exact own_get 4 h.1 rfl | exact own_get 5 h.1 rfl | exact own_get 6 h.1 rfl | exact own_get 7 h.1 rfl)); (focus (simp; done)); (first | (simp only [List.drop_zero, List.drop_succ_cons, List.take_succ_cons, List.take_zero]; rfl) | rfl); simp only [Act.put, List.setIfInBounds_toArray, List.set_cons_zero, List.set_cons_succ])
                  | (refine wv_loadrow (b := g1) (off := 0) (cs := (bcs s).toArray) (t := 26) (vs := bcs s) rfl rfl rfl row_sec sz_sec (fun w h => own_get 1 h.1 rfl) (by simp [bcs_length, HL1.out]) (by rw [List.drop_zero]; exact List.take_of_length_le (by simp [bcs_length, HL1.out])) ?_; simp only [Act.put, List.setIfInBounds_toArray, List.set_cons_zero, List.set_cons_succ])
                  | (refine wv_loadrow (b := g2) (off := 0) (cs := (bcs s).toArray) (t := 26) (vs := bcs s) rfl rfl rfl row_sec sz_sec (fun w h => own_get 0 h.1 rfl) (by simp [bcs_length, HL1.out]) (by rw [List.drop_zero]; exact List.take_of_length_le (by simp [bcs_length, HL1.out])) ?_; simp only [Act.put, List.setIfInBounds_toArray, List.set_cons_zero, List.set_cons_succ])
                  | (apply wv_run rfl; (focus (intro w h; go_simp; simp only [HE1.out w]; first | done | rfl)); simp only [Act.put, List.setIfInBounds_toArray, List.set_cons_zero, List.set_cons_succ])
                  | (apply wv_run rfl; (focus (intro w h; go_simp; first | done | rfl)); simp only [Act.put, List.setIfInBounds_toArray, List.set_cons_zero, List.set_cons_succ])
                  | (apply wv_call rfl; (focus (intro w; go_simp; first | done | exact ⟨rfl, rfl⟩)); (focus (intro w h; apply cls_call h; fail)); simp only [Act.put, List.setIfInBounds_toArray, List.set_cons_zero, List.set_cons_succ]))
                refine wv_nil ?_
                simp only [List.drop_succ_cons, List.drop_zero]
                intro w9 ⟨hO9, hS9⟩
                clear hO
                have hO := own_drop (own_drop hO9)
                replace hS := hS.trans hS9
                clear hO9 hS9
                go_wp2
                go_roundw
                case rel => exact ⟨i + 1, by omega, by go_num, hO, hS⟩
                case measure => simp [intOf]; omega
              · have hie : i = 6 := by omega
                subst hie
                go_wp2
                go_ret
                exact ⟨rfl, below_of (own_at hO (k := 3) rfl) hS⟩
      · have hke : k = es.length := by omega
        subst hke
        clear hgo hlt
        go_wp2
        go_loopw [10] (fun iv wr => ∃ i : Nat, i ≤ 6 ∧ iv = .int .i64 i ∧ Own wr (diskP d mk :: diskP f m :: rdiskP q m :: [snap w]) ∧ Same w wr) (fun iv _ => 6 - (intOf iv).toNat)
        case atStart => exact ⟨0, Nat.zero_le _, rfl, hO, hS⟩
        case round =>
          clear hO hS
          obtain ⟨i, hi, rfl, hO, hS⟩ := hrel
          by_cases hlt : i < 6
          · have hi1 : (i : Int) < 6 := by omega
            obtain ⟨b, hb⟩ : ∃ b, m[i]? = some b := ⟨_, List.getElem?_eq_getElem (by have := HM.out.1; omega)⟩
            obtain ⟨b', hb', hbs⟩ := HK.out.1.at_ hb
            obtain ⟨s, hse⟩ : ∃ s, s = b.s := ⟨_, rfl⟩
            have HL1 : Hid (s.length = 32) := by show _ = _; rw [hse]; exact (HS32.out b (List.mem_of_getElem? hb)).1
            have HLD : Hid (∀ (w : World) (L : List HP), Own w (diskP d mk :: L) → Calls Try.prog 18 #[.pointer (some ⟨d, 0, none⟩), .int .i64 (i : Int)] w (Ret w (.tuple #[secV s, .int .i64 0]) (diskP d mk :: L))) := Lib.hid fun w L h => by rw [hse, ← hbs]; exact lasting_ok w L d mk i b' h hb'
            have HLF : Hid (∀ (w : World) (L : List HP), Own w (diskP f m :: L) → Calls Try.prog 18 #[.pointer (some ⟨f, 0, none⟩), .int .i64 (i : Int)] w (Ret w (.tuple #[secV s, .int .i64 0]) (diskP f m :: L))) := Lib.hid fun w L h => by rw [hse]; exact lasting_ok w L f m i b h hb
            obtain ⟨i0, hi0⟩ := u8_info
            have HE1 : Hid (∀ w', (Op.equalIn 10000 26 (secV s) (secV s)).run Try.prog w' = .ok true w') := Lib.hid fun w' => by
              have h := eq_sec w' (n := 0) und_sec hi0 9998 HL1.out HL1.out
              simpa using h
            clear hb hb' hbs hse hi0
            go_upto_region 13 with (first | (go_at_call 18; (with_reducible refine Calls.mono (call_at 0 (fun L' h => HLD.out _ L' h) rfl hO) ?_); clear hO; rintro e u ⟨rfl, hO, hSn⟩; replace hS := hS.trans hSn; clear hSn; simp only [List.set_cons_zero, List.set_cons_succ] at hO) | (refine own_alloc (T := 26) rfl rfl zero_sec rfl hO ?_; clear hO; intro g1 u hO hSn; replace hS := hS.trans hSn; clear hSn) | (refine own_store_all (k := 0) rfl rfl rfl rfl sz_sec hO rfl (secA_size HL1.out) (by rfl) (bcs_all _) ?_; clear hO; intro u hO hSn; replace hS := hS.trans hSn; clear hSn; simp only [List.set_cons_zero, List.set_cons_succ] at hO))
            go_upto_region 14 with (first | (go_at_call 18; (with_reducible refine Calls.mono (call_at 2 (fun L' h => HLF.out _ L' h) rfl hO) ?_); clear hO; rintro e u ⟨rfl, hO, hSn⟩; replace hS := hS.trans hSn; clear hSn; simp only [List.set_cons_zero, List.set_cons_succ] at hO) | (refine own_alloc (T := 26) rfl rfl zero_sec rfl hO ?_; clear hO; intro g2 u hO hSn; replace hS := hS.trans hSn; clear hSn) | (refine own_store_all (k := 0) rfl rfl rfl rfl sz_sec hO rfl (secA_size HL1.out) (by rfl) (bcs_all _) ?_; clear hO; intro u hO hSn; replace hS := hS.trans hSn; clear hSn; simp only [List.set_cons_zero, List.set_cons_succ] at hO))
            refine wp_plain_seq (Cls _ (_)) 11 (cls_here hO) ?_
            simp only [List.append_eq, List.cons_append, List.nil_append, List.take_succ_cons, List.take_zero]
            repeat (first
              | (apply wv_skip rfl; simp only [Act.put, List.setIfInBounds_toArray, List.set_cons_zero, List.set_cons_succ])
              | (apply wv_load1 rfl rfl rfl; (first | exact row_int | exact row_str | exact row_bool | exact row_u8 | exact row_bys | exact row_pats | exact row_err); (intro w h; (first | exact own_get 0 h.1 rfl | exact own_get 1 h.1 rfl | exact own_get 2 h.1 rfl | exact own_get 3 h.1 rfl | exact own_get 4 h.1 rfl | exact own_get 5 h.1 rfl | exact own_get 6 h.1 rfl | exact own_get 7 h.1 rfl)); (first | (simp only [List.getElem?_toArray, List.getElem?_cons_succ, List.getElem?_cons_zero]; rfl) | rfl); simp only [Act.put, List.setIfInBounds_toArray, List.set_cons_zero, List.set_cons_succ])
              | (apply wv_loadrow rfl rfl rfl; (first | exact row_pat); exact sz_pat; (intro w h; (first | exact own_get 0 h.1 rfl | exact own_get 1 h.1 rfl | exact own_get 2 h.1 rfl | exact own_get 3 h.1 rfl | exact own_get 4 h.1 rfl | exact own_get 5 h.1 rfl | exact own_get 6 h.1 rfl | exact own_get 7 h.1 rfl)); (focus (simp; done)); (first | (simp only [List.drop_zero, List.drop_succ_cons, List.take_succ_cons, List.take_zero]; rfl) | rfl); simp only [Act.put, List.setIfInBounds_toArray, List.set_cons_zero, List.set_cons_succ])
              | (refine wv_loadrow (b := g1) (off := 0) (cs := (bcs s).toArray) (t := 26) (vs := bcs s) rfl rfl rfl row_sec sz_sec (fun w h => own_get 1 h.1 rfl) (by simp [bcs_length, HL1.out]) (by rw [List.drop_zero]; exact List.take_of_length_le (by simp [bcs_length, HL1.out])) ?_; simp only [Act.put, List.setIfInBounds_toArray, List.set_cons_zero, List.set_cons_succ])
              | (refine wv_loadrow (b := g2) (off := 0) (cs := (bcs s).toArray) (t := 26) (vs := bcs s) rfl rfl rfl row_sec sz_sec (fun w h => own_get 0 h.1 rfl) (by simp [bcs_length, HL1.out]) (by rw [List.drop_zero]; exact List.take_of_length_le (by simp [bcs_length, HL1.out])) ?_; simp only [Act.put, List.setIfInBounds_toArray, List.set_cons_zero, List.set_cons_succ])
              | (apply wv_run rfl; (focus (intro w h; go_simp; simp only [HE1.out w]; first | done | rfl)); simp only [Act.put, List.setIfInBounds_toArray, List.set_cons_zero, List.set_cons_succ])
              | (apply wv_run rfl; (focus (intro w h; go_simp; first | done | rfl)); simp only [Act.put, List.setIfInBounds_toArray, List.set_cons_zero, List.set_cons_succ])
              | (apply wv_call rfl; (focus (intro w; go_simp; first | done | exact ⟨rfl, rfl⟩)); (focus (intro w h; apply cls_call h; fail)); simp only [Act.put, List.setIfInBounds_toArray, List.set_cons_zero, List.set_cons_succ]))
            refine wv_nil ?_
            simp only [List.drop_succ_cons, List.drop_zero]
            intro w9 ⟨hO9, hS9⟩
            clear hO
            have hO := own_drop (own_drop hO9)
            replace hS := hS.trans hS9
            clear hO9 hS9
            go_wp2
            go_roundw
            case rel => exact ⟨i + 1, by omega, by go_num, hO, hS⟩
            case measure => simp [intOf]; omega
          · have hie : i = 6 := by omega
            subst hie
            go_wp2_with (first | (go_at_call 20; (with_reducible refine Calls.mono (HCR.out _ _ hO) ?_); clear hO; rintro e u ⟨rfl, hO, hSn⟩; replace hS := hS.trans hSn; clear hSn))
            go_loopw [15] (fun iv wr => ∃ i : Nat, i ≤ 6 ∧ iv = .int .i64 i ∧ Own wr (diskP d mc :: diskP f m :: rdiskP q m :: [snap w]) ∧ Same w wr) (fun iv _ => 6 - (intOf iv).toNat)
            case atStart => exact ⟨0, Nat.zero_le _, rfl, hO, hS⟩
            case round =>
              clear hO hS
              obtain ⟨i, hi, rfl, hO, hS⟩ := hrel
              by_cases hlt : i < 6
              · have hi1 : (i : Int) < 6 := by omega
                obtain ⟨b, hb⟩ : ∃ b, m[i]? = some b := ⟨_, List.getElem?_eq_getElem (by have := HM.out.1; omega)⟩
                obtain ⟨b', hb', hbs⟩ := HMC.out i b hb
                obtain ⟨s, hse⟩ : ∃ s, s = b.s := ⟨_, rfl⟩
                have HL1 : Hid (s.length = 32) := by show _ = _; rw [hse]; exact (HS32.out b (List.mem_of_getElem? hb)).1
                have HLD : Hid (∀ (w : World) (L : List HP), Own w (diskP d mc :: L) → Calls Try.prog 21 #[.pointer (some ⟨d, 0, none⟩), .int .i64 (i : Int)] w (Ret w (.tuple #[secV s, .int .i64 0]) (diskP d mc :: L))) := Lib.hid fun w L h => by rw [hse, ← hbs]; exact read_ok w L d mc i b' h hb'
                have HLF : Hid (∀ (w : World) (L : List HP), Own w (diskP f m :: L) → Calls Try.prog 18 #[.pointer (some ⟨f, 0, none⟩), .int .i64 (i : Int)] w (Ret w (.tuple #[secV s, .int .i64 0]) (diskP f m :: L))) := Lib.hid fun w L h => by rw [hse]; exact lasting_ok w L f m i b h hb
                obtain ⟨i0, hi0⟩ := u8_info
                have HE1 : Hid (∀ w', (Op.equalIn 10000 26 (secV s) (secV s)).run Try.prog w' = .ok true w') := Lib.hid fun w' => by
                  have h := eq_sec w' (n := 0) und_sec hi0 9998 HL1.out HL1.out
                  simpa using h
                clear hb hb' hbs hse hi0
                go_upto_region 21 with (first | (go_at_call 21; (with_reducible refine Calls.mono (call_at 0 (fun L' h => HLD.out _ L' h) rfl hO) ?_); clear hO; rintro e u ⟨rfl, hO, hSn⟩; replace hS := hS.trans hSn; clear hSn; simp only [List.set_cons_zero, List.set_cons_succ] at hO) | (refine own_alloc (T := 26) rfl rfl zero_sec rfl hO ?_; clear hO; intro g1 u hO hSn; replace hS := hS.trans hSn; clear hSn) | (refine own_store_all (k := 0) rfl rfl rfl rfl sz_sec hO rfl (secA_size HL1.out) (by rfl) (bcs_all _) ?_; clear hO; intro u hO hSn; replace hS := hS.trans hSn; clear hSn; simp only [List.set_cons_zero, List.set_cons_succ] at hO))
                go_upto_region 22 with (first | (go_at_call 18; (with_reducible refine Calls.mono (call_at 2 (fun L' h => HLF.out _ L' h) rfl hO) ?_); clear hO; rintro e u ⟨rfl, hO, hSn⟩; replace hS := hS.trans hSn; clear hSn; simp only [List.set_cons_zero, List.set_cons_succ] at hO) | (refine own_alloc (T := 26) rfl rfl zero_sec rfl hO ?_; clear hO; intro g2 u hO hSn; replace hS := hS.trans hSn; clear hSn) | (refine own_store_all (k := 0) rfl rfl rfl rfl sz_sec hO rfl (secA_size HL1.out) (by rfl) (bcs_all _) ?_; clear hO; intro u hO hSn; replace hS := hS.trans hSn; clear hSn; simp only [List.set_cons_zero, List.set_cons_succ] at hO))
                refine wp_plain_seq (Cls _ (_)) 3 (cls_here hO) ?_
                simp only [List.append_eq, List.cons_append, List.nil_append, List.take_succ_cons, List.take_zero]
                repeat (first
                  | (apply wv_skip rfl; simp only [Act.put, List.setIfInBounds_toArray, List.set_cons_zero, List.set_cons_succ])
                  | (apply wv_load1 rfl rfl rfl; (first | exact row_int | exact row_str | exact row_bool | exact row_u8 | exact row_bys | exact row_pats | exact row_err); (intro w h; (first | exact own_get 0 h.1 rfl | exact own_get 1 h.1 rfl | exact own_get 2 h.1 rfl | exact own_get 3 h.1 rfl | exact own_get 4 h.1 rfl | exact own_get 5 h.1 rfl | exact own_get 6 h.1 rfl | exact own_get 7 h.1 rfl)); (first | (simp only [List.getElem?_toArray, List.getElem?_cons_succ, List.getElem?_cons_zero]; rfl) | rfl); simp only [Act.put, List.setIfInBounds_toArray, List.set_cons_zero, List.set_cons_succ])
                  | (apply wv_loadrow rfl rfl rfl; (first | exact row_pat); exact sz_pat; (intro w h; (first | exact own_get 0 h.1 rfl | exact own_get 1 h.1 rfl | exact own_get 2 h.1 rfl | exact own_get 3 h.1 rfl | exact own_get 4 h.1 rfl | exact own_get 5 h.1 rfl | exact own_get 6 h.1 rfl | exact own_get 7 h.1 rfl)); (focus (simp; done)); (first | (simp only [List.drop_zero, List.drop_succ_cons, List.take_succ_cons, List.take_zero]; rfl) | rfl); simp only [Act.put, List.setIfInBounds_toArray, List.set_cons_zero, List.set_cons_succ])
                  | (refine wv_loadrow (b := g1) (off := 0) (cs := (bcs s).toArray) (t := 26) (vs := bcs s) rfl rfl rfl row_sec sz_sec (fun w h => own_get 1 h.1 rfl) (by simp [bcs_length, HL1.out]) (by rw [List.drop_zero]; exact List.take_of_length_le (by simp [bcs_length, HL1.out])) ?_; simp only [Act.put, List.setIfInBounds_toArray, List.set_cons_zero, List.set_cons_succ])
                  | (refine wv_loadrow (b := g2) (off := 0) (cs := (bcs s).toArray) (t := 26) (vs := bcs s) rfl rfl rfl row_sec sz_sec (fun w h => own_get 0 h.1 rfl) (by simp [bcs_length, HL1.out]) (by rw [List.drop_zero]; exact List.take_of_length_le (by simp [bcs_length, HL1.out])) ?_; simp only [Act.put, List.setIfInBounds_toArray, List.set_cons_zero, List.set_cons_succ])
                  | (apply wv_run rfl; (focus (intro w h; go_simp; simp only [HE1.out w]; first | done | rfl)); simp only [Act.put, List.setIfInBounds_toArray, List.set_cons_zero, List.set_cons_succ])
                  | (apply wv_run rfl; (focus (intro w h; go_simp; first | done | rfl)); simp only [Act.put, List.setIfInBounds_toArray, List.set_cons_zero, List.set_cons_succ])
                  | (apply wv_call rfl; (focus (intro w; go_simp; first | done | exact ⟨rfl, rfl⟩)); (focus (intro w h; apply cls_call h; fail)); simp only [Act.put, List.setIfInBounds_toArray, List.set_cons_zero, List.set_cons_succ]))
                refine wv_nil ?_
                simp only [List.drop_succ_cons, List.drop_zero]
                intro w9 ⟨hO9, hS9⟩
                clear hO
                have hO := own_drop (own_drop hO9)
                replace hS := hS.trans hS9
                clear hO9 hS9
                go_wp2
                go_roundw
                case rel => exact ⟨i + 1, by omega, by go_num, hO, hS⟩
                case measure => simp [intOf]; omega
              · have hie : i = 6 := by omega
                subst hie
                go_wp2
                go_ret
                exact ⟨rfl, below_of (own_at hO (k := 3) rfl) hS⟩
end Go.Proofs.Ytjilkbkafigloaa.H
set_option linter.unusedVariables false
set_option linter.unusedSimpArgs false
set_option maxRecDepth 100000
namespace Go.Proofs.Ytjilkbkafigloaa.H
open Go.ChangeShapes Go.WideShapes Go.ChangeAt Go.RowKit Go.Deep Go.Joins
section
variable {H : Type} {enc : TypeId × Value → H} {w : World} {base : Nat} {spare : Nat → Bool} {held : Bool}
theorem open_intl {r : Reach} {b0 : Nat} {v : Value} {d : DataW H} {p : List MemPlace} (hv : Value.okWide Try.prog w r b0 41 v) (h : DataW.Trod enc Try.prog w base spare held 41 v d p) :
    ∃ (A : Option Addr) (n c : Nat) (l : List Int), v = .slice A n c ∧ n = l.length ∧ Rd w 1 (.slice A n c) n (l.map encZ) ∧ ∀ x ∈ l, inI x := by
  obtain ⟨A, n, c, rfl⟩ := okWide_slice Try.underlying41 hv
  obtain ⟨fuel, hf⟩ := h
  obtain ⟨A', n', c', l, h1, h2, h3, h4⟩ := open_ints_d hf
  simp [Value.cells] at h1
  obtain ⟨rfl, rfl, rfl⟩ := h1
  exact ⟨_, _, _, l, rfl, h2, h3, h4⟩
end
end Go.Proofs.Ytjilkbkafigloaa.H
