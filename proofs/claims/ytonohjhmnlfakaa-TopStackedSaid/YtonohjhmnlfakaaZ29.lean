/- TopStacked: the walk. -/
import Derived.Test.YtonohjhmnlfakaaZ27
import Derived.Test.YtonohjhmnlfakaaZ28
set_option linter.unusedVariables false
set_option linter.unusedSimpArgs false
set_option maxRecDepth 100000
namespace Go.Proofs.Ytonohjhmnlfakaa.H
open Go.RowKit
theorem rd_snapK {w0 w' : World} {L : List HP} {size n : Nat} {v : Value} {xs : List Value} (h : Rd w0 size v n xs) (hO : Own w' (snap w0 :: L)) : Rd w' size v n xs := h.keep (fun i o hi => own_kept hO i o hi)
theorem zero_patK : (Try.prog.info? 33).map (·.zero) = some (some (.agg #[.int .i64 0, .int .i64 0, .string ⟨#[]⟩])) := by kernel_rfl
theorem sz_zK : (Try.prog.info? 3).map (·.size) = some 1 := by kernel_rfl
theorem pats_cellsK {w : World} {ad : Addr} {n c : Nat} {all : List Pat} (h : Rd w 3 (.slice (some ad) n c) n (cellsP all)) {k : Nat} {p : Pat} (hp : all[k]? = some p) : ∀ (j : Nat) (u : Value), (Pat.cells p)[j]? = some u → w.cell? ((ad.add (k * 3)).add j) = some u := by
  intro j u hu
  obtain ⟨hk, e⟩ := List.getElem?_eq_some_iff.1 hp
  exact h.cell (cellsP_at all k hk j u (by rw [e]; exact hu))
theorem made_bytesK (n : Nat) : madeCells (Value.int .u8 0).cells (n * 1) = (bcs (List.replicate n 0)).toArray := by rw [Nat.mul_one]; exact made_bytes n
def sHL (A2 A1 : List HP) (R : Value → HP) (a b : Bool) (x : Value) : List HP := if a then R x :: A2 else if b then A2 else A1
theorem sHL_all {w : World} {A2 A1 : List HP} {R : Value → HP} {a b : Bool} {x : Value} {B : HP} (h : Own w (sHL A2 A1 R a b x)) (h2 : B ∈ A2) (h1 : B ∈ A1) : ∃ L', Own w (B :: L') := by
  have key : ∀ L : List HP, Own w L → B ∈ L → ∃ L', Own w (B :: L') := fun L h hm => by
    obtain ⟨k, hk⟩ := List.getElem?_of_mem hm
    exact ⟨_, own_at h hk⟩
  unfold sHL at h
  split at h
  · exact key _ h (List.mem_cons_of_mem _ h2)
  · split at h
    · exact key _ h h2
    · exact key _ h h1
theorem sHL_none {w : World} {A2 A1 : List HP} {R : Value → HP} {a b : Bool} {x : Value} (h : Own w (sHL A2 A1 R a b x)) (ha : a = false) (hb : b = false) : Own w A1 := by
  subst ha
  subst hb
  exact h
theorem sHL_two {w : World} {A2 A1 : List HP} {R : Value → HP} {a b : Bool} {x : Value} (h : Own w (sHL A2 A1 R a b x)) (ha : a = false) (hb : b = true) : Own w A2 := by
  subst ha
  subst hb
  exact h
theorem sHL_read {w : World} {A2 A1 : List HP} {R : Value → HP} {a b : Bool} {x : Value} (h : Own w (sHL A2 A1 R a b x)) (ha : a = true) : Own w (R x :: A2) := by
  subst ha
  exact h
theorem sHL_mk2 {w : World} {A2 A1 : List HP} {R : Value → HP} {a b : Bool} {x : Value} (h : Own w A2) (ha : a = false) (hb : b = true) : Own w (sHL A2 A1 R a b x) := by
  subst ha
  subst hb
  exact h
theorem sHL_mk6 {w : World} {A2 A1 : List HP} {R : Value → HP} {a b : Bool} {x : Value} (h : Own w (R x :: A2)) (ha : a = true) : Own w (sHL A2 A1 R a b x) := by
  subst ha
  exact h
theorem sHL_upd {A2 A1 : List HP} {R : Value → HP} {D : Nat → Bool} {x : Value} {i : Nat} (h6 : 6 ≠ i) (h2 : 2 ≠ i) : sHL A2 A1 R (upd D i 6) (upd D i 2) x = sHL A2 A1 R (D 6) (D 2) x := by
  unfold upd
  rw [if_neg h6, if_neg h2]
set_option maxHeartbeats 12800000 in
theorem stacked_law (w : World) (A0 : Option Addr) (n0 c0 : Nat) (ps : List Pat) (hn0 : n0 = ps.length) (hr : Rd w 3 (.slice A0 n0 c0) n0 (cellsP ps)) (A1 : Option Addr) (n1 c1 : Nat) (pl : List Int) (hn1 : n1 = pl.length) (hp : Rd w 1 (.slice A1 n1 c1) n1 (pl.map encZ)) (hpi : ∀ x ∈ pl, inI x) :
    Calls Try.prog 5 #[.slice A0 n0 c0, .slice A1 n1 c1] w (fun e w' => e = .returned (.bool true) ∧ Below w.heap.size w w') := by
  subst hn0
  subst hn1
  have hmx := hr.max
  have hmp := hp.max
  have HR : Hid (∀ (w' : World) (L' : List HP), Own w' (snap w :: L') → Rd w' 3 (.slice A0 ps.length c0) ps.length (cellsP ps)) := Lib.hid fun w' L' h' => rd_snapK hr h'
  have HP1 : Hid (∀ (w' : World) (L' : List HP), Own w' (snap w :: L') → Rd w' 1 (.slice A1 pl.length c1) pl.length (pl.map encZ)) := Lib.hid fun w' L' h' => rd_snapK hp h'
  have HPI : Hid (∀ x ∈ pl, i64 x) := Lib.hid fun x hx => by
    have h := hpi x hx
    unfold inI at h
    have e1 : IntKind.i64.signed = true := rfl
    have e2 : IntKind.i64.bits = 64 := rfl
    simp only [Lit.wf, IntKind.min, IntKind.max, e1, e2, if_true, Bool.and_eq_true, decide_eq_true_eq] at h
    unfold i64
    omega
  have hO : Own w [snap w] := own_snap
  have hS := Same.refl w
  have HN0 : Hid (32 = sec0.length) := Lib.hid rfl
  clear hr hp hpi
  go_enter Try.func5, Try.ntmps5
  go_wp2_with (first | (at_make; refine own_make (n := 32) rfl rfl rfl rfl Try.underlying22 info_u8 (by decide) (by decide) (made_bytesK 32) hO ?_; clear hO; intro gw u hO hSn; replace hS := hS.trans hSn; clear hSn) | (go_at_call 23; (with_reducible refine Calls.mono (new_c _ _ (.slice (some ⟨gw, 0, none⟩) 32 32) sec0 hO (fun w' h => rdB_block HN0.out (own_get 0 h rfl) (by simp) (by simp)) rfl) ?_); clear hO; rintro e u ⟨s, rfl, hO, hSn⟩; replace hS := hS.trans hSn; clear hSn) | (go_at_call 7; (with_reducible refine Calls.mono (new_ok _ _ 1 hO (by decide) (by decide)) ?_); clear hO; rintro e u ⟨dd, rfl, hO, hSn⟩; replace hS := hS.trans hSn; clear hSn) | (go_at_call 6; (with_reducible refine Calls.mono (enew_c _ _ dd _ hO (by decide) (by decide)) ?_); clear hO; rintro e u ⟨e, rfl, hO, hSn⟩; replace hS := hS.trans hSn; clear hSn))
  have hO : Own u (stk s ⟨sec0, [], 0⟩ :: engP e (eng0 1) :: [snap w]) := own_sub (own_order [2, 0] hO rfl) (.cons_cons _ (.cons_cons _ (.cons _ (.cons _ (List.Sublist.refl _)))))
  go_loopw [7] (fun iv wr => ∃ (i : Nat) (m : Stk) (E : Eng), i ≤ ps.length ∧ i ≤ 20 ∧ iv = .int .i64 i ∧ Hid (Sk i m E) ∧ Own wr (stk s m :: engP e E :: [snap w]) ∧ Same w wr) (fun iv _ => ps.length - (intOf iv).toNat)
  case atStart => exact ⟨0, _, _, Nat.zero_le _, Nat.zero_le _, rfl, Sk.start, hO, hS⟩
  case round =>
    clear hO hS
    obtain ⟨i, m, E, hi, hi20, rfl, HSK, hO, hS⟩ := hrel
    by_cases hgo : i < ps.length ∧ i < 20
    · obtain ⟨hlt, h20⟩ := hgo
      have f1 : decide (i < 20) = true := by simpa using h20
      have f2 : (i : Int) < 20 := by omega
      have hm1 : (i : Int) < ps.length := by omega
      obtain ⟨x, hx⟩ : ∃ x, ps[i]? = some x := ⟨_, List.getElem?_eq_getElem hlt⟩
      obtain ⟨ad, e1⟩ := (HR.out _ _ (own_at hO (k := 2) rfl)).addr (by rw [cellsP_length]; omega)
      subst e1
      have HC : Hid (∀ (j : Nat) (u : Value), [Value.int .i64 x.blk, .int .i64 x.off, .string x.dat][j]? = some u → wr.cell? ((ad.add (i * 3)).add j) = some u) := pats_cellsK (HR.out _ _ (own_at hO (k := 2) rfl)) hx
      clear hx
      cases hR : rightB ⟨0, x.off, x.dat⟩ with
      | true =>
        obtain ⟨E', hE, hSK'⟩ := HSK.out.yes (by omega) hR rfl
        have HSK2 := Lib.hid hSK'
        have HPU : Hid (∀ (w' : World) (L' : List HP), Own w' (stk s m :: L') → Calls Try.prog 24 #[.pointer (some ⟨s, 0, none⟩), .agg #[.int .i64 0, .int .i64 x.off, .string x.dat]] w' (Ret w' (.tuple #[.int .i64 m.next, .int .i64 0]) (stk s (m.pushed ⟨0, x.off, x.dat⟩) :: L'))) := Lib.hid fun w' L' h => push_ok w' L' s m 0 x.off x.dat h HSK.out.mok hR (by have := HSK.out.len; omega) (by have := HSK.out.nx; omega)
        have HAD : Hid (∀ (w' : World) (g2 : Nat) (L' : List HP), Own w' (engP e E :: pts g2 (.cells #[.int .i64 0, .int .i64 x.off, .string x.dat, .slice none 0 0] 36) :: L') → Calls Try.prog 9 #[.pointer (some ⟨e, 0, none⟩), .slice (some ⟨g2, 0, none⟩) 1 1] w' (Ret w' (.tuple #[.int .i64 E.next, .int .i64 0]) (engP e E' :: L'))) := Lib.hid fun w' g2 L' h => by
          have h2 := sadd_c w' L' e g2 E ⟨0, x.off, x.dat⟩ HSK.out.ok h
          rw [hE] at h2
          exact h2
        clear hR hE hSK'
        go_upto_region 9 with (first | (refine own_loadrow_at (ad := ad.add (i * 3)) (vs := [.int .i64 x.blk, .int .i64 x.off, .string x.dat]) rfl rfl rfl row_pat sz_pat rfl HC.out ?_) | (refine own_alloc (T := 33) rfl rfl zero_patK rfl hO ?_; clear hO; intro gx u hO hSn; replace hS := hS.trans hSn; clear hSn) | (apply own_store_all (k := 0) rfl rfl rfl rfl sz_pat hO rfl; (focus rfl); (focus rfl); (focus rfl); clear hO; intro u hO hSn; replace hS := hS.trans hSn; clear hSn; simp only [List.set_cons_zero, List.set_cons_succ] at hO))
        go_upto_region 10 with (first | (refine own_store1 (k := 0) (b := gx) (off := 0) (cs' := #[.int .i64 0, .int .i64 x.off, .string x.dat]) rfl rfl rfl rfl sz_zK hO rfl rfl (by show 0 < 3; decide) rfl ?_; clear hO; intro u hO hSn; replace hS := hS.trans hSn; clear hSn; simp only [List.set_cons_zero, List.set_cons_succ] at hO))
        go_wp2_with (first | (refine own_loadrow (b := gx) (off := 0) (cs := #[.int .i64 0, .int .i64 x.off, .string x.dat]) (t := 33) (vs := [.int .i64 0, .int .i64 x.off, .string x.dat]) rfl rfl rfl row_pat sz_pat (own_get 0 hO rfl) (by simp) (by rfl) ?_) | (go_at_call 24; (with_reducible refine Calls.mono (HPU.out _ _ (own_swap hO)) ?_); clear hO; rintro e1 u ⟨rfl, hO, hSn⟩; replace hS := hS.trans hSn; clear hSn; replace hO := own_swap hO) | (refine own_is1g (⟨⟨0, x.off, x.dat⟩, []⟩, .slice none 0 0) rfl rfl rfl hO ?_; clear hO; intro g2 u hO hSn; replace hS := hS.trans hSn; clear hSn; replace hO : Own _ (pts g2 (.cells #[.int .i64 0, .int .i64 x.off, .string x.dat, .slice none 0 0] 36) :: _) := hO) | (go_at_call 9; (with_reducible refine Calls.mono (HAD.out _ g2 _ (own_order [3, 0] hO rfl)) ?_); clear hO; rintro e1 u ⟨rfl, hO, hSn⟩; replace hS := hS.trans hSn; clear hSn; replace hO := own_skip (own_order [2, 1, 0] hO rfl)))
        go_roundw
        case rel => exact ⟨i + 1, _, _, by omega, by omega, by go_num, HSK2, hO, hS⟩
        case measure => simp [intOf]; omega
      | false =>
        have HSK2 := Lib.hid (HSK.out.mono (Nat.le_succ i))
        have HPU : Hid (∀ (w' : World) (L' : List HP), Own w' (stk s m :: L') → Calls Try.prog 24 #[.pointer (some ⟨s, 0, none⟩), .agg #[.int .i64 0, .int .i64 x.off, .string x.dat]] w' (Ret w' (.tuple #[.int .i64 0, .int .i64 3]) (stk s m :: L'))) := Lib.hid fun w' L' h => push_form w' L' s m 0 x.off x.dat h HSK.out.mok hR
        have HAD : Hid (∀ (w' : World) (g2 : Nat) (L' : List HP), Own w' (engP e E :: pts g2 (.cells #[.int .i64 0, .int .i64 x.off, .string x.dat, .slice none 0 0] 36) :: L') → Calls Try.prog 9 #[.pointer (some ⟨e, 0, none⟩), .slice (some ⟨g2, 0, none⟩) 1 1] w' (Ret w' (.tuple #[.int .i64 0, .int .i64 3]) (engP e E :: L'))) := Lib.hid fun w' g2 L' h => by
          have h2 := sadd_c w' L' e g2 E ⟨0, x.off, x.dat⟩ HSK.out.ok h
          rw [HSK.out.no hR] at h2
          exact h2
        clear hR
        go_upto_region 9 with (first | (refine own_loadrow_at (ad := ad.add (i * 3)) (vs := [.int .i64 x.blk, .int .i64 x.off, .string x.dat]) rfl rfl rfl row_pat sz_pat rfl HC.out ?_) | (refine own_alloc (T := 33) rfl rfl zero_patK rfl hO ?_; clear hO; intro gx u hO hSn; replace hS := hS.trans hSn; clear hSn) | (apply own_store_all (k := 0) rfl rfl rfl rfl sz_pat hO rfl; (focus rfl); (focus rfl); (focus rfl); clear hO; intro u hO hSn; replace hS := hS.trans hSn; clear hSn; simp only [List.set_cons_zero, List.set_cons_succ] at hO))
        go_upto_region 10 with (first | (refine own_store1 (k := 0) (b := gx) (off := 0) (cs' := #[.int .i64 0, .int .i64 x.off, .string x.dat]) rfl rfl rfl rfl sz_zK hO rfl rfl (by show 0 < 3; decide) rfl ?_; clear hO; intro u hO hSn; replace hS := hS.trans hSn; clear hSn; simp only [List.set_cons_zero, List.set_cons_succ] at hO))
        go_wp2_with (first | (refine own_loadrow (b := gx) (off := 0) (cs := #[.int .i64 0, .int .i64 x.off, .string x.dat]) (t := 33) (vs := [.int .i64 0, .int .i64 x.off, .string x.dat]) rfl rfl rfl row_pat sz_pat (own_get 0 hO rfl) (by simp) (by rfl) ?_) | (go_at_call 24; (with_reducible refine Calls.mono (HPU.out _ _ (own_swap hO)) ?_); clear hO; rintro e1 u ⟨rfl, hO, hSn⟩; replace hS := hS.trans hSn; clear hSn; replace hO := own_swap hO) | (refine own_is1g (⟨⟨0, x.off, x.dat⟩, []⟩, .slice none 0 0) rfl rfl rfl hO ?_; clear hO; intro g2 u hO hSn; replace hS := hS.trans hSn; clear hSn; replace hO : Own _ (pts g2 (.cells #[.int .i64 0, .int .i64 x.off, .string x.dat, .slice none 0 0] 36) :: _) := hO) | (go_at_call 9; (with_reducible refine Calls.mono (HAD.out _ g2 _ (own_order [3, 0] hO rfl)) ?_); clear hO; rintro e1 u ⟨rfl, hO, hSn⟩; replace hS := hS.trans hSn; clear hSn; replace hO := own_skip (own_order [2, 1, 0] hO rfl)))
        go_roundw
        case rel => exact ⟨i + 1, _, _, by omega, by omega, by go_num, HSK2, hO, hS⟩
        case measure => simp [intOf]; omega
    · have HMO := Lib.hid HSK.out.mok
      obtain ⟨T, hT⟩ : ∃ T, T = m.bytes := ⟨_, rfl⟩
      have HT := Lib.hid hT
      have h32 : T.length = 32 := by
        rw [hT, ← HSK.out.bytes]
        unfold Eng.bytes
        refine appAll_32 rfl (fun p hp => ?_)
        obtain ⟨y, hy, rfl⟩ := List.mem_map.1 hp
        exact (HSK.out.ok.right y (List.filter_sublist.subset hy)).1
      have HT32 := Lib.hid h32
      have HN : Hid (32 = T.length) := h32.symm
      have HBK : Hid (∀ (w' : World) (L' : List HP), Own w' (engP e E :: L') → Calls Try.prog 25 #[.pointer (some ⟨e, 0, none⟩), .int .i64 0] w' (RetX w' (fun g : Nat => .tuple #[.slice (some ⟨g, 0, none⟩) 32 32, .int .i64 0]) (fun g => pts g (.cells (bcs T).toArray 47) :: engP e E :: L'))) := Lib.hid fun w' L' h => by
        have h1 := eblock_ok w' L' e E 0 ⟨sec0, [], false⟩ h HSK.out.ok (by rw [HSK.out.em]; rfl)
        rw [HSK.out.bytes, ← hT] at h1
        exact h1
      obtain ⟨n, hn⟩ : ∃ n, n = m.l.length := ⟨_, rfl⟩
      obtain ⟨xs, hxs⟩ : ∃ xs, xs = m.l.map fun o => Value.int .i64 o.n := ⟨_, rfl⟩
      obtain ⟨ys, hys⟩ : ∃ ys, ys = zs E.waiting := ⟨_, rfl⟩
      have HSB : Hid (∀ (w' : World) (L' : List HP), Own w' (stk s m :: L') → Calls Try.prog 26 #[.pointer (some ⟨s, 0, none⟩)] w' (RetX w' (fun v : Value => v) (fun v => rdA 1 v 32 (bcs T) :: stk s m :: L'))) := Lib.hid fun w' L' h => by rw [hT]; exact sbytes_v w' L' s m h HSK.out.mok
      have HSW : Hid (∀ (w' : World) (L' : List HP), Own w' (stk s m :: L') → Calls Try.prog 27 #[.pointer (some ⟨s, 0, none⟩)] w' (RetX w' (fun v : Value => v) (fun v => rdA 1 v n xs :: stk s m :: L'))) := Lib.hid fun w' L' h => by rw [hn, hxs]; exact swaiting_v w' L' s m h HSK.out.mok
      have HEW : Hid (∀ (w' : World) (L' : List HP), Own w' (stk s m :: engP e E :: L') → Calls Try.prog 22 #[.pointer (some ⟨e, 0, none⟩)] w' (RetX w' (fun v : Value => v) (fun v => rdA 1 v n ys :: stk s m :: engP e E :: L'))) := Lib.hid fun w' L' h => by
        have h1 := ewaiting_2 w' L' (stk s m) e E h HSK.out.ok
        rw [HSK.out.elen, ← hn, ← hys] at h1
        exact h1
      clear hT h32 hn hxs hys
      by_cases hlt : i < ps.length
      · have f3 : (i : Int) < ps.length := by omega
        have f4 : ¬ ((i : Int) < 20) := by omega
        have f5 : decide (i < 20) = false := decide_eq_false (by omega)
        clear hgo hlt
        go_upto_region 15 with (first | (go_at_call 25; (with_reducible refine Calls.mono (HBK.out _ _ (own_swap hO)) ?_); clear hO; rintro e1 u ⟨gb, rfl, hO, hSn⟩; replace hS := hS.trans hSn; clear hSn))
        have hO : Own _ ([stk s m, engP e E, pts gb (.cells (bcs T).toArray 47)] ++ [snap w]) := own_order [2, 1, 0] hO rfl
        refine wp_region_own (α := Nat → Value) (fun x => .int .i64 0 :: .bool false :: .bool false :: .slice (some ⟨gb, 0, none⟩) 32 32 :: .string (bstr T) :: .pointer (some ⟨s, 0, none⟩) :: x 6 :: .string (bstr T) :: .bool false :: .bool false :: .bool false :: .pointer (some ⟨s, 0, none⟩) :: x 12 :: .int .i64 n :: .pointer (some ⟨e, 0, none⟩) :: x 15 :: .int .i64 n :: .bool false :: .bool false :: []) (fun D x => ([stk s m, engP e E, pts gb (.cells (bcs T).toArray 47)] ++ [snap w]) ++ owL ([(6, none, fun v => rdA 1 v 32 (bcs T)), (12, none, fun v => rdA 1 v n xs), (15, none, fun v => rdA 1 v n ys)]) D x) _ (fun _ => undef) 119 (fun _ => rfl) mixed (by kernel_rfl) rfl (by rw [owL_none, List.append_nil]; exact own_heap hO (fun _ _ h => h)) (Same.drew _) (fun _ _ _ _ hd h => ⟨hd ▸ h.1, h.2⟩) ?_ ?_
        · refine ⟨?_, ?_, ?_, ?_, ?_, ?_, ?_, ?_, ?_, ?_, ?_, ?_, ?_, ?_, ?_, ?_, ?_, ?_, ?_, trivial⟩
          · (refine @fs_pureO _ _ _ _ _ _ _ _ _ _ (by kernel_rfl) (fun D x hD hcl hp => ?_); simp only [putO]; simp only [Act.put, List.setIfInBounds_toArray, List.set_cons_zero, List.set_cons_succ]; first | exact y_run rfl (by intro w h; go_simp; first | done | rfl))
          · (refine @fs_pureO _ _ _ _ _ _ _ _ _ _ (by kernel_rfl) (fun D x hD hcl hp => ?_); simp only [putO]; simp only [Act.put, List.setIfInBounds_toArray, List.set_cons_zero, List.set_cons_succ]; first | exact y_run rfl (by intro w h; go_simp; first | done | rfl))
          · (refine @fs_pureO _ _ _ _ _ _ _ _ _ _ (by kernel_rfl) (fun D x hD hcl hp => ?_); simp only [putO]; simp only [Act.put, List.setIfInBounds_toArray, List.set_cons_zero, List.set_cons_succ]; first | exact y_run rfl (by intro w h; go_simp; first | done | rfl))
          · (refine @fs_pureO _ _ _ _ _ _ _ _ _ _ (by kernel_rfl) (fun D x hD hcl hp => ?_); simp only [putO]; simp only [Act.put, List.setIfInBounds_toArray, List.set_cons_zero, List.set_cons_succ]; first | exact y_run rfl (by intro w h; go_simp; first | done | rfl))
          · (refine @fs_pureO _ _ _ _ _ _ _ _ _ _ (by kernel_rfl) (fun D x hD hcl hp => ?_); simp only [putO]; simp only [Act.put, List.setIfInBounds_toArray, List.set_cons_zero, List.set_cons_succ]; first | exact (y_string (v := .slice (some ⟨gb, 0, none⟩) 32 32) (n := 32) (bs := T) rfl rfl rfl Try.underlying22 Try.underlying5 Try.underlying9 HN.out (fun w h => rd_block (own_get 2 h.1 rfl) (by rw [Nat.mul_one]; exact List.take_of_length_le (by simp [bcs_length, HT32.out])) (by simp [bcs_length, HT32.out]) (Nat.le_refl _) (by decide))) | exact y_run rfl (by intro w h; go_simp; first | done | rfl))
          · (refine @fs_pureO _ _ _ _ _ _ _ _ _ _ (by kernel_rfl) (fun D x hD hcl hp => ?_); simp only [putO]; simp only [Act.put, List.setIfInBounds_toArray, List.set_cons_zero, List.set_cons_succ]; first | exact y_run rfl (by intro w h; go_simp; first | done | rfl))
          · (refine @fs_new _ _ _ _ _ _ _ _ _ _ _ _ [] (fun v => v) rfl rfl (by kernel_rfl) (by kernel_rfl) (by intro j; rcases j with _ | j; (focus (first | exact .inr fun _ _ => rfl | exact .inl (by kernel_rfl))); rcases j with _ | j; (focus (first | exact .inr fun _ _ => rfl | exact .inl (by kernel_rfl))); rcases j with _ | j; (focus (first | exact .inr fun _ _ => rfl | exact .inl (by kernel_rfl))); rcases j with _ | j; (focus (first | exact .inr fun _ _ => rfl | exact .inl (by kernel_rfl))); rcases j with _ | j; (focus (first | exact .inr fun _ _ => rfl | exact .inl (by kernel_rfl))); rcases j with _ | j; (focus (first | exact .inr fun _ _ => rfl | exact .inl (by kernel_rfl))); rcases j with _ | j; (focus (first | exact .inr fun _ _ => rfl | exact .inl (by kernel_rfl))); rcases j with _ | j; (focus (first | exact .inr fun _ _ => rfl | exact .inl (by kernel_rfl))); rcases j with _ | j; (focus (first | exact .inr fun _ _ => rfl | exact .inl (by kernel_rfl))); rcases j with _ | j; (focus (first | exact .inr fun _ _ => rfl | exact .inl (by kernel_rfl))); rcases j with _ | j; (focus (first | exact .inr fun _ _ => rfl | exact .inl (by kernel_rfl))); rcases j with _ | j; (focus (first | exact .inr fun _ _ => rfl | exact .inl (by kernel_rfl))); rcases j with _ | j; (focus (first | exact .inr fun _ _ => rfl | exact .inl (by kernel_rfl))); rcases j with _ | j; (focus (first | exact .inr fun _ _ => rfl | exact .inl (by kernel_rfl))); rcases j with _ | j; (focus (first | exact .inr fun _ _ => rfl | exact .inl (by kernel_rfl))); rcases j with _ | j; (focus (first | exact .inr fun _ _ => rfl | exact .inl (by kernel_rfl))); rcases j with _ | j; (focus (first | exact .inr fun _ _ => rfl | exact .inl (by kernel_rfl))); rcases j with _ | j; (focus (first | exact .inr fun _ _ => rfl | exact .inl (by kernel_rfl))); rcases j with _ | j; (focus (first | exact .inr fun _ _ => rfl | exact .inl (by kernel_rfl))); exact .inr fun _ _ => rfl) (fun _ _ => rfl) ?_; intro D x u hD hcl hp hO hS N hN; simp only [putO]; simp only [Act.put, List.setIfInBounds_toArray, List.set_cons_zero, List.set_cons_succ]; refine ev_call rfl (by go_simp; first | done | exact ⟨rfl, rfl⟩) ?_; refine Calls.mono (HSB.out _ _ hO) ?_; rintro e u' ⟨v, rfl, hO', hS'⟩; exact ⟨_, rfl, hN _ v u' rfl rfl hO' hS'⟩)
          · refine @fs_pureO _ _ _ _ _ _ _ _ _ _ (by kernel_rfl) (fun D x hD hcl hp => ?_)
            simp only [putO]
            simp only [Act.put, List.setIfInBounds_toArray, List.set_cons_zero, List.set_cons_succ]
            refine y_string (v := x 6) (n := 32) (bs := T) rfl rfl rfl Try.underlying22 Try.underlying5 Try.underlying9 HN.out (fun w h => ?_)
            obtain ⟨L6, o6⟩ := ow_get 0 h.1 rfl (dep_yes hp rfl)
            exact rdA_rd o6
          · (refine @fs_pureO _ _ _ _ _ _ _ _ _ _ (by kernel_rfl) (fun D x hD hcl hp => ?_); simp only [putO]; simp only [Act.put, List.setIfInBounds_toArray, List.set_cons_zero, List.set_cons_succ]; first | exact y_run rfl (by intro w h; go_simp; first | done | rfl))
          · (refine @fs_pureO _ _ _ _ _ _ _ _ _ _ (by kernel_rfl) (fun D x hD hcl hp => ?_); simp only [putO]; simp only [Act.put, List.setIfInBounds_toArray, List.set_cons_zero, List.set_cons_succ]; first | exact y_run rfl (by intro w h; go_simp; first | done | rfl))
          · (refine @fs_pureO _ _ _ _ _ _ _ _ _ _ (by kernel_rfl) (fun D x hD hcl hp => ?_); simp only [putO]; simp only [Act.put, List.setIfInBounds_toArray, List.set_cons_zero, List.set_cons_succ]; first | exact y_run rfl (by intro w h; go_simp; first | done | rfl))
          · (refine @fs_pureO _ _ _ _ _ _ _ _ _ _ (by kernel_rfl) (fun D x hD hcl hp => ?_); simp only [putO]; simp only [Act.put, List.setIfInBounds_toArray, List.set_cons_zero, List.set_cons_succ]; first | exact y_run rfl (by intro w h; go_simp; first | done | rfl))
          · (refine @fs_new _ _ _ _ _ _ _ _ _ _ _ _ [] (fun v => v) rfl rfl (by kernel_rfl) (by kernel_rfl) (by intro j; rcases j with _ | j; (focus (first | exact .inr fun _ _ => rfl | exact .inl (by kernel_rfl))); rcases j with _ | j; (focus (first | exact .inr fun _ _ => rfl | exact .inl (by kernel_rfl))); rcases j with _ | j; (focus (first | exact .inr fun _ _ => rfl | exact .inl (by kernel_rfl))); rcases j with _ | j; (focus (first | exact .inr fun _ _ => rfl | exact .inl (by kernel_rfl))); rcases j with _ | j; (focus (first | exact .inr fun _ _ => rfl | exact .inl (by kernel_rfl))); rcases j with _ | j; (focus (first | exact .inr fun _ _ => rfl | exact .inl (by kernel_rfl))); rcases j with _ | j; (focus (first | exact .inr fun _ _ => rfl | exact .inl (by kernel_rfl))); rcases j with _ | j; (focus (first | exact .inr fun _ _ => rfl | exact .inl (by kernel_rfl))); rcases j with _ | j; (focus (first | exact .inr fun _ _ => rfl | exact .inl (by kernel_rfl))); rcases j with _ | j; (focus (first | exact .inr fun _ _ => rfl | exact .inl (by kernel_rfl))); rcases j with _ | j; (focus (first | exact .inr fun _ _ => rfl | exact .inl (by kernel_rfl))); rcases j with _ | j; (focus (first | exact .inr fun _ _ => rfl | exact .inl (by kernel_rfl))); rcases j with _ | j; (focus (first | exact .inr fun _ _ => rfl | exact .inl (by kernel_rfl))); rcases j with _ | j; (focus (first | exact .inr fun _ _ => rfl | exact .inl (by kernel_rfl))); rcases j with _ | j; (focus (first | exact .inr fun _ _ => rfl | exact .inl (by kernel_rfl))); rcases j with _ | j; (focus (first | exact .inr fun _ _ => rfl | exact .inl (by kernel_rfl))); rcases j with _ | j; (focus (first | exact .inr fun _ _ => rfl | exact .inl (by kernel_rfl))); rcases j with _ | j; (focus (first | exact .inr fun _ _ => rfl | exact .inl (by kernel_rfl))); rcases j with _ | j; (focus (first | exact .inr fun _ _ => rfl | exact .inl (by kernel_rfl))); exact .inr fun _ _ => rfl) (fun _ _ => rfl) ?_; intro D x u hD hcl hp hO hS N hN; simp only [putO]; simp only [Act.put, List.setIfInBounds_toArray, List.set_cons_zero, List.set_cons_succ]; refine ev_call rfl (by go_simp; first | done | exact ⟨rfl, rfl⟩) ?_; refine Calls.mono (HSW.out _ _ hO) ?_; rintro e u' ⟨v, rfl, hO', hS'⟩; exact ⟨_, rfl, hN _ v u' rfl rfl hO' hS'⟩)
          · refine @fs_pureO _ _ _ _ _ _ _ _ _ _ (by kernel_rfl) (fun D x hD hcl hp => ?_)
            simp only [putO]
            simp only [Act.put, List.setIfInBounds_toArray, List.set_cons_zero, List.set_cons_succ]
            refine y_run rfl (fun w h => ?_)
            obtain ⟨L6, o6⟩ := ow_get 1 h.1 rfl (dep_yes hp rfl)
            obtain ⟨A6, c6, e6⟩ := (rdA_rd o6).slice
            clear o6 hp hcl
            simp only [e6]
            go_simp
            first | done | rfl
          · (refine @fs_pureO _ _ _ _ _ _ _ _ _ _ (by kernel_rfl) (fun D x hD hcl hp => ?_); simp only [putO]; simp only [Act.put, List.setIfInBounds_toArray, List.set_cons_zero, List.set_cons_succ]; first | exact y_run rfl (by intro w h; go_simp; first | done | rfl))
          · (refine @fs_new _ _ _ _ _ _ _ _ _ _ _ _ [] (fun v => v) rfl rfl (by kernel_rfl) (by kernel_rfl) (by intro j; rcases j with _ | j; (focus (first | exact .inr fun _ _ => rfl | exact .inl (by kernel_rfl))); rcases j with _ | j; (focus (first | exact .inr fun _ _ => rfl | exact .inl (by kernel_rfl))); rcases j with _ | j; (focus (first | exact .inr fun _ _ => rfl | exact .inl (by kernel_rfl))); rcases j with _ | j; (focus (first | exact .inr fun _ _ => rfl | exact .inl (by kernel_rfl))); rcases j with _ | j; (focus (first | exact .inr fun _ _ => rfl | exact .inl (by kernel_rfl))); rcases j with _ | j; (focus (first | exact .inr fun _ _ => rfl | exact .inl (by kernel_rfl))); rcases j with _ | j; (focus (first | exact .inr fun _ _ => rfl | exact .inl (by kernel_rfl))); rcases j with _ | j; (focus (first | exact .inr fun _ _ => rfl | exact .inl (by kernel_rfl))); rcases j with _ | j; (focus (first | exact .inr fun _ _ => rfl | exact .inl (by kernel_rfl))); rcases j with _ | j; (focus (first | exact .inr fun _ _ => rfl | exact .inl (by kernel_rfl))); rcases j with _ | j; (focus (first | exact .inr fun _ _ => rfl | exact .inl (by kernel_rfl))); rcases j with _ | j; (focus (first | exact .inr fun _ _ => rfl | exact .inl (by kernel_rfl))); rcases j with _ | j; (focus (first | exact .inr fun _ _ => rfl | exact .inl (by kernel_rfl))); rcases j with _ | j; (focus (first | exact .inr fun _ _ => rfl | exact .inl (by kernel_rfl))); rcases j with _ | j; (focus (first | exact .inr fun _ _ => rfl | exact .inl (by kernel_rfl))); rcases j with _ | j; (focus (first | exact .inr fun _ _ => rfl | exact .inl (by kernel_rfl))); rcases j with _ | j; (focus (first | exact .inr fun _ _ => rfl | exact .inl (by kernel_rfl))); rcases j with _ | j; (focus (first | exact .inr fun _ _ => rfl | exact .inl (by kernel_rfl))); rcases j with _ | j; (focus (first | exact .inr fun _ _ => rfl | exact .inl (by kernel_rfl))); exact .inr fun _ _ => rfl) (fun _ _ => rfl) ?_; intro D x u hD hcl hp hO hS N hN; simp only [putO]; simp only [Act.put, List.setIfInBounds_toArray, List.set_cons_zero, List.set_cons_succ]; refine ev_call rfl (by go_simp; first | done | exact ⟨rfl, rfl⟩) ?_; refine Calls.mono (HEW.out _ _ hO) ?_; rintro e u' ⟨v, rfl, hO', hS'⟩; exact ⟨_, rfl, hN _ v u' rfl rfl hO' hS'⟩)
          · refine @fs_pureO _ _ _ _ _ _ _ _ _ _ (by kernel_rfl) (fun D x hD hcl hp => ?_)
            simp only [putO]
            simp only [Act.put, List.setIfInBounds_toArray, List.set_cons_zero, List.set_cons_succ]
            refine y_run rfl (fun w h => ?_)
            obtain ⟨L6, o6⟩ := ow_get 2 h.1 rfl (dep_yes hp rfl)
            obtain ⟨A6, c6, e6⟩ := (rdA_rd o6).slice
            clear o6 hp hcl
            simp only [e6]
            go_simp
            first | done | rfl
          · (refine @fs_pureO _ _ _ _ _ _ _ _ _ _ (by kernel_rfl) (fun D x hD hcl hp => ?_); simp only [putO]; simp only [Act.put, List.setIfInBounds_toArray, List.set_cons_zero, List.set_cons_succ]; first | exact y_run rfl (by intro w h; go_simp; first | done | rfl))
          · (refine @fs_pureO _ _ _ _ _ _ _ _ _ _ (by kernel_rfl) (fun D x hD hcl hp => ?_); simp only [putO]; simp only [Act.put, List.setIfInBounds_toArray, List.set_cons_zero, List.set_cons_succ]; first | exact y_run rfl (by intro w h; go_simp; first | done | rfl))
        intro x w10 D hD hO hS10
        have hO : Own w10 [stk s m, engP e E, pts gb (.cells (bcs T).toArray 47), snap w] := own_sub hO (List.sublist_append_left _ _)
        simp only [putO]
        simp only [Act.put, List.setIfInBounds_toArray, List.set_cons_zero, List.set_cons_succ]
        simp only [Exit.then]
        clear hD
        replace hS := hS.trans hS10
        clear hS10
        by_cases h30 : 30 < pl.length
        · have hg : (30 : Int) < pl.length := by omega
          obtain ⟨ad, e1⟩ := (HP1.out _ _ (own_at hO (k := 3) rfl)).addr (by rw [List.length_map]; omega)
          obtain ⟨kl, hkl⟩ : ∃ kl, kl = pl.take 30 := ⟨_, rfl⟩
          have HKR : Hid (∀ (w' : World) (L' : List HP), Own w' (snap w :: L') → Rd w' 1 (.slice (some ad) 30 c1) kl.length (ints kl)) := Lib.hid fun w' L' h => by
            have h1 := HP1.out w' L' h
            rw [e1] at h1
            have h2 := h1.low (k := 30) (c' := c1) (by omega) (by omega) hmp.2
            have e2 : kl.length = 30 := by rw [hkl, List.length_take]; omega
            have e3 : ints kl = (pl.map encZ).take (30 * 1) := by rw [hkl, Nat.mul_one, ← List.map_take]; rfl
            rw [e2, e3]
            exact h2
          have HKI : Hid (∀ x ∈ kl, i64 x) := Lib.hid fun x hx => HPI.out x (List.mem_of_mem_take (by rw [← hkl]; exact hx))
          clear hkl h30
          cases e1
          go_upto_region 19 with fail
          rcases roll_cases (m := m) kl with ⟨ee, he0, he⟩ | ⟨h1, h2⟩
          · have HRN : Hid (∀ (w' : World) (L' : List HP), Own w' (stk s m :: engP e E :: pts gb (.cells (bcs T).toArray 47) :: snap w :: L') → Calls Try.prog 28 #[.pointer (some ⟨s, 0, none⟩), (.slice (some ad) 30 c1)] w' (Ret w' (.tuple #[.slice none 0 0, .int .i64 ee]) (stk s m :: engP e E :: pts gb (.cells (bcs T).toArray 47) :: snap w :: L'))) := Lib.hid fun w' L' h => roll_no w' _ s m (.slice (some ad) 30 c1) kl h HMO.out (fun w2 h2 => HKR.out _ _ (own_at h2 (k := 2) rfl)) HKI.out ee he
            have hne : (ee != 0) = true := by simpa using he0
            clear he0 he
            go_wp2_with (first | (go_at_call 28; (with_reducible refine Calls.mono (HRN.out _ _ hO) ?_); clear hO; rintro e1 u ⟨rfl, hO, hSn⟩; replace hS := hS.trans hSn; clear hSn))
            go_ret
            exact ⟨rfl, below_of (own_at hO (k := 3) rfl) hS⟩
          · obtain ⟨m2, hm2⟩ : ∃ m2, m2 = m.settled kl := ⟨_, rfl⟩
            obtain ⟨C, hC⟩ : ∃ C, C = appAll m.base (selL m.l kl) := ⟨_, rfl⟩
            have hC32 : C.length = 32 := by rw [hC]; exact (settledG_ok HMO.out kl).base
            have HC32 := Lib.hid hC32
            have HCN : Hid (32 = C.length) := hC32.symm
            have HRO : Hid (∀ (w' : World) (L' : List HP), Own w' (stk s m :: engP e E :: pts gb (.cells (bcs T).toArray 47) :: snap w :: L') → Calls Try.prog 28 #[.pointer (some ⟨s, 0, none⟩), (.slice (some ad) 30 c1)] w' (RetX w' (fun g => .tuple #[.slice (some ⟨g, 0, none⟩) 32 32, .int .i64 0]) (fun g => stk s m :: pts g (.cells (bcs C).toArray 46) :: engP e E :: pts gb (.cells (bcs T).toArray 47) :: snap w :: L'))) := Lib.hid fun w' L' h => by
              rw [hC]
              exact roll_ok w' _ s m (.slice (some ad) 30 c1) kl h HMO.out (fun w2 h2 => HKR.out _ _ (own_at h2 (k := 2) rfl)) HKI.out h1 h2
            have HST : Hid (∀ (w' : World) (X : HP) (L' : List HP), Own w' (stk s m :: X :: engP e E :: pts gb (.cells (bcs T).toArray 47) :: snap w :: L') → Calls Try.prog 29 #[.pointer (some ⟨s, 0, none⟩), (.slice (some ad) 30 c1)] w' (Ret w' (.int .i64 0) (stk s m2 :: X :: engP e E :: pts gb (.cells (bcs T).toArray 47) :: snap w :: L'))) := Lib.hid fun w' X L' h => by
              rw [hm2]
              exact settle_ok w' _ s m (.slice (some ad) 30 c1) kl h HMO.out (fun w2 h2 => HKR.out _ _ (own_at h2 (k := 3) rfl)) HKI.out h1 h2
            have HMO2 : Hid m2.Ok := by show Stk.Ok m2; rw [hm2]; exact settledG_ok HMO.out kl
            have HBA : Hid (∀ (w' : World) (L' : List HP), Own w' (stk s m2 :: L') → Calls Try.prog 30 #[.pointer (some ⟨s, 0, none⟩)] w' (RetX w' (fun v : Value => v) (fun v => rdA 1 v 32 (bcs C) :: stk s m2 :: L'))) := Lib.hid fun w' L' h => by
              have h3 := sbase_v w' L' s m2 h HMO2.out
              have e3 : m2.base = C := by rw [hm2, hC]; rfl
              rw [e3] at h3
              exact h3
            have HBY : Hid (∀ (w' : World) (L' : List HP), Own w' (stk s m2 :: L') → Calls Try.prog 26 #[.pointer (some ⟨s, 0, none⟩)] w' (RetX w' (fun v : Value => v) (fun v => rdA 1 v 32 (bcs T) :: stk s m2 :: L'))) := Lib.hid fun w' L' h => by
              have h3 := sbytes_v w' L' s m2 h HMO2.out
              have e3 : m2.bytes = T := by rw [hm2, HT.out]; exact settled_bytesG HMO.out h2
              rw [e3] at h3
              exact h3
            clear hm2 hC hC32 h1 h2
            go_upto_region 22 with (first | (go_at_call 28; (with_reducible refine Calls.mono (HRO.out _ _ hO) ?_); clear hO; rintro e1 u ⟨gc, rfl, hO, hSn⟩; replace hS := hS.trans hSn; clear hSn))
            refine wp_region_own (α := Value) (fun x => .pointer (some ⟨s, 0, none⟩) :: (.slice (some ad) 30 c1) :: .int .i64 0 :: .bool false :: .bool false :: .pointer (some ⟨s, 0, none⟩) :: x :: .string (bstr C) :: .slice (some ⟨gc, 0, none⟩) 32 32 :: .string (bstr C) :: .bool false :: .bool false :: []) (fun D x => sHL (stk s m2 :: [pts gc (.cells (bcs C).toArray 46), engP e E, pts gb (.cells (bcs T).toArray 47), snap w]) (stk s m :: [pts gc (.cells (bcs C).toArray 46), engP e E, pts gb (.cells (bcs T).toArray 47), snap w]) (fun v => rdA 1 v 32 (bcs C)) (D 6) (D 2) x) _ undef 119 (fun _ => rfl) mixed (by kernel_rfl) rfl (by exact own_heap hO (fun _ _ h => h)) (Same.drew _) (fun _ _ _ _ hd h => ⟨hd ▸ h.1, h.2⟩) ?_ ?_
            · refine ⟨?_, ?_, ?_, ?_, ?_, ?_, ?_, ?_, ?_, ?_, ?_, ?_, trivial⟩
              · (refine @fs_pure _ _ _ _ _ _ _ _ _ _ (fun D x => by exact sHL_upd (by decide) (by decide)) (fun D x hD hcl hp => ?_); simp only [putO]; simp only [Act.put, List.setIfInBounds_toArray, List.set_cons_zero, List.set_cons_succ]; exact y_run rfl (by intro w h; clear h hp hcl hD; go_simp; first | done | rfl))
              · (refine @fs_pure _ _ _ _ _ _ _ _ _ _ (fun D x => by exact sHL_upd (by decide) (by decide)) (fun D x hD hcl hp => ?_); simp only [putO]; simp only [Act.put, List.setIfInBounds_toArray, List.set_cons_zero, List.set_cons_succ]; exact y_run rfl (by intro w h; clear h hp hcl hD; go_simp; first | done | rfl))
              · intro D x w5 hD hcl hp hO5 hS5
                have h6 : D 6 = false := behL_ok hcl hD (j := 6) (by kernel_rfl)
                simp only [putO]
                simp only [Act.put, List.setIfInBounds_toArray, List.set_cons_zero, List.set_cons_succ]
                refine ev_call rfl (by go_simp; first | done | exact ⟨rfl, rfl⟩) ?_
                have hO5 := sHL_none hO5 h6 hD
                have hO5 : Own w5 (stk s m :: [pts gc (.cells (bcs C).toArray 46), engP e E, pts gb (.cells (bcs T).toArray 47), snap w]) := hO5
                refine Calls.mono (HST.out _ _ _ hO5) ?_
                rintro e2 w6 ⟨rfl, hO6, hS6⟩
                have e6 : upd D 2 6 = false := h6
                have e7 : upd D 2 2 = true := rfl
                exact ⟨_, rfl, wpList_nil ⟨rfl, x, (by intros; first | trivial | rfl), fun d hd _ => by cases hd; rfl, sHL_mk2 hO6 e6 e7, hS5.trans hS6⟩⟩
              · (refine @fs_pure _ _ _ _ _ _ _ _ _ _ (fun D x => by exact sHL_upd (by decide) (by decide)) (fun D x hD hcl hp => ?_); simp only [putO]; simp only [Act.put, List.setIfInBounds_toArray, List.set_cons_zero, List.set_cons_succ]; exact y_run rfl (by intro w h; clear h hp hcl hD; go_simp; first | done | rfl))
              · (refine @fs_pure _ _ _ _ _ _ _ _ _ _ (fun D x => by exact sHL_upd (by decide) (by decide)) (fun D x hD hcl hp => ?_); simp only [putO]; simp only [Act.put, List.setIfInBounds_toArray, List.set_cons_zero, List.set_cons_succ]; exact y_run rfl (by intro w h; clear h hp hcl hD; go_simp; first | done | rfl))
              · (refine @fs_pure _ _ _ _ _ _ _ _ _ _ (fun D x => by exact sHL_upd (by decide) (by decide)) (fun D x hD hcl hp => ?_); simp only [putO]; simp only [Act.put, List.setIfInBounds_toArray, List.set_cons_zero, List.set_cons_succ]; exact y_run rfl (by intro w h; clear h hp hcl hD; go_simp; first | done | rfl))
              · intro D x w5 hD hcl hp hO5 hS5
                have h4 : D 4 = true := dep_yes hp rfl
                have h3 : D 3 = true := dep_yes (hcl 4 _ rfl h4) rfl
                have h2 : D 2 = true := dep_yes (hcl 3 _ rfl h3) rfl
                simp only [putO]
                simp only [Act.put, List.setIfInBounds_toArray, List.set_cons_zero, List.set_cons_succ]
                refine ev_call rfl (by go_simp; first | done | exact ⟨rfl, rfl⟩) ?_
                have hO5 := sHL_two hO5 hD h2
                have hO5 : Own w5 (stk s m2 :: [pts gc (.cells (bcs C).toArray 46), engP e E, pts gb (.cells (bcs T).toArray 47), snap w]) := hO5
                refine Calls.mono (HBA.out _ _ hO5) ?_
                rintro e2 w6 ⟨v, rfl, hO6, hS6⟩
                have e6 : upd D 6 6 = true := rfl
                refine ⟨_, rfl, wpList_nil ⟨rfl, v, fun j hj => ?_, fun d hd _ => by cases hd; rfl, sHL_mk6 hO6 e6, hS5.trans hS6⟩⟩
                rcases j with _ | _ | _ | _ | _ | _ | _ | j
                · rfl
                · rfl
                · rfl
                · rfl
                · rfl
                · rfl
                · rw [hD] at hj; cases hj
                · rfl
              · refine @fs_pure _ _ _ _ _ _ _ _ _ _ (fun D x => by exact sHL_upd (by decide) (by decide)) (fun D x hD hcl hp => ?_)
                have h6 : D 6 = true := dep_yes hp rfl
                simp only [putO]
                simp only [Act.put, List.setIfInBounds_toArray, List.set_cons_zero, List.set_cons_succ]
                clear hp hcl
                refine y_string (v := x) (n := 32) (bs := C) rfl rfl rfl Try.underlying22 Try.underlying5 Try.underlying9 HCN.out (fun w h => ?_)
                exact rdA_rd (sHL_read h.1 h6)
              · (refine @fs_pure _ _ _ _ _ _ _ _ _ _ (fun D x => by exact sHL_upd (by decide) (by decide)) (fun D x hD hcl hp => ?_); simp only [putO]; simp only [Act.put, List.setIfInBounds_toArray, List.set_cons_zero, List.set_cons_succ]; exact y_run rfl (by intro w h; clear h hp hcl hD; go_simp; first | done | rfl))
              · refine @fs_pure _ _ _ _ _ _ _ _ _ _ (fun D x => by exact sHL_upd (by decide) (by decide)) (fun D x hD hcl hp => ?_)
                simp only [putO]
                simp only [Act.put, List.setIfInBounds_toArray, List.set_cons_zero, List.set_cons_succ]
                refine y_string (v := .slice (some ⟨gc, 0, none⟩) 32 32) (n := 32) (bs := C) rfl rfl rfl Try.underlying22 Try.underlying5 Try.underlying9 HCN.out (fun w h => ?_)
                have h0 : ∃ L', Own w (pts gc (.cells (bcs C).toArray 46) :: L') := sHL_all h.1 (List.mem_cons_of_mem _ (List.mem_cons_self ..)) (List.mem_cons_of_mem _ (List.mem_cons_self ..))
                obtain ⟨L', h0⟩ := h0
                exact rd_block (own_get 0 h0 rfl) (by rw [Nat.mul_one]; exact List.take_of_length_le (by simp [bcs_length, HC32.out])) (by simp [bcs_length, HC32.out]) (Nat.le_refl _) (by decide)
              · (refine @fs_pure _ _ _ _ _ _ _ _ _ _ (fun D x => by exact sHL_upd (by decide) (by decide)) (fun D x hD hcl hp => ?_); simp only [putO]; simp only [Act.put, List.setIfInBounds_toArray, List.set_cons_zero, List.set_cons_succ]; exact y_run rfl (by intro w h; clear h hp hcl hD; go_simp; first | done | rfl))
              · (refine @fs_pure _ _ _ _ _ _ _ _ _ _ (fun D x => by exact sHL_upd (by decide) (by decide)) (fun D x hD hcl hp => ?_); simp only [putO]; simp only [Act.put, List.setIfInBounds_toArray, List.set_cons_zero, List.set_cons_succ]; exact y_run rfl (by intro w h; clear h hp hcl hD; go_simp; first | done | rfl))
            intro x w12 D hD hO hS12
            have hO := sHL_read hO (hD 6 (by decide))
            have hO : Own w12 (rdA 1 x 32 (bcs C) :: stk s m2 :: [pts gc (.cells (bcs C).toArray 46), engP e E, pts gb (.cells (bcs T).toArray 47), snap w]) := hO
            have hO : Own w12 ([stk s m2, pts gb (.cells (bcs T).toArray 47)] ++ [snap w]) := own_sub hO (.cons _ (.cons_cons _ (.cons _ (.cons _ (List.Sublist.refl _)))))
            simp only [putO]
            simp only [Act.put, List.setIfInBounds_toArray, List.set_cons_zero, List.set_cons_succ]
            simp only [Exit.then]
            clear hD
            replace hS := hS.trans hS12
            clear hS12
            go_upto_region 24 with fail
            refine wp_region_own (α := Nat → Value) (fun x => .pointer (some ⟨s, 0, none⟩) :: x 1 :: .string (bstr T) :: .slice (some ⟨gb, 0, none⟩) 32 32 :: .string (bstr T) :: .bool true :: .bool true :: []) (fun D x => ([stk s m2, pts gb (.cells (bcs T).toArray 47)] ++ [snap w]) ++ owL ([(1, none, fun v => rdA 1 v 32 (bcs T))]) D x) w12 (fun _ => undef) 119 (fun _ => rfl) mixed (by kernel_rfl) rfl (by rw [owL_none, List.append_nil]; exact own_heap hO (fun _ _ h => h)) (Same.drew _) (fun _ _ _ _ hd h => ⟨hd ▸ h.1, h.2⟩) ?_ ?_
            · refine ⟨?_, ?_, ?_, ?_, ?_, ?_, ?_, trivial⟩
              · (refine fs_pure (fun _ _ => rfl) (fun D x hD hcl hp => ?_); simp only [putO]; simp only [Act.put, List.setIfInBounds_toArray, List.set_cons_zero, List.set_cons_succ]; first | exact y_skip rfl | exact y_run rfl (by intro w h; go_simp; first | done | rfl))
              · (refine @fs_new _ _ _ _ _ _ _ _ _ _ _ _ [] (fun v => v) rfl rfl (by kernel_rfl) (by kernel_rfl) (by intro j; rcases j with _ | j; (focus (first | exact .inr fun _ _ => rfl | exact .inl (by kernel_rfl))); rcases j with _ | j; (focus (first | exact .inr fun _ _ => rfl | exact .inl (by kernel_rfl))); rcases j with _ | j; (focus (first | exact .inr fun _ _ => rfl | exact .inl (by kernel_rfl))); rcases j with _ | j; (focus (first | exact .inr fun _ _ => rfl | exact .inl (by kernel_rfl))); rcases j with _ | j; (focus (first | exact .inr fun _ _ => rfl | exact .inl (by kernel_rfl))); rcases j with _ | j; (focus (first | exact .inr fun _ _ => rfl | exact .inl (by kernel_rfl))); rcases j with _ | j; (focus (first | exact .inr fun _ _ => rfl | exact .inl (by kernel_rfl))); exact .inr fun _ _ => rfl) (fun _ _ => rfl) ?_; intro D x u hD hcl hp hO hS N hN; simp only [putO]; simp only [Act.put, List.setIfInBounds_toArray, List.set_cons_zero, List.set_cons_succ]; refine ev_call rfl (by go_simp; first | done | exact ⟨rfl, rfl⟩) ?_; refine Calls.mono (HBY.out _ _ hO) ?_; rintro e u' ⟨v, rfl, hO', hS'⟩; exact ⟨_, rfl, hN _ v u' rfl rfl hO' hS'⟩)
              · refine @fs_pureO _ _ _ _ _ _ _ _ _ _ (by kernel_rfl) (fun D x hD hcl hp => ?_)
                simp only [putO]
                simp only [Act.put, List.setIfInBounds_toArray, List.set_cons_zero, List.set_cons_succ]
                refine y_string (v := x 1) (n := 32) (bs := T) rfl rfl rfl Try.underlying22 Try.underlying5 Try.underlying9 HN.out (fun w h => ?_)
                obtain ⟨L6, o6⟩ := ow_get 0 h.1 rfl (dep_yes hp rfl)
                exact rdA_rd o6
              · (refine fs_pure (fun _ _ => rfl) (fun D x hD hcl hp => ?_); simp only [putO]; simp only [Act.put, List.setIfInBounds_toArray, List.set_cons_zero, List.set_cons_succ]; first | exact y_skip rfl | exact y_run rfl (by intro w h; go_simp; first | done | rfl))
              · (refine fs_pure (fun _ _ => rfl) (fun D x hD hcl hp => ?_); simp only [putO]; simp only [Act.put, List.setIfInBounds_toArray, List.set_cons_zero, List.set_cons_succ]; first | exact y_skip rfl | exact (y_string (v := .slice (some ⟨gb, 0, none⟩) 32 32) (n := 32) (bs := T) rfl rfl rfl Try.underlying22 Try.underlying5 Try.underlying9 HN.out (fun w h => rd_block (own_get 1 h.1 rfl) (by rw [Nat.mul_one]; exact List.take_of_length_le (by simp [bcs_length, HT32.out])) (by simp [bcs_length, HT32.out]) (Nat.le_refl _) (by decide))) | exact y_run rfl (by intro w h; go_simp; first | done | rfl))
              · (refine fs_pure (fun _ _ => rfl) (fun D x hD hcl hp => ?_); simp only [putO]; simp only [Act.put, List.setIfInBounds_toArray, List.set_cons_zero, List.set_cons_succ]; first | exact y_skip rfl | exact y_run rfl (by intro w h; go_simp; first | done | rfl))
              · (refine fs_pure (fun _ _ => rfl) (fun D x hD hcl hp => ?_); simp only [putO]; simp only [Act.put, List.setIfInBounds_toArray, List.set_cons_zero, List.set_cons_succ]; first | exact y_skip rfl | exact y_run rfl (by intro w h; go_simp; first | done | rfl))
            intro x w14 D hD hO hS14
            have hO : Own w14 [stk s m2, pts gb (.cells (bcs T).toArray 47), snap w] := own_sub hO (List.sublist_append_left _ _)
            simp only [putO]
            simp only [Act.put, List.setIfInBounds_toArray, List.set_cons_zero, List.set_cons_succ]
            simp only [Exit.then]
            clear hD
            replace hS := hS.trans hS14
            clear hS14
            go_wp2
            go_ret
            exact ⟨rfl, below_of (own_at hO (k := 2) rfl) hS⟩
        · have hg : ¬ ((30 : Int) < pl.length) := by omega
          have HKR : Hid (∀ (w' : World) (L' : List HP), Own w' (snap w :: L') → Rd w' 1 (.slice A1 pl.length c1) pl.length (ints pl)) := Lib.hid fun w' L' h => HP1.out w' L' h
          have HKI := HPI
          clear h30
          go_upto_region 19 with fail
          rcases roll_cases (m := m) pl with ⟨ee, he0, he⟩ | ⟨h1, h2⟩
          · have HRN : Hid (∀ (w' : World) (L' : List HP), Own w' (stk s m :: engP e E :: pts gb (.cells (bcs T).toArray 47) :: snap w :: L') → Calls Try.prog 28 #[.pointer (some ⟨s, 0, none⟩), (.slice A1 pl.length c1)] w' (Ret w' (.tuple #[.slice none 0 0, .int .i64 ee]) (stk s m :: engP e E :: pts gb (.cells (bcs T).toArray 47) :: snap w :: L'))) := Lib.hid fun w' L' h => roll_no w' _ s m (.slice A1 pl.length c1) pl h HMO.out (fun w2 h2 => HKR.out _ _ (own_at h2 (k := 2) rfl)) HKI.out ee he
            have hne : (ee != 0) = true := by simpa using he0
            clear he0 he
            go_wp2_with (first | (go_at_call 28; (with_reducible refine Calls.mono (HRN.out _ _ hO) ?_); clear hO; rintro e1 u ⟨rfl, hO, hSn⟩; replace hS := hS.trans hSn; clear hSn))
            go_ret
            exact ⟨rfl, below_of (own_at hO (k := 3) rfl) hS⟩
          · obtain ⟨m2, hm2⟩ : ∃ m2, m2 = m.settled pl := ⟨_, rfl⟩
            obtain ⟨C, hC⟩ : ∃ C, C = appAll m.base (selL m.l pl) := ⟨_, rfl⟩
            have hC32 : C.length = 32 := by rw [hC]; exact (settledG_ok HMO.out pl).base
            have HC32 := Lib.hid hC32
            have HCN : Hid (32 = C.length) := hC32.symm
            have HRO : Hid (∀ (w' : World) (L' : List HP), Own w' (stk s m :: engP e E :: pts gb (.cells (bcs T).toArray 47) :: snap w :: L') → Calls Try.prog 28 #[.pointer (some ⟨s, 0, none⟩), (.slice A1 pl.length c1)] w' (RetX w' (fun g => .tuple #[.slice (some ⟨g, 0, none⟩) 32 32, .int .i64 0]) (fun g => stk s m :: pts g (.cells (bcs C).toArray 46) :: engP e E :: pts gb (.cells (bcs T).toArray 47) :: snap w :: L'))) := Lib.hid fun w' L' h => by
              rw [hC]
              exact roll_ok w' _ s m (.slice A1 pl.length c1) pl h HMO.out (fun w2 h2 => HKR.out _ _ (own_at h2 (k := 2) rfl)) HKI.out h1 h2
            have HST : Hid (∀ (w' : World) (X : HP) (L' : List HP), Own w' (stk s m :: X :: engP e E :: pts gb (.cells (bcs T).toArray 47) :: snap w :: L') → Calls Try.prog 29 #[.pointer (some ⟨s, 0, none⟩), (.slice A1 pl.length c1)] w' (Ret w' (.int .i64 0) (stk s m2 :: X :: engP e E :: pts gb (.cells (bcs T).toArray 47) :: snap w :: L'))) := Lib.hid fun w' X L' h => by
              rw [hm2]
              exact settle_ok w' _ s m (.slice A1 pl.length c1) pl h HMO.out (fun w2 h2 => HKR.out _ _ (own_at h2 (k := 3) rfl)) HKI.out h1 h2
            have HMO2 : Hid m2.Ok := by show Stk.Ok m2; rw [hm2]; exact settledG_ok HMO.out pl
            have HBA : Hid (∀ (w' : World) (L' : List HP), Own w' (stk s m2 :: L') → Calls Try.prog 30 #[.pointer (some ⟨s, 0, none⟩)] w' (RetX w' (fun v : Value => v) (fun v => rdA 1 v 32 (bcs C) :: stk s m2 :: L'))) := Lib.hid fun w' L' h => by
              have h3 := sbase_v w' L' s m2 h HMO2.out
              have e3 : m2.base = C := by rw [hm2, hC]; rfl
              rw [e3] at h3
              exact h3
            have HBY : Hid (∀ (w' : World) (L' : List HP), Own w' (stk s m2 :: L') → Calls Try.prog 26 #[.pointer (some ⟨s, 0, none⟩)] w' (RetX w' (fun v : Value => v) (fun v => rdA 1 v 32 (bcs T) :: stk s m2 :: L'))) := Lib.hid fun w' L' h => by
              have h3 := sbytes_v w' L' s m2 h HMO2.out
              have e3 : m2.bytes = T := by rw [hm2, HT.out]; exact settled_bytesG HMO.out h2
              rw [e3] at h3
              exact h3
            clear hm2 hC hC32 h1 h2
            go_upto_region 22 with (first | (go_at_call 28; (with_reducible refine Calls.mono (HRO.out _ _ hO) ?_); clear hO; rintro e1 u ⟨gc, rfl, hO, hSn⟩; replace hS := hS.trans hSn; clear hSn))
            refine wp_region_own (α := Value) (fun x => .pointer (some ⟨s, 0, none⟩) :: (.slice A1 pl.length c1) :: .int .i64 0 :: .bool false :: .bool false :: .pointer (some ⟨s, 0, none⟩) :: x :: .string (bstr C) :: .slice (some ⟨gc, 0, none⟩) 32 32 :: .string (bstr C) :: .bool false :: .bool false :: []) (fun D x => sHL (stk s m2 :: [pts gc (.cells (bcs C).toArray 46), engP e E, pts gb (.cells (bcs T).toArray 47), snap w]) (stk s m :: [pts gc (.cells (bcs C).toArray 46), engP e E, pts gb (.cells (bcs T).toArray 47), snap w]) (fun v => rdA 1 v 32 (bcs C)) (D 6) (D 2) x) _ undef 119 (fun _ => rfl) mixed (by kernel_rfl) rfl (by exact own_heap hO (fun _ _ h => h)) (Same.drew _) (fun _ _ _ _ hd h => ⟨hd ▸ h.1, h.2⟩) ?_ ?_
            · refine ⟨?_, ?_, ?_, ?_, ?_, ?_, ?_, ?_, ?_, ?_, ?_, ?_, trivial⟩
              · (refine @fs_pure _ _ _ _ _ _ _ _ _ _ (fun D x => by exact sHL_upd (by decide) (by decide)) (fun D x hD hcl hp => ?_); simp only [putO]; simp only [Act.put, List.setIfInBounds_toArray, List.set_cons_zero, List.set_cons_succ]; exact y_run rfl (by intro w h; clear h hp hcl hD; go_simp; first | done | rfl))
              · (refine @fs_pure _ _ _ _ _ _ _ _ _ _ (fun D x => by exact sHL_upd (by decide) (by decide)) (fun D x hD hcl hp => ?_); simp only [putO]; simp only [Act.put, List.setIfInBounds_toArray, List.set_cons_zero, List.set_cons_succ]; exact y_run rfl (by intro w h; clear h hp hcl hD; go_simp; first | done | rfl))
              · intro D x w5 hD hcl hp hO5 hS5
                have h6 : D 6 = false := behL_ok hcl hD (j := 6) (by kernel_rfl)
                simp only [putO]
                simp only [Act.put, List.setIfInBounds_toArray, List.set_cons_zero, List.set_cons_succ]
                refine ev_call rfl (by go_simp; first | done | exact ⟨rfl, rfl⟩) ?_
                have hO5 := sHL_none hO5 h6 hD
                have hO5 : Own w5 (stk s m :: [pts gc (.cells (bcs C).toArray 46), engP e E, pts gb (.cells (bcs T).toArray 47), snap w]) := hO5
                refine Calls.mono (HST.out _ _ _ hO5) ?_
                rintro e2 w6 ⟨rfl, hO6, hS6⟩
                have e6 : upd D 2 6 = false := h6
                have e7 : upd D 2 2 = true := rfl
                exact ⟨_, rfl, wpList_nil ⟨rfl, x, (by intros; first | trivial | rfl), fun d hd _ => by cases hd; rfl, sHL_mk2 hO6 e6 e7, hS5.trans hS6⟩⟩
              · (refine @fs_pure _ _ _ _ _ _ _ _ _ _ (fun D x => by exact sHL_upd (by decide) (by decide)) (fun D x hD hcl hp => ?_); simp only [putO]; simp only [Act.put, List.setIfInBounds_toArray, List.set_cons_zero, List.set_cons_succ]; exact y_run rfl (by intro w h; clear h hp hcl hD; go_simp; first | done | rfl))
              · (refine @fs_pure _ _ _ _ _ _ _ _ _ _ (fun D x => by exact sHL_upd (by decide) (by decide)) (fun D x hD hcl hp => ?_); simp only [putO]; simp only [Act.put, List.setIfInBounds_toArray, List.set_cons_zero, List.set_cons_succ]; exact y_run rfl (by intro w h; clear h hp hcl hD; go_simp; first | done | rfl))
              · (refine @fs_pure _ _ _ _ _ _ _ _ _ _ (fun D x => by exact sHL_upd (by decide) (by decide)) (fun D x hD hcl hp => ?_); simp only [putO]; simp only [Act.put, List.setIfInBounds_toArray, List.set_cons_zero, List.set_cons_succ]; exact y_run rfl (by intro w h; clear h hp hcl hD; go_simp; first | done | rfl))
              · intro D x w5 hD hcl hp hO5 hS5
                have h4 : D 4 = true := dep_yes hp rfl
                have h3 : D 3 = true := dep_yes (hcl 4 _ rfl h4) rfl
                have h2 : D 2 = true := dep_yes (hcl 3 _ rfl h3) rfl
                simp only [putO]
                simp only [Act.put, List.setIfInBounds_toArray, List.set_cons_zero, List.set_cons_succ]
                refine ev_call rfl (by go_simp; first | done | exact ⟨rfl, rfl⟩) ?_
                have hO5 := sHL_two hO5 hD h2
                have hO5 : Own w5 (stk s m2 :: [pts gc (.cells (bcs C).toArray 46), engP e E, pts gb (.cells (bcs T).toArray 47), snap w]) := hO5
                refine Calls.mono (HBA.out _ _ hO5) ?_
                rintro e2 w6 ⟨v, rfl, hO6, hS6⟩
                have e6 : upd D 6 6 = true := rfl
                refine ⟨_, rfl, wpList_nil ⟨rfl, v, fun j hj => ?_, fun d hd _ => by cases hd; rfl, sHL_mk6 hO6 e6, hS5.trans hS6⟩⟩
                rcases j with _ | _ | _ | _ | _ | _ | _ | j
                · rfl
                · rfl
                · rfl
                · rfl
                · rfl
                · rfl
                · rw [hD] at hj; cases hj
                · rfl
              · refine @fs_pure _ _ _ _ _ _ _ _ _ _ (fun D x => by exact sHL_upd (by decide) (by decide)) (fun D x hD hcl hp => ?_)
                have h6 : D 6 = true := dep_yes hp rfl
                simp only [putO]
                simp only [Act.put, List.setIfInBounds_toArray, List.set_cons_zero, List.set_cons_succ]
                clear hp hcl
                refine y_string (v := x) (n := 32) (bs := C) rfl rfl rfl Try.underlying22 Try.underlying5 Try.underlying9 HCN.out (fun w h => ?_)
                exact rdA_rd (sHL_read h.1 h6)
              · (refine @fs_pure _ _ _ _ _ _ _ _ _ _ (fun D x => by exact sHL_upd (by decide) (by decide)) (fun D x hD hcl hp => ?_); simp only [putO]; simp only [Act.put, List.setIfInBounds_toArray, List.set_cons_zero, List.set_cons_succ]; exact y_run rfl (by intro w h; clear h hp hcl hD; go_simp; first | done | rfl))
              · refine @fs_pure _ _ _ _ _ _ _ _ _ _ (fun D x => by exact sHL_upd (by decide) (by decide)) (fun D x hD hcl hp => ?_)
                simp only [putO]
                simp only [Act.put, List.setIfInBounds_toArray, List.set_cons_zero, List.set_cons_succ]
                refine y_string (v := .slice (some ⟨gc, 0, none⟩) 32 32) (n := 32) (bs := C) rfl rfl rfl Try.underlying22 Try.underlying5 Try.underlying9 HCN.out (fun w h => ?_)
                have h0 : ∃ L', Own w (pts gc (.cells (bcs C).toArray 46) :: L') := sHL_all h.1 (List.mem_cons_of_mem _ (List.mem_cons_self ..)) (List.mem_cons_of_mem _ (List.mem_cons_self ..))
                obtain ⟨L', h0⟩ := h0
                exact rd_block (own_get 0 h0 rfl) (by rw [Nat.mul_one]; exact List.take_of_length_le (by simp [bcs_length, HC32.out])) (by simp [bcs_length, HC32.out]) (Nat.le_refl _) (by decide)
              · (refine @fs_pure _ _ _ _ _ _ _ _ _ _ (fun D x => by exact sHL_upd (by decide) (by decide)) (fun D x hD hcl hp => ?_); simp only [putO]; simp only [Act.put, List.setIfInBounds_toArray, List.set_cons_zero, List.set_cons_succ]; exact y_run rfl (by intro w h; clear h hp hcl hD; go_simp; first | done | rfl))
              · (refine @fs_pure _ _ _ _ _ _ _ _ _ _ (fun D x => by exact sHL_upd (by decide) (by decide)) (fun D x hD hcl hp => ?_); simp only [putO]; simp only [Act.put, List.setIfInBounds_toArray, List.set_cons_zero, List.set_cons_succ]; exact y_run rfl (by intro w h; clear h hp hcl hD; go_simp; first | done | rfl))
            intro x w12 D hD hO hS12
            have hO := sHL_read hO (hD 6 (by decide))
            have hO : Own w12 (rdA 1 x 32 (bcs C) :: stk s m2 :: [pts gc (.cells (bcs C).toArray 46), engP e E, pts gb (.cells (bcs T).toArray 47), snap w]) := hO
            have hO : Own w12 ([stk s m2, pts gb (.cells (bcs T).toArray 47)] ++ [snap w]) := own_sub hO (.cons _ (.cons_cons _ (.cons _ (.cons _ (List.Sublist.refl _)))))
            simp only [putO]
            simp only [Act.put, List.setIfInBounds_toArray, List.set_cons_zero, List.set_cons_succ]
            simp only [Exit.then]
            clear hD
            replace hS := hS.trans hS12
            clear hS12
            go_upto_region 24 with fail
            refine wp_region_own (α := Nat → Value) (fun x => .pointer (some ⟨s, 0, none⟩) :: x 1 :: .string (bstr T) :: .slice (some ⟨gb, 0, none⟩) 32 32 :: .string (bstr T) :: .bool true :: .bool true :: []) (fun D x => ([stk s m2, pts gb (.cells (bcs T).toArray 47)] ++ [snap w]) ++ owL ([(1, none, fun v => rdA 1 v 32 (bcs T))]) D x) w12 (fun _ => undef) 119 (fun _ => rfl) mixed (by kernel_rfl) rfl (by rw [owL_none, List.append_nil]; exact own_heap hO (fun _ _ h => h)) (Same.drew _) (fun _ _ _ _ hd h => ⟨hd ▸ h.1, h.2⟩) ?_ ?_
            · refine ⟨?_, ?_, ?_, ?_, ?_, ?_, ?_, trivial⟩
              · (refine fs_pure (fun _ _ => rfl) (fun D x hD hcl hp => ?_); simp only [putO]; simp only [Act.put, List.setIfInBounds_toArray, List.set_cons_zero, List.set_cons_succ]; first | exact y_skip rfl | exact y_run rfl (by intro w h; go_simp; first | done | rfl))
              · (refine @fs_new _ _ _ _ _ _ _ _ _ _ _ _ [] (fun v => v) rfl rfl (by kernel_rfl) (by kernel_rfl) (by intro j; rcases j with _ | j; (focus (first | exact .inr fun _ _ => rfl | exact .inl (by kernel_rfl))); rcases j with _ | j; (focus (first | exact .inr fun _ _ => rfl | exact .inl (by kernel_rfl))); rcases j with _ | j; (focus (first | exact .inr fun _ _ => rfl | exact .inl (by kernel_rfl))); rcases j with _ | j; (focus (first | exact .inr fun _ _ => rfl | exact .inl (by kernel_rfl))); rcases j with _ | j; (focus (first | exact .inr fun _ _ => rfl | exact .inl (by kernel_rfl))); rcases j with _ | j; (focus (first | exact .inr fun _ _ => rfl | exact .inl (by kernel_rfl))); rcases j with _ | j; (focus (first | exact .inr fun _ _ => rfl | exact .inl (by kernel_rfl))); exact .inr fun _ _ => rfl) (fun _ _ => rfl) ?_; intro D x u hD hcl hp hO hS N hN; simp only [putO]; simp only [Act.put, List.setIfInBounds_toArray, List.set_cons_zero, List.set_cons_succ]; refine ev_call rfl (by go_simp; first | done | exact ⟨rfl, rfl⟩) ?_; refine Calls.mono (HBY.out _ _ hO) ?_; rintro e u' ⟨v, rfl, hO', hS'⟩; exact ⟨_, rfl, hN _ v u' rfl rfl hO' hS'⟩)
              · refine @fs_pureO _ _ _ _ _ _ _ _ _ _ (by kernel_rfl) (fun D x hD hcl hp => ?_)
                simp only [putO]
                simp only [Act.put, List.setIfInBounds_toArray, List.set_cons_zero, List.set_cons_succ]
                refine y_string (v := x 1) (n := 32) (bs := T) rfl rfl rfl Try.underlying22 Try.underlying5 Try.underlying9 HN.out (fun w h => ?_)
                obtain ⟨L6, o6⟩ := ow_get 0 h.1 rfl (dep_yes hp rfl)
                exact rdA_rd o6
              · (refine fs_pure (fun _ _ => rfl) (fun D x hD hcl hp => ?_); simp only [putO]; simp only [Act.put, List.setIfInBounds_toArray, List.set_cons_zero, List.set_cons_succ]; first | exact y_skip rfl | exact y_run rfl (by intro w h; go_simp; first | done | rfl))
              · (refine fs_pure (fun _ _ => rfl) (fun D x hD hcl hp => ?_); simp only [putO]; simp only [Act.put, List.setIfInBounds_toArray, List.set_cons_zero, List.set_cons_succ]; first | exact y_skip rfl | exact (y_string (v := .slice (some ⟨gb, 0, none⟩) 32 32) (n := 32) (bs := T) rfl rfl rfl Try.underlying22 Try.underlying5 Try.underlying9 HN.out (fun w h => rd_block (own_get 1 h.1 rfl) (by rw [Nat.mul_one]; exact List.take_of_length_le (by simp [bcs_length, HT32.out])) (by simp [bcs_length, HT32.out]) (Nat.le_refl _) (by decide))) | exact y_run rfl (by intro w h; go_simp; first | done | rfl))
              · (refine fs_pure (fun _ _ => rfl) (fun D x hD hcl hp => ?_); simp only [putO]; simp only [Act.put, List.setIfInBounds_toArray, List.set_cons_zero, List.set_cons_succ]; first | exact y_skip rfl | exact y_run rfl (by intro w h; go_simp; first | done | rfl))
              · (refine fs_pure (fun _ _ => rfl) (fun D x hD hcl hp => ?_); simp only [putO]; simp only [Act.put, List.setIfInBounds_toArray, List.set_cons_zero, List.set_cons_succ]; first | exact y_skip rfl | exact y_run rfl (by intro w h; go_simp; first | done | rfl))
            intro x w14 D hD hO hS14
            have hO : Own w14 [stk s m2, pts gb (.cells (bcs T).toArray 47), snap w] := own_sub hO (List.sublist_append_left _ _)
            simp only [putO]
            simp only [Act.put, List.setIfInBounds_toArray, List.set_cons_zero, List.set_cons_succ]
            simp only [Exit.then]
            clear hD
            replace hS := hS.trans hS14
            clear hS14
            go_wp2
            go_ret
            exact ⟨rfl, below_of (own_at hO (k := 2) rfl) hS⟩
      · have f3 : ¬ ((i : Int) < ps.length) := by omega
        clear hgo hlt
        go_upto_region 15 with (first | (go_at_call 25; (with_reducible refine Calls.mono (HBK.out _ _ (own_swap hO)) ?_); clear hO; rintro e1 u ⟨gb, rfl, hO, hSn⟩; replace hS := hS.trans hSn; clear hSn))
        have hO : Own _ ([stk s m, engP e E, pts gb (.cells (bcs T).toArray 47)] ++ [snap w]) := own_order [2, 1, 0] hO rfl
        refine wp_region_own (α := Nat → Value) (fun x => .int .i64 0 :: .bool false :: .bool false :: .slice (some ⟨gb, 0, none⟩) 32 32 :: .string (bstr T) :: .pointer (some ⟨s, 0, none⟩) :: x 6 :: .string (bstr T) :: .bool false :: .bool false :: .bool false :: .pointer (some ⟨s, 0, none⟩) :: x 12 :: .int .i64 n :: .pointer (some ⟨e, 0, none⟩) :: x 15 :: .int .i64 n :: .bool false :: .bool false :: []) (fun D x => ([stk s m, engP e E, pts gb (.cells (bcs T).toArray 47)] ++ [snap w]) ++ owL ([(6, none, fun v => rdA 1 v 32 (bcs T)), (12, none, fun v => rdA 1 v n xs), (15, none, fun v => rdA 1 v n ys)]) D x) _ (fun _ => undef) 119 (fun _ => rfl) mixed (by kernel_rfl) rfl (by rw [owL_none, List.append_nil]; exact own_heap hO (fun _ _ h => h)) (Same.drew _) (fun _ _ _ _ hd h => ⟨hd ▸ h.1, h.2⟩) ?_ ?_
        · refine ⟨?_, ?_, ?_, ?_, ?_, ?_, ?_, ?_, ?_, ?_, ?_, ?_, ?_, ?_, ?_, ?_, ?_, ?_, ?_, trivial⟩
          · (refine @fs_pureO _ _ _ _ _ _ _ _ _ _ (by kernel_rfl) (fun D x hD hcl hp => ?_); simp only [putO]; simp only [Act.put, List.setIfInBounds_toArray, List.set_cons_zero, List.set_cons_succ]; first | exact y_run rfl (by intro w h; go_simp; first | done | rfl))
          · (refine @fs_pureO _ _ _ _ _ _ _ _ _ _ (by kernel_rfl) (fun D x hD hcl hp => ?_); simp only [putO]; simp only [Act.put, List.setIfInBounds_toArray, List.set_cons_zero, List.set_cons_succ]; first | exact y_run rfl (by intro w h; go_simp; first | done | rfl))
          · (refine @fs_pureO _ _ _ _ _ _ _ _ _ _ (by kernel_rfl) (fun D x hD hcl hp => ?_); simp only [putO]; simp only [Act.put, List.setIfInBounds_toArray, List.set_cons_zero, List.set_cons_succ]; first | exact y_run rfl (by intro w h; go_simp; first | done | rfl))
          · (refine @fs_pureO _ _ _ _ _ _ _ _ _ _ (by kernel_rfl) (fun D x hD hcl hp => ?_); simp only [putO]; simp only [Act.put, List.setIfInBounds_toArray, List.set_cons_zero, List.set_cons_succ]; first | exact y_run rfl (by intro w h; go_simp; first | done | rfl))
          · (refine @fs_pureO _ _ _ _ _ _ _ _ _ _ (by kernel_rfl) (fun D x hD hcl hp => ?_); simp only [putO]; simp only [Act.put, List.setIfInBounds_toArray, List.set_cons_zero, List.set_cons_succ]; first | exact (y_string (v := .slice (some ⟨gb, 0, none⟩) 32 32) (n := 32) (bs := T) rfl rfl rfl Try.underlying22 Try.underlying5 Try.underlying9 HN.out (fun w h => rd_block (own_get 2 h.1 rfl) (by rw [Nat.mul_one]; exact List.take_of_length_le (by simp [bcs_length, HT32.out])) (by simp [bcs_length, HT32.out]) (Nat.le_refl _) (by decide))) | exact y_run rfl (by intro w h; go_simp; first | done | rfl))
          · (refine @fs_pureO _ _ _ _ _ _ _ _ _ _ (by kernel_rfl) (fun D x hD hcl hp => ?_); simp only [putO]; simp only [Act.put, List.setIfInBounds_toArray, List.set_cons_zero, List.set_cons_succ]; first | exact y_run rfl (by intro w h; go_simp; first | done | rfl))
          · (refine @fs_new _ _ _ _ _ _ _ _ _ _ _ _ [] (fun v => v) rfl rfl (by kernel_rfl) (by kernel_rfl) (by intro j; rcases j with _ | j; (focus (first | exact .inr fun _ _ => rfl | exact .inl (by kernel_rfl))); rcases j with _ | j; (focus (first | exact .inr fun _ _ => rfl | exact .inl (by kernel_rfl))); rcases j with _ | j; (focus (first | exact .inr fun _ _ => rfl | exact .inl (by kernel_rfl))); rcases j with _ | j; (focus (first | exact .inr fun _ _ => rfl | exact .inl (by kernel_rfl))); rcases j with _ | j; (focus (first | exact .inr fun _ _ => rfl | exact .inl (by kernel_rfl))); rcases j with _ | j; (focus (first | exact .inr fun _ _ => rfl | exact .inl (by kernel_rfl))); rcases j with _ | j; (focus (first | exact .inr fun _ _ => rfl | exact .inl (by kernel_rfl))); rcases j with _ | j; (focus (first | exact .inr fun _ _ => rfl | exact .inl (by kernel_rfl))); rcases j with _ | j; (focus (first | exact .inr fun _ _ => rfl | exact .inl (by kernel_rfl))); rcases j with _ | j; (focus (first | exact .inr fun _ _ => rfl | exact .inl (by kernel_rfl))); rcases j with _ | j; (focus (first | exact .inr fun _ _ => rfl | exact .inl (by kernel_rfl))); rcases j with _ | j; (focus (first | exact .inr fun _ _ => rfl | exact .inl (by kernel_rfl))); rcases j with _ | j; (focus (first | exact .inr fun _ _ => rfl | exact .inl (by kernel_rfl))); rcases j with _ | j; (focus (first | exact .inr fun _ _ => rfl | exact .inl (by kernel_rfl))); rcases j with _ | j; (focus (first | exact .inr fun _ _ => rfl | exact .inl (by kernel_rfl))); rcases j with _ | j; (focus (first | exact .inr fun _ _ => rfl | exact .inl (by kernel_rfl))); rcases j with _ | j; (focus (first | exact .inr fun _ _ => rfl | exact .inl (by kernel_rfl))); rcases j with _ | j; (focus (first | exact .inr fun _ _ => rfl | exact .inl (by kernel_rfl))); rcases j with _ | j; (focus (first | exact .inr fun _ _ => rfl | exact .inl (by kernel_rfl))); exact .inr fun _ _ => rfl) (fun _ _ => rfl) ?_; intro D x u hD hcl hp hO hS N hN; simp only [putO]; simp only [Act.put, List.setIfInBounds_toArray, List.set_cons_zero, List.set_cons_succ]; refine ev_call rfl (by go_simp; first | done | exact ⟨rfl, rfl⟩) ?_; refine Calls.mono (HSB.out _ _ hO) ?_; rintro e u' ⟨v, rfl, hO', hS'⟩; exact ⟨_, rfl, hN _ v u' rfl rfl hO' hS'⟩)
          · refine @fs_pureO _ _ _ _ _ _ _ _ _ _ (by kernel_rfl) (fun D x hD hcl hp => ?_)
            simp only [putO]
            simp only [Act.put, List.setIfInBounds_toArray, List.set_cons_zero, List.set_cons_succ]
            refine y_string (v := x 6) (n := 32) (bs := T) rfl rfl rfl Try.underlying22 Try.underlying5 Try.underlying9 HN.out (fun w h => ?_)
            obtain ⟨L6, o6⟩ := ow_get 0 h.1 rfl (dep_yes hp rfl)
            exact rdA_rd o6
          · (refine @fs_pureO _ _ _ _ _ _ _ _ _ _ (by kernel_rfl) (fun D x hD hcl hp => ?_); simp only [putO]; simp only [Act.put, List.setIfInBounds_toArray, List.set_cons_zero, List.set_cons_succ]; first | exact y_run rfl (by intro w h; go_simp; first | done | rfl))
          · (refine @fs_pureO _ _ _ _ _ _ _ _ _ _ (by kernel_rfl) (fun D x hD hcl hp => ?_); simp only [putO]; simp only [Act.put, List.setIfInBounds_toArray, List.set_cons_zero, List.set_cons_succ]; first | exact y_run rfl (by intro w h; go_simp; first | done | rfl))
          · (refine @fs_pureO _ _ _ _ _ _ _ _ _ _ (by kernel_rfl) (fun D x hD hcl hp => ?_); simp only [putO]; simp only [Act.put, List.setIfInBounds_toArray, List.set_cons_zero, List.set_cons_succ]; first | exact y_run rfl (by intro w h; go_simp; first | done | rfl))
          · (refine @fs_pureO _ _ _ _ _ _ _ _ _ _ (by kernel_rfl) (fun D x hD hcl hp => ?_); simp only [putO]; simp only [Act.put, List.setIfInBounds_toArray, List.set_cons_zero, List.set_cons_succ]; first | exact y_run rfl (by intro w h; go_simp; first | done | rfl))
          · (refine @fs_new _ _ _ _ _ _ _ _ _ _ _ _ [] (fun v => v) rfl rfl (by kernel_rfl) (by kernel_rfl) (by intro j; rcases j with _ | j; (focus (first | exact .inr fun _ _ => rfl | exact .inl (by kernel_rfl))); rcases j with _ | j; (focus (first | exact .inr fun _ _ => rfl | exact .inl (by kernel_rfl))); rcases j with _ | j; (focus (first | exact .inr fun _ _ => rfl | exact .inl (by kernel_rfl))); rcases j with _ | j; (focus (first | exact .inr fun _ _ => rfl | exact .inl (by kernel_rfl))); rcases j with _ | j; (focus (first | exact .inr fun _ _ => rfl | exact .inl (by kernel_rfl))); rcases j with _ | j; (focus (first | exact .inr fun _ _ => rfl | exact .inl (by kernel_rfl))); rcases j with _ | j; (focus (first | exact .inr fun _ _ => rfl | exact .inl (by kernel_rfl))); rcases j with _ | j; (focus (first | exact .inr fun _ _ => rfl | exact .inl (by kernel_rfl))); rcases j with _ | j; (focus (first | exact .inr fun _ _ => rfl | exact .inl (by kernel_rfl))); rcases j with _ | j; (focus (first | exact .inr fun _ _ => rfl | exact .inl (by kernel_rfl))); rcases j with _ | j; (focus (first | exact .inr fun _ _ => rfl | exact .inl (by kernel_rfl))); rcases j with _ | j; (focus (first | exact .inr fun _ _ => rfl | exact .inl (by kernel_rfl))); rcases j with _ | j; (focus (first | exact .inr fun _ _ => rfl | exact .inl (by kernel_rfl))); rcases j with _ | j; (focus (first | exact .inr fun _ _ => rfl | exact .inl (by kernel_rfl))); rcases j with _ | j; (focus (first | exact .inr fun _ _ => rfl | exact .inl (by kernel_rfl))); rcases j with _ | j; (focus (first | exact .inr fun _ _ => rfl | exact .inl (by kernel_rfl))); rcases j with _ | j; (focus (first | exact .inr fun _ _ => rfl | exact .inl (by kernel_rfl))); rcases j with _ | j; (focus (first | exact .inr fun _ _ => rfl | exact .inl (by kernel_rfl))); rcases j with _ | j; (focus (first | exact .inr fun _ _ => rfl | exact .inl (by kernel_rfl))); exact .inr fun _ _ => rfl) (fun _ _ => rfl) ?_; intro D x u hD hcl hp hO hS N hN; simp only [putO]; simp only [Act.put, List.setIfInBounds_toArray, List.set_cons_zero, List.set_cons_succ]; refine ev_call rfl (by go_simp; first | done | exact ⟨rfl, rfl⟩) ?_; refine Calls.mono (HSW.out _ _ hO) ?_; rintro e u' ⟨v, rfl, hO', hS'⟩; exact ⟨_, rfl, hN _ v u' rfl rfl hO' hS'⟩)
          · refine @fs_pureO _ _ _ _ _ _ _ _ _ _ (by kernel_rfl) (fun D x hD hcl hp => ?_)
            simp only [putO]
            simp only [Act.put, List.setIfInBounds_toArray, List.set_cons_zero, List.set_cons_succ]
            refine y_run rfl (fun w h => ?_)
            obtain ⟨L6, o6⟩ := ow_get 1 h.1 rfl (dep_yes hp rfl)
            obtain ⟨A6, c6, e6⟩ := (rdA_rd o6).slice
            clear o6 hp hcl
            simp only [e6]
            go_simp
            first | done | rfl
          · (refine @fs_pureO _ _ _ _ _ _ _ _ _ _ (by kernel_rfl) (fun D x hD hcl hp => ?_); simp only [putO]; simp only [Act.put, List.setIfInBounds_toArray, List.set_cons_zero, List.set_cons_succ]; first | exact y_run rfl (by intro w h; go_simp; first | done | rfl))
          · (refine @fs_new _ _ _ _ _ _ _ _ _ _ _ _ [] (fun v => v) rfl rfl (by kernel_rfl) (by kernel_rfl) (by intro j; rcases j with _ | j; (focus (first | exact .inr fun _ _ => rfl | exact .inl (by kernel_rfl))); rcases j with _ | j; (focus (first | exact .inr fun _ _ => rfl | exact .inl (by kernel_rfl))); rcases j with _ | j; (focus (first | exact .inr fun _ _ => rfl | exact .inl (by kernel_rfl))); rcases j with _ | j; (focus (first | exact .inr fun _ _ => rfl | exact .inl (by kernel_rfl))); rcases j with _ | j; (focus (first | exact .inr fun _ _ => rfl | exact .inl (by kernel_rfl))); rcases j with _ | j; (focus (first | exact .inr fun _ _ => rfl | exact .inl (by kernel_rfl))); rcases j with _ | j; (focus (first | exact .inr fun _ _ => rfl | exact .inl (by kernel_rfl))); rcases j with _ | j; (focus (first | exact .inr fun _ _ => rfl | exact .inl (by kernel_rfl))); rcases j with _ | j; (focus (first | exact .inr fun _ _ => rfl | exact .inl (by kernel_rfl))); rcases j with _ | j; (focus (first | exact .inr fun _ _ => rfl | exact .inl (by kernel_rfl))); rcases j with _ | j; (focus (first | exact .inr fun _ _ => rfl | exact .inl (by kernel_rfl))); rcases j with _ | j; (focus (first | exact .inr fun _ _ => rfl | exact .inl (by kernel_rfl))); rcases j with _ | j; (focus (first | exact .inr fun _ _ => rfl | exact .inl (by kernel_rfl))); rcases j with _ | j; (focus (first | exact .inr fun _ _ => rfl | exact .inl (by kernel_rfl))); rcases j with _ | j; (focus (first | exact .inr fun _ _ => rfl | exact .inl (by kernel_rfl))); rcases j with _ | j; (focus (first | exact .inr fun _ _ => rfl | exact .inl (by kernel_rfl))); rcases j with _ | j; (focus (first | exact .inr fun _ _ => rfl | exact .inl (by kernel_rfl))); rcases j with _ | j; (focus (first | exact .inr fun _ _ => rfl | exact .inl (by kernel_rfl))); rcases j with _ | j; (focus (first | exact .inr fun _ _ => rfl | exact .inl (by kernel_rfl))); exact .inr fun _ _ => rfl) (fun _ _ => rfl) ?_; intro D x u hD hcl hp hO hS N hN; simp only [putO]; simp only [Act.put, List.setIfInBounds_toArray, List.set_cons_zero, List.set_cons_succ]; refine ev_call rfl (by go_simp; first | done | exact ⟨rfl, rfl⟩) ?_; refine Calls.mono (HEW.out _ _ hO) ?_; rintro e u' ⟨v, rfl, hO', hS'⟩; exact ⟨_, rfl, hN _ v u' rfl rfl hO' hS'⟩)
          · refine @fs_pureO _ _ _ _ _ _ _ _ _ _ (by kernel_rfl) (fun D x hD hcl hp => ?_)
            simp only [putO]
            simp only [Act.put, List.setIfInBounds_toArray, List.set_cons_zero, List.set_cons_succ]
            refine y_run rfl (fun w h => ?_)
            obtain ⟨L6, o6⟩ := ow_get 2 h.1 rfl (dep_yes hp rfl)
            obtain ⟨A6, c6, e6⟩ := (rdA_rd o6).slice
            clear o6 hp hcl
            simp only [e6]
            go_simp
            first | done | rfl
          · (refine @fs_pureO _ _ _ _ _ _ _ _ _ _ (by kernel_rfl) (fun D x hD hcl hp => ?_); simp only [putO]; simp only [Act.put, List.setIfInBounds_toArray, List.set_cons_zero, List.set_cons_succ]; first | exact y_run rfl (by intro w h; go_simp; first | done | rfl))
          · (refine @fs_pureO _ _ _ _ _ _ _ _ _ _ (by kernel_rfl) (fun D x hD hcl hp => ?_); simp only [putO]; simp only [Act.put, List.setIfInBounds_toArray, List.set_cons_zero, List.set_cons_succ]; first | exact y_run rfl (by intro w h; go_simp; first | done | rfl))
        intro x w10 D hD hO hS10
        have hO : Own w10 [stk s m, engP e E, pts gb (.cells (bcs T).toArray 47), snap w] := own_sub hO (List.sublist_append_left _ _)
        simp only [putO]
        simp only [Act.put, List.setIfInBounds_toArray, List.set_cons_zero, List.set_cons_succ]
        simp only [Exit.then]
        clear hD
        replace hS := hS.trans hS10
        clear hS10
        by_cases h30 : 30 < pl.length
        · have hg : (30 : Int) < pl.length := by omega
          obtain ⟨ad, e1⟩ := (HP1.out _ _ (own_at hO (k := 3) rfl)).addr (by rw [List.length_map]; omega)
          obtain ⟨kl, hkl⟩ : ∃ kl, kl = pl.take 30 := ⟨_, rfl⟩
          have HKR : Hid (∀ (w' : World) (L' : List HP), Own w' (snap w :: L') → Rd w' 1 (.slice (some ad) 30 c1) kl.length (ints kl)) := Lib.hid fun w' L' h => by
            have h1 := HP1.out w' L' h
            rw [e1] at h1
            have h2 := h1.low (k := 30) (c' := c1) (by omega) (by omega) hmp.2
            have e2 : kl.length = 30 := by rw [hkl, List.length_take]; omega
            have e3 : ints kl = (pl.map encZ).take (30 * 1) := by rw [hkl, Nat.mul_one, ← List.map_take]; rfl
            rw [e2, e3]
            exact h2
          have HKI : Hid (∀ x ∈ kl, i64 x) := Lib.hid fun x hx => HPI.out x (List.mem_of_mem_take (by rw [← hkl]; exact hx))
          clear hkl h30
          cases e1
          go_upto_region 19 with fail
          rcases roll_cases (m := m) kl with ⟨ee, he0, he⟩ | ⟨h1, h2⟩
          · have HRN : Hid (∀ (w' : World) (L' : List HP), Own w' (stk s m :: engP e E :: pts gb (.cells (bcs T).toArray 47) :: snap w :: L') → Calls Try.prog 28 #[.pointer (some ⟨s, 0, none⟩), (.slice (some ad) 30 c1)] w' (Ret w' (.tuple #[.slice none 0 0, .int .i64 ee]) (stk s m :: engP e E :: pts gb (.cells (bcs T).toArray 47) :: snap w :: L'))) := Lib.hid fun w' L' h => roll_no w' _ s m (.slice (some ad) 30 c1) kl h HMO.out (fun w2 h2 => HKR.out _ _ (own_at h2 (k := 2) rfl)) HKI.out ee he
            have hne : (ee != 0) = true := by simpa using he0
            clear he0 he
            go_wp2_with (first | (go_at_call 28; (with_reducible refine Calls.mono (HRN.out _ _ hO) ?_); clear hO; rintro e1 u ⟨rfl, hO, hSn⟩; replace hS := hS.trans hSn; clear hSn))
            go_ret
            exact ⟨rfl, below_of (own_at hO (k := 3) rfl) hS⟩
          · obtain ⟨m2, hm2⟩ : ∃ m2, m2 = m.settled kl := ⟨_, rfl⟩
            obtain ⟨C, hC⟩ : ∃ C, C = appAll m.base (selL m.l kl) := ⟨_, rfl⟩
            have hC32 : C.length = 32 := by rw [hC]; exact (settledG_ok HMO.out kl).base
            have HC32 := Lib.hid hC32
            have HCN : Hid (32 = C.length) := hC32.symm
            have HRO : Hid (∀ (w' : World) (L' : List HP), Own w' (stk s m :: engP e E :: pts gb (.cells (bcs T).toArray 47) :: snap w :: L') → Calls Try.prog 28 #[.pointer (some ⟨s, 0, none⟩), (.slice (some ad) 30 c1)] w' (RetX w' (fun g => .tuple #[.slice (some ⟨g, 0, none⟩) 32 32, .int .i64 0]) (fun g => stk s m :: pts g (.cells (bcs C).toArray 46) :: engP e E :: pts gb (.cells (bcs T).toArray 47) :: snap w :: L'))) := Lib.hid fun w' L' h => by
              rw [hC]
              exact roll_ok w' _ s m (.slice (some ad) 30 c1) kl h HMO.out (fun w2 h2 => HKR.out _ _ (own_at h2 (k := 2) rfl)) HKI.out h1 h2
            have HST : Hid (∀ (w' : World) (X : HP) (L' : List HP), Own w' (stk s m :: X :: engP e E :: pts gb (.cells (bcs T).toArray 47) :: snap w :: L') → Calls Try.prog 29 #[.pointer (some ⟨s, 0, none⟩), (.slice (some ad) 30 c1)] w' (Ret w' (.int .i64 0) (stk s m2 :: X :: engP e E :: pts gb (.cells (bcs T).toArray 47) :: snap w :: L'))) := Lib.hid fun w' X L' h => by
              rw [hm2]
              exact settle_ok w' _ s m (.slice (some ad) 30 c1) kl h HMO.out (fun w2 h2 => HKR.out _ _ (own_at h2 (k := 3) rfl)) HKI.out h1 h2
            have HMO2 : Hid m2.Ok := by show Stk.Ok m2; rw [hm2]; exact settledG_ok HMO.out kl
            have HBA : Hid (∀ (w' : World) (L' : List HP), Own w' (stk s m2 :: L') → Calls Try.prog 30 #[.pointer (some ⟨s, 0, none⟩)] w' (RetX w' (fun v : Value => v) (fun v => rdA 1 v 32 (bcs C) :: stk s m2 :: L'))) := Lib.hid fun w' L' h => by
              have h3 := sbase_v w' L' s m2 h HMO2.out
              have e3 : m2.base = C := by rw [hm2, hC]; rfl
              rw [e3] at h3
              exact h3
            have HBY : Hid (∀ (w' : World) (L' : List HP), Own w' (stk s m2 :: L') → Calls Try.prog 26 #[.pointer (some ⟨s, 0, none⟩)] w' (RetX w' (fun v : Value => v) (fun v => rdA 1 v 32 (bcs T) :: stk s m2 :: L'))) := Lib.hid fun w' L' h => by
              have h3 := sbytes_v w' L' s m2 h HMO2.out
              have e3 : m2.bytes = T := by rw [hm2, HT.out]; exact settled_bytesG HMO.out h2
              rw [e3] at h3
              exact h3
            clear hm2 hC hC32 h1 h2
            go_upto_region 22 with (first | (go_at_call 28; (with_reducible refine Calls.mono (HRO.out _ _ hO) ?_); clear hO; rintro e1 u ⟨gc, rfl, hO, hSn⟩; replace hS := hS.trans hSn; clear hSn))
            refine wp_region_own (α := Value) (fun x => .pointer (some ⟨s, 0, none⟩) :: (.slice (some ad) 30 c1) :: .int .i64 0 :: .bool false :: .bool false :: .pointer (some ⟨s, 0, none⟩) :: x :: .string (bstr C) :: .slice (some ⟨gc, 0, none⟩) 32 32 :: .string (bstr C) :: .bool false :: .bool false :: []) (fun D x => sHL (stk s m2 :: [pts gc (.cells (bcs C).toArray 46), engP e E, pts gb (.cells (bcs T).toArray 47), snap w]) (stk s m :: [pts gc (.cells (bcs C).toArray 46), engP e E, pts gb (.cells (bcs T).toArray 47), snap w]) (fun v => rdA 1 v 32 (bcs C)) (D 6) (D 2) x) _ undef 119 (fun _ => rfl) mixed (by kernel_rfl) rfl (by exact own_heap hO (fun _ _ h => h)) (Same.drew _) (fun _ _ _ _ hd h => ⟨hd ▸ h.1, h.2⟩) ?_ ?_
            · refine ⟨?_, ?_, ?_, ?_, ?_, ?_, ?_, ?_, ?_, ?_, ?_, ?_, trivial⟩
              · (refine @fs_pure _ _ _ _ _ _ _ _ _ _ (fun D x => by exact sHL_upd (by decide) (by decide)) (fun D x hD hcl hp => ?_); simp only [putO]; simp only [Act.put, List.setIfInBounds_toArray, List.set_cons_zero, List.set_cons_succ]; exact y_run rfl (by intro w h; clear h hp hcl hD; go_simp; first | done | rfl))
              · (refine @fs_pure _ _ _ _ _ _ _ _ _ _ (fun D x => by exact sHL_upd (by decide) (by decide)) (fun D x hD hcl hp => ?_); simp only [putO]; simp only [Act.put, List.setIfInBounds_toArray, List.set_cons_zero, List.set_cons_succ]; exact y_run rfl (by intro w h; clear h hp hcl hD; go_simp; first | done | rfl))
              · intro D x w5 hD hcl hp hO5 hS5
                have h6 : D 6 = false := behL_ok hcl hD (j := 6) (by kernel_rfl)
                simp only [putO]
                simp only [Act.put, List.setIfInBounds_toArray, List.set_cons_zero, List.set_cons_succ]
                refine ev_call rfl (by go_simp; first | done | exact ⟨rfl, rfl⟩) ?_
                have hO5 := sHL_none hO5 h6 hD
                have hO5 : Own w5 (stk s m :: [pts gc (.cells (bcs C).toArray 46), engP e E, pts gb (.cells (bcs T).toArray 47), snap w]) := hO5
                refine Calls.mono (HST.out _ _ _ hO5) ?_
                rintro e2 w6 ⟨rfl, hO6, hS6⟩
                have e6 : upd D 2 6 = false := h6
                have e7 : upd D 2 2 = true := rfl
                exact ⟨_, rfl, wpList_nil ⟨rfl, x, (by intros; first | trivial | rfl), fun d hd _ => by cases hd; rfl, sHL_mk2 hO6 e6 e7, hS5.trans hS6⟩⟩
              · (refine @fs_pure _ _ _ _ _ _ _ _ _ _ (fun D x => by exact sHL_upd (by decide) (by decide)) (fun D x hD hcl hp => ?_); simp only [putO]; simp only [Act.put, List.setIfInBounds_toArray, List.set_cons_zero, List.set_cons_succ]; exact y_run rfl (by intro w h; clear h hp hcl hD; go_simp; first | done | rfl))
              · (refine @fs_pure _ _ _ _ _ _ _ _ _ _ (fun D x => by exact sHL_upd (by decide) (by decide)) (fun D x hD hcl hp => ?_); simp only [putO]; simp only [Act.put, List.setIfInBounds_toArray, List.set_cons_zero, List.set_cons_succ]; exact y_run rfl (by intro w h; clear h hp hcl hD; go_simp; first | done | rfl))
              · (refine @fs_pure _ _ _ _ _ _ _ _ _ _ (fun D x => by exact sHL_upd (by decide) (by decide)) (fun D x hD hcl hp => ?_); simp only [putO]; simp only [Act.put, List.setIfInBounds_toArray, List.set_cons_zero, List.set_cons_succ]; exact y_run rfl (by intro w h; clear h hp hcl hD; go_simp; first | done | rfl))
              · intro D x w5 hD hcl hp hO5 hS5
                have h4 : D 4 = true := dep_yes hp rfl
                have h3 : D 3 = true := dep_yes (hcl 4 _ rfl h4) rfl
                have h2 : D 2 = true := dep_yes (hcl 3 _ rfl h3) rfl
                simp only [putO]
                simp only [Act.put, List.setIfInBounds_toArray, List.set_cons_zero, List.set_cons_succ]
                refine ev_call rfl (by go_simp; first | done | exact ⟨rfl, rfl⟩) ?_
                have hO5 := sHL_two hO5 hD h2
                have hO5 : Own w5 (stk s m2 :: [pts gc (.cells (bcs C).toArray 46), engP e E, pts gb (.cells (bcs T).toArray 47), snap w]) := hO5
                refine Calls.mono (HBA.out _ _ hO5) ?_
                rintro e2 w6 ⟨v, rfl, hO6, hS6⟩
                have e6 : upd D 6 6 = true := rfl
                refine ⟨_, rfl, wpList_nil ⟨rfl, v, fun j hj => ?_, fun d hd _ => by cases hd; rfl, sHL_mk6 hO6 e6, hS5.trans hS6⟩⟩
                rcases j with _ | _ | _ | _ | _ | _ | _ | j
                · rfl
                · rfl
                · rfl
                · rfl
                · rfl
                · rfl
                · rw [hD] at hj; cases hj
                · rfl
              · refine @fs_pure _ _ _ _ _ _ _ _ _ _ (fun D x => by exact sHL_upd (by decide) (by decide)) (fun D x hD hcl hp => ?_)
                have h6 : D 6 = true := dep_yes hp rfl
                simp only [putO]
                simp only [Act.put, List.setIfInBounds_toArray, List.set_cons_zero, List.set_cons_succ]
                clear hp hcl
                refine y_string (v := x) (n := 32) (bs := C) rfl rfl rfl Try.underlying22 Try.underlying5 Try.underlying9 HCN.out (fun w h => ?_)
                exact rdA_rd (sHL_read h.1 h6)
              · (refine @fs_pure _ _ _ _ _ _ _ _ _ _ (fun D x => by exact sHL_upd (by decide) (by decide)) (fun D x hD hcl hp => ?_); simp only [putO]; simp only [Act.put, List.setIfInBounds_toArray, List.set_cons_zero, List.set_cons_succ]; exact y_run rfl (by intro w h; clear h hp hcl hD; go_simp; first | done | rfl))
              · refine @fs_pure _ _ _ _ _ _ _ _ _ _ (fun D x => by exact sHL_upd (by decide) (by decide)) (fun D x hD hcl hp => ?_)
                simp only [putO]
                simp only [Act.put, List.setIfInBounds_toArray, List.set_cons_zero, List.set_cons_succ]
                refine y_string (v := .slice (some ⟨gc, 0, none⟩) 32 32) (n := 32) (bs := C) rfl rfl rfl Try.underlying22 Try.underlying5 Try.underlying9 HCN.out (fun w h => ?_)
                have h0 : ∃ L', Own w (pts gc (.cells (bcs C).toArray 46) :: L') := sHL_all h.1 (List.mem_cons_of_mem _ (List.mem_cons_self ..)) (List.mem_cons_of_mem _ (List.mem_cons_self ..))
                obtain ⟨L', h0⟩ := h0
                exact rd_block (own_get 0 h0 rfl) (by rw [Nat.mul_one]; exact List.take_of_length_le (by simp [bcs_length, HC32.out])) (by simp [bcs_length, HC32.out]) (Nat.le_refl _) (by decide)
              · (refine @fs_pure _ _ _ _ _ _ _ _ _ _ (fun D x => by exact sHL_upd (by decide) (by decide)) (fun D x hD hcl hp => ?_); simp only [putO]; simp only [Act.put, List.setIfInBounds_toArray, List.set_cons_zero, List.set_cons_succ]; exact y_run rfl (by intro w h; clear h hp hcl hD; go_simp; first | done | rfl))
              · (refine @fs_pure _ _ _ _ _ _ _ _ _ _ (fun D x => by exact sHL_upd (by decide) (by decide)) (fun D x hD hcl hp => ?_); simp only [putO]; simp only [Act.put, List.setIfInBounds_toArray, List.set_cons_zero, List.set_cons_succ]; exact y_run rfl (by intro w h; clear h hp hcl hD; go_simp; first | done | rfl))
            intro x w12 D hD hO hS12
            have hO := sHL_read hO (hD 6 (by decide))
            have hO : Own w12 (rdA 1 x 32 (bcs C) :: stk s m2 :: [pts gc (.cells (bcs C).toArray 46), engP e E, pts gb (.cells (bcs T).toArray 47), snap w]) := hO
            have hO : Own w12 ([stk s m2, pts gb (.cells (bcs T).toArray 47)] ++ [snap w]) := own_sub hO (.cons _ (.cons_cons _ (.cons _ (.cons _ (List.Sublist.refl _)))))
            simp only [putO]
            simp only [Act.put, List.setIfInBounds_toArray, List.set_cons_zero, List.set_cons_succ]
            simp only [Exit.then]
            clear hD
            replace hS := hS.trans hS12
            clear hS12
            go_upto_region 24 with fail
            refine wp_region_own (α := Nat → Value) (fun x => .pointer (some ⟨s, 0, none⟩) :: x 1 :: .string (bstr T) :: .slice (some ⟨gb, 0, none⟩) 32 32 :: .string (bstr T) :: .bool true :: .bool true :: []) (fun D x => ([stk s m2, pts gb (.cells (bcs T).toArray 47)] ++ [snap w]) ++ owL ([(1, none, fun v => rdA 1 v 32 (bcs T))]) D x) w12 (fun _ => undef) 119 (fun _ => rfl) mixed (by kernel_rfl) rfl (by rw [owL_none, List.append_nil]; exact own_heap hO (fun _ _ h => h)) (Same.drew _) (fun _ _ _ _ hd h => ⟨hd ▸ h.1, h.2⟩) ?_ ?_
            · refine ⟨?_, ?_, ?_, ?_, ?_, ?_, ?_, trivial⟩
              · (refine fs_pure (fun _ _ => rfl) (fun D x hD hcl hp => ?_); simp only [putO]; simp only [Act.put, List.setIfInBounds_toArray, List.set_cons_zero, List.set_cons_succ]; first | exact y_skip rfl | exact y_run rfl (by intro w h; go_simp; first | done | rfl))
              · (refine @fs_new _ _ _ _ _ _ _ _ _ _ _ _ [] (fun v => v) rfl rfl (by kernel_rfl) (by kernel_rfl) (by intro j; rcases j with _ | j; (focus (first | exact .inr fun _ _ => rfl | exact .inl (by kernel_rfl))); rcases j with _ | j; (focus (first | exact .inr fun _ _ => rfl | exact .inl (by kernel_rfl))); rcases j with _ | j; (focus (first | exact .inr fun _ _ => rfl | exact .inl (by kernel_rfl))); rcases j with _ | j; (focus (first | exact .inr fun _ _ => rfl | exact .inl (by kernel_rfl))); rcases j with _ | j; (focus (first | exact .inr fun _ _ => rfl | exact .inl (by kernel_rfl))); rcases j with _ | j; (focus (first | exact .inr fun _ _ => rfl | exact .inl (by kernel_rfl))); rcases j with _ | j; (focus (first | exact .inr fun _ _ => rfl | exact .inl (by kernel_rfl))); exact .inr fun _ _ => rfl) (fun _ _ => rfl) ?_; intro D x u hD hcl hp hO hS N hN; simp only [putO]; simp only [Act.put, List.setIfInBounds_toArray, List.set_cons_zero, List.set_cons_succ]; refine ev_call rfl (by go_simp; first | done | exact ⟨rfl, rfl⟩) ?_; refine Calls.mono (HBY.out _ _ hO) ?_; rintro e u' ⟨v, rfl, hO', hS'⟩; exact ⟨_, rfl, hN _ v u' rfl rfl hO' hS'⟩)
              · refine @fs_pureO _ _ _ _ _ _ _ _ _ _ (by kernel_rfl) (fun D x hD hcl hp => ?_)
                simp only [putO]
                simp only [Act.put, List.setIfInBounds_toArray, List.set_cons_zero, List.set_cons_succ]
                refine y_string (v := x 1) (n := 32) (bs := T) rfl rfl rfl Try.underlying22 Try.underlying5 Try.underlying9 HN.out (fun w h => ?_)
                obtain ⟨L6, o6⟩ := ow_get 0 h.1 rfl (dep_yes hp rfl)
                exact rdA_rd o6
              · (refine fs_pure (fun _ _ => rfl) (fun D x hD hcl hp => ?_); simp only [putO]; simp only [Act.put, List.setIfInBounds_toArray, List.set_cons_zero, List.set_cons_succ]; first | exact y_skip rfl | exact y_run rfl (by intro w h; go_simp; first | done | rfl))
              · (refine fs_pure (fun _ _ => rfl) (fun D x hD hcl hp => ?_); simp only [putO]; simp only [Act.put, List.setIfInBounds_toArray, List.set_cons_zero, List.set_cons_succ]; first | exact y_skip rfl | exact (y_string (v := .slice (some ⟨gb, 0, none⟩) 32 32) (n := 32) (bs := T) rfl rfl rfl Try.underlying22 Try.underlying5 Try.underlying9 HN.out (fun w h => rd_block (own_get 1 h.1 rfl) (by rw [Nat.mul_one]; exact List.take_of_length_le (by simp [bcs_length, HT32.out])) (by simp [bcs_length, HT32.out]) (Nat.le_refl _) (by decide))) | exact y_run rfl (by intro w h; go_simp; first | done | rfl))
              · (refine fs_pure (fun _ _ => rfl) (fun D x hD hcl hp => ?_); simp only [putO]; simp only [Act.put, List.setIfInBounds_toArray, List.set_cons_zero, List.set_cons_succ]; first | exact y_skip rfl | exact y_run rfl (by intro w h; go_simp; first | done | rfl))
              · (refine fs_pure (fun _ _ => rfl) (fun D x hD hcl hp => ?_); simp only [putO]; simp only [Act.put, List.setIfInBounds_toArray, List.set_cons_zero, List.set_cons_succ]; first | exact y_skip rfl | exact y_run rfl (by intro w h; go_simp; first | done | rfl))
            intro x w14 D hD hO hS14
            have hO : Own w14 [stk s m2, pts gb (.cells (bcs T).toArray 47), snap w] := own_sub hO (List.sublist_append_left _ _)
            simp only [putO]
            simp only [Act.put, List.setIfInBounds_toArray, List.set_cons_zero, List.set_cons_succ]
            simp only [Exit.then]
            clear hD
            replace hS := hS.trans hS14
            clear hS14
            go_wp2
            go_ret
            exact ⟨rfl, below_of (own_at hO (k := 2) rfl) hS⟩
        · have hg : ¬ ((30 : Int) < pl.length) := by omega
          have HKR : Hid (∀ (w' : World) (L' : List HP), Own w' (snap w :: L') → Rd w' 1 (.slice A1 pl.length c1) pl.length (ints pl)) := Lib.hid fun w' L' h => HP1.out w' L' h
          have HKI := HPI
          clear h30
          go_upto_region 19 with fail
          rcases roll_cases (m := m) pl with ⟨ee, he0, he⟩ | ⟨h1, h2⟩
          · have HRN : Hid (∀ (w' : World) (L' : List HP), Own w' (stk s m :: engP e E :: pts gb (.cells (bcs T).toArray 47) :: snap w :: L') → Calls Try.prog 28 #[.pointer (some ⟨s, 0, none⟩), (.slice A1 pl.length c1)] w' (Ret w' (.tuple #[.slice none 0 0, .int .i64 ee]) (stk s m :: engP e E :: pts gb (.cells (bcs T).toArray 47) :: snap w :: L'))) := Lib.hid fun w' L' h => roll_no w' _ s m (.slice A1 pl.length c1) pl h HMO.out (fun w2 h2 => HKR.out _ _ (own_at h2 (k := 2) rfl)) HKI.out ee he
            have hne : (ee != 0) = true := by simpa using he0
            clear he0 he
            go_wp2_with (first | (go_at_call 28; (with_reducible refine Calls.mono (HRN.out _ _ hO) ?_); clear hO; rintro e1 u ⟨rfl, hO, hSn⟩; replace hS := hS.trans hSn; clear hSn))
            go_ret
            exact ⟨rfl, below_of (own_at hO (k := 3) rfl) hS⟩
          · obtain ⟨m2, hm2⟩ : ∃ m2, m2 = m.settled pl := ⟨_, rfl⟩
            obtain ⟨C, hC⟩ : ∃ C, C = appAll m.base (selL m.l pl) := ⟨_, rfl⟩
            have hC32 : C.length = 32 := by rw [hC]; exact (settledG_ok HMO.out pl).base
            have HC32 := Lib.hid hC32
            have HCN : Hid (32 = C.length) := hC32.symm
            have HRO : Hid (∀ (w' : World) (L' : List HP), Own w' (stk s m :: engP e E :: pts gb (.cells (bcs T).toArray 47) :: snap w :: L') → Calls Try.prog 28 #[.pointer (some ⟨s, 0, none⟩), (.slice A1 pl.length c1)] w' (RetX w' (fun g => .tuple #[.slice (some ⟨g, 0, none⟩) 32 32, .int .i64 0]) (fun g => stk s m :: pts g (.cells (bcs C).toArray 46) :: engP e E :: pts gb (.cells (bcs T).toArray 47) :: snap w :: L'))) := Lib.hid fun w' L' h => by
              rw [hC]
              exact roll_ok w' _ s m (.slice A1 pl.length c1) pl h HMO.out (fun w2 h2 => HKR.out _ _ (own_at h2 (k := 2) rfl)) HKI.out h1 h2
            have HST : Hid (∀ (w' : World) (X : HP) (L' : List HP), Own w' (stk s m :: X :: engP e E :: pts gb (.cells (bcs T).toArray 47) :: snap w :: L') → Calls Try.prog 29 #[.pointer (some ⟨s, 0, none⟩), (.slice A1 pl.length c1)] w' (Ret w' (.int .i64 0) (stk s m2 :: X :: engP e E :: pts gb (.cells (bcs T).toArray 47) :: snap w :: L'))) := Lib.hid fun w' X L' h => by
              rw [hm2]
              exact settle_ok w' _ s m (.slice A1 pl.length c1) pl h HMO.out (fun w2 h2 => HKR.out _ _ (own_at h2 (k := 3) rfl)) HKI.out h1 h2
            have HMO2 : Hid m2.Ok := by show Stk.Ok m2; rw [hm2]; exact settledG_ok HMO.out pl
            have HBA : Hid (∀ (w' : World) (L' : List HP), Own w' (stk s m2 :: L') → Calls Try.prog 30 #[.pointer (some ⟨s, 0, none⟩)] w' (RetX w' (fun v : Value => v) (fun v => rdA 1 v 32 (bcs C) :: stk s m2 :: L'))) := Lib.hid fun w' L' h => by
              have h3 := sbase_v w' L' s m2 h HMO2.out
              have e3 : m2.base = C := by rw [hm2, hC]; rfl
              rw [e3] at h3
              exact h3
            have HBY : Hid (∀ (w' : World) (L' : List HP), Own w' (stk s m2 :: L') → Calls Try.prog 26 #[.pointer (some ⟨s, 0, none⟩)] w' (RetX w' (fun v : Value => v) (fun v => rdA 1 v 32 (bcs T) :: stk s m2 :: L'))) := Lib.hid fun w' L' h => by
              have h3 := sbytes_v w' L' s m2 h HMO2.out
              have e3 : m2.bytes = T := by rw [hm2, HT.out]; exact settled_bytesG HMO.out h2
              rw [e3] at h3
              exact h3
            clear hm2 hC hC32 h1 h2
            go_upto_region 22 with (first | (go_at_call 28; (with_reducible refine Calls.mono (HRO.out _ _ hO) ?_); clear hO; rintro e1 u ⟨gc, rfl, hO, hSn⟩; replace hS := hS.trans hSn; clear hSn))
            refine wp_region_own (α := Value) (fun x => .pointer (some ⟨s, 0, none⟩) :: (.slice A1 pl.length c1) :: .int .i64 0 :: .bool false :: .bool false :: .pointer (some ⟨s, 0, none⟩) :: x :: .string (bstr C) :: .slice (some ⟨gc, 0, none⟩) 32 32 :: .string (bstr C) :: .bool false :: .bool false :: []) (fun D x => sHL (stk s m2 :: [pts gc (.cells (bcs C).toArray 46), engP e E, pts gb (.cells (bcs T).toArray 47), snap w]) (stk s m :: [pts gc (.cells (bcs C).toArray 46), engP e E, pts gb (.cells (bcs T).toArray 47), snap w]) (fun v => rdA 1 v 32 (bcs C)) (D 6) (D 2) x) _ undef 119 (fun _ => rfl) mixed (by kernel_rfl) rfl (by exact own_heap hO (fun _ _ h => h)) (Same.drew _) (fun _ _ _ _ hd h => ⟨hd ▸ h.1, h.2⟩) ?_ ?_
            · refine ⟨?_, ?_, ?_, ?_, ?_, ?_, ?_, ?_, ?_, ?_, ?_, ?_, trivial⟩
              · (refine @fs_pure _ _ _ _ _ _ _ _ _ _ (fun D x => by exact sHL_upd (by decide) (by decide)) (fun D x hD hcl hp => ?_); simp only [putO]; simp only [Act.put, List.setIfInBounds_toArray, List.set_cons_zero, List.set_cons_succ]; exact y_run rfl (by intro w h; clear h hp hcl hD; go_simp; first | done | rfl))
              · (refine @fs_pure _ _ _ _ _ _ _ _ _ _ (fun D x => by exact sHL_upd (by decide) (by decide)) (fun D x hD hcl hp => ?_); simp only [putO]; simp only [Act.put, List.setIfInBounds_toArray, List.set_cons_zero, List.set_cons_succ]; exact y_run rfl (by intro w h; clear h hp hcl hD; go_simp; first | done | rfl))
              · intro D x w5 hD hcl hp hO5 hS5
                have h6 : D 6 = false := behL_ok hcl hD (j := 6) (by kernel_rfl)
                simp only [putO]
                simp only [Act.put, List.setIfInBounds_toArray, List.set_cons_zero, List.set_cons_succ]
                refine ev_call rfl (by go_simp; first | done | exact ⟨rfl, rfl⟩) ?_
                have hO5 := sHL_none hO5 h6 hD
                have hO5 : Own w5 (stk s m :: [pts gc (.cells (bcs C).toArray 46), engP e E, pts gb (.cells (bcs T).toArray 47), snap w]) := hO5
                refine Calls.mono (HST.out _ _ _ hO5) ?_
                rintro e2 w6 ⟨rfl, hO6, hS6⟩
                have e6 : upd D 2 6 = false := h6
                have e7 : upd D 2 2 = true := rfl
                exact ⟨_, rfl, wpList_nil ⟨rfl, x, (by intros; first | trivial | rfl), fun d hd _ => by cases hd; rfl, sHL_mk2 hO6 e6 e7, hS5.trans hS6⟩⟩
              · (refine @fs_pure _ _ _ _ _ _ _ _ _ _ (fun D x => by exact sHL_upd (by decide) (by decide)) (fun D x hD hcl hp => ?_); simp only [putO]; simp only [Act.put, List.setIfInBounds_toArray, List.set_cons_zero, List.set_cons_succ]; exact y_run rfl (by intro w h; clear h hp hcl hD; go_simp; first | done | rfl))
              · (refine @fs_pure _ _ _ _ _ _ _ _ _ _ (fun D x => by exact sHL_upd (by decide) (by decide)) (fun D x hD hcl hp => ?_); simp only [putO]; simp only [Act.put, List.setIfInBounds_toArray, List.set_cons_zero, List.set_cons_succ]; exact y_run rfl (by intro w h; clear h hp hcl hD; go_simp; first | done | rfl))
              · (refine @fs_pure _ _ _ _ _ _ _ _ _ _ (fun D x => by exact sHL_upd (by decide) (by decide)) (fun D x hD hcl hp => ?_); simp only [putO]; simp only [Act.put, List.setIfInBounds_toArray, List.set_cons_zero, List.set_cons_succ]; exact y_run rfl (by intro w h; clear h hp hcl hD; go_simp; first | done | rfl))
              · intro D x w5 hD hcl hp hO5 hS5
                have h4 : D 4 = true := dep_yes hp rfl
                have h3 : D 3 = true := dep_yes (hcl 4 _ rfl h4) rfl
                have h2 : D 2 = true := dep_yes (hcl 3 _ rfl h3) rfl
                simp only [putO]
                simp only [Act.put, List.setIfInBounds_toArray, List.set_cons_zero, List.set_cons_succ]
                refine ev_call rfl (by go_simp; first | done | exact ⟨rfl, rfl⟩) ?_
                have hO5 := sHL_two hO5 hD h2
                have hO5 : Own w5 (stk s m2 :: [pts gc (.cells (bcs C).toArray 46), engP e E, pts gb (.cells (bcs T).toArray 47), snap w]) := hO5
                refine Calls.mono (HBA.out _ _ hO5) ?_
                rintro e2 w6 ⟨v, rfl, hO6, hS6⟩
                have e6 : upd D 6 6 = true := rfl
                refine ⟨_, rfl, wpList_nil ⟨rfl, v, fun j hj => ?_, fun d hd _ => by cases hd; rfl, sHL_mk6 hO6 e6, hS5.trans hS6⟩⟩
                rcases j with _ | _ | _ | _ | _ | _ | _ | j
                · rfl
                · rfl
                · rfl
                · rfl
                · rfl
                · rfl
                · rw [hD] at hj; cases hj
                · rfl
              · refine @fs_pure _ _ _ _ _ _ _ _ _ _ (fun D x => by exact sHL_upd (by decide) (by decide)) (fun D x hD hcl hp => ?_)
                have h6 : D 6 = true := dep_yes hp rfl
                simp only [putO]
                simp only [Act.put, List.setIfInBounds_toArray, List.set_cons_zero, List.set_cons_succ]
                clear hp hcl
                refine y_string (v := x) (n := 32) (bs := C) rfl rfl rfl Try.underlying22 Try.underlying5 Try.underlying9 HCN.out (fun w h => ?_)
                exact rdA_rd (sHL_read h.1 h6)
              · (refine @fs_pure _ _ _ _ _ _ _ _ _ _ (fun D x => by exact sHL_upd (by decide) (by decide)) (fun D x hD hcl hp => ?_); simp only [putO]; simp only [Act.put, List.setIfInBounds_toArray, List.set_cons_zero, List.set_cons_succ]; exact y_run rfl (by intro w h; clear h hp hcl hD; go_simp; first | done | rfl))
              · refine @fs_pure _ _ _ _ _ _ _ _ _ _ (fun D x => by exact sHL_upd (by decide) (by decide)) (fun D x hD hcl hp => ?_)
                simp only [putO]
                simp only [Act.put, List.setIfInBounds_toArray, List.set_cons_zero, List.set_cons_succ]
                refine y_string (v := .slice (some ⟨gc, 0, none⟩) 32 32) (n := 32) (bs := C) rfl rfl rfl Try.underlying22 Try.underlying5 Try.underlying9 HCN.out (fun w h => ?_)
                have h0 : ∃ L', Own w (pts gc (.cells (bcs C).toArray 46) :: L') := sHL_all h.1 (List.mem_cons_of_mem _ (List.mem_cons_self ..)) (List.mem_cons_of_mem _ (List.mem_cons_self ..))
                obtain ⟨L', h0⟩ := h0
                exact rd_block (own_get 0 h0 rfl) (by rw [Nat.mul_one]; exact List.take_of_length_le (by simp [bcs_length, HC32.out])) (by simp [bcs_length, HC32.out]) (Nat.le_refl _) (by decide)
              · (refine @fs_pure _ _ _ _ _ _ _ _ _ _ (fun D x => by exact sHL_upd (by decide) (by decide)) (fun D x hD hcl hp => ?_); simp only [putO]; simp only [Act.put, List.setIfInBounds_toArray, List.set_cons_zero, List.set_cons_succ]; exact y_run rfl (by intro w h; clear h hp hcl hD; go_simp; first | done | rfl))
              · (refine @fs_pure _ _ _ _ _ _ _ _ _ _ (fun D x => by exact sHL_upd (by decide) (by decide)) (fun D x hD hcl hp => ?_); simp only [putO]; simp only [Act.put, List.setIfInBounds_toArray, List.set_cons_zero, List.set_cons_succ]; exact y_run rfl (by intro w h; clear h hp hcl hD; go_simp; first | done | rfl))
            intro x w12 D hD hO hS12
            have hO := sHL_read hO (hD 6 (by decide))
            have hO : Own w12 (rdA 1 x 32 (bcs C) :: stk s m2 :: [pts gc (.cells (bcs C).toArray 46), engP e E, pts gb (.cells (bcs T).toArray 47), snap w]) := hO
            have hO : Own w12 ([stk s m2, pts gb (.cells (bcs T).toArray 47)] ++ [snap w]) := own_sub hO (.cons _ (.cons_cons _ (.cons _ (.cons _ (List.Sublist.refl _)))))
            simp only [putO]
            simp only [Act.put, List.setIfInBounds_toArray, List.set_cons_zero, List.set_cons_succ]
            simp only [Exit.then]
            clear hD
            replace hS := hS.trans hS12
            clear hS12
            go_upto_region 24 with fail
            refine wp_region_own (α := Nat → Value) (fun x => .pointer (some ⟨s, 0, none⟩) :: x 1 :: .string (bstr T) :: .slice (some ⟨gb, 0, none⟩) 32 32 :: .string (bstr T) :: .bool true :: .bool true :: []) (fun D x => ([stk s m2, pts gb (.cells (bcs T).toArray 47)] ++ [snap w]) ++ owL ([(1, none, fun v => rdA 1 v 32 (bcs T))]) D x) w12 (fun _ => undef) 119 (fun _ => rfl) mixed (by kernel_rfl) rfl (by rw [owL_none, List.append_nil]; exact own_heap hO (fun _ _ h => h)) (Same.drew _) (fun _ _ _ _ hd h => ⟨hd ▸ h.1, h.2⟩) ?_ ?_
            · refine ⟨?_, ?_, ?_, ?_, ?_, ?_, ?_, trivial⟩
              · (refine fs_pure (fun _ _ => rfl) (fun D x hD hcl hp => ?_); simp only [putO]; simp only [Act.put, List.setIfInBounds_toArray, List.set_cons_zero, List.set_cons_succ]; first | exact y_skip rfl | exact y_run rfl (by intro w h; go_simp; first | done | rfl))
              · (refine @fs_new _ _ _ _ _ _ _ _ _ _ _ _ [] (fun v => v) rfl rfl (by kernel_rfl) (by kernel_rfl) (by intro j; rcases j with _ | j; (focus (first | exact .inr fun _ _ => rfl | exact .inl (by kernel_rfl))); rcases j with _ | j; (focus (first | exact .inr fun _ _ => rfl | exact .inl (by kernel_rfl))); rcases j with _ | j; (focus (first | exact .inr fun _ _ => rfl | exact .inl (by kernel_rfl))); rcases j with _ | j; (focus (first | exact .inr fun _ _ => rfl | exact .inl (by kernel_rfl))); rcases j with _ | j; (focus (first | exact .inr fun _ _ => rfl | exact .inl (by kernel_rfl))); rcases j with _ | j; (focus (first | exact .inr fun _ _ => rfl | exact .inl (by kernel_rfl))); rcases j with _ | j; (focus (first | exact .inr fun _ _ => rfl | exact .inl (by kernel_rfl))); exact .inr fun _ _ => rfl) (fun _ _ => rfl) ?_; intro D x u hD hcl hp hO hS N hN; simp only [putO]; simp only [Act.put, List.setIfInBounds_toArray, List.set_cons_zero, List.set_cons_succ]; refine ev_call rfl (by go_simp; first | done | exact ⟨rfl, rfl⟩) ?_; refine Calls.mono (HBY.out _ _ hO) ?_; rintro e u' ⟨v, rfl, hO', hS'⟩; exact ⟨_, rfl, hN _ v u' rfl rfl hO' hS'⟩)
              · refine @fs_pureO _ _ _ _ _ _ _ _ _ _ (by kernel_rfl) (fun D x hD hcl hp => ?_)
                simp only [putO]
                simp only [Act.put, List.setIfInBounds_toArray, List.set_cons_zero, List.set_cons_succ]
                refine y_string (v := x 1) (n := 32) (bs := T) rfl rfl rfl Try.underlying22 Try.underlying5 Try.underlying9 HN.out (fun w h => ?_)
                obtain ⟨L6, o6⟩ := ow_get 0 h.1 rfl (dep_yes hp rfl)
                exact rdA_rd o6
              · (refine fs_pure (fun _ _ => rfl) (fun D x hD hcl hp => ?_); simp only [putO]; simp only [Act.put, List.setIfInBounds_toArray, List.set_cons_zero, List.set_cons_succ]; first | exact y_skip rfl | exact y_run rfl (by intro w h; go_simp; first | done | rfl))
              · (refine fs_pure (fun _ _ => rfl) (fun D x hD hcl hp => ?_); simp only [putO]; simp only [Act.put, List.setIfInBounds_toArray, List.set_cons_zero, List.set_cons_succ]; first | exact y_skip rfl | exact (y_string (v := .slice (some ⟨gb, 0, none⟩) 32 32) (n := 32) (bs := T) rfl rfl rfl Try.underlying22 Try.underlying5 Try.underlying9 HN.out (fun w h => rd_block (own_get 1 h.1 rfl) (by rw [Nat.mul_one]; exact List.take_of_length_le (by simp [bcs_length, HT32.out])) (by simp [bcs_length, HT32.out]) (Nat.le_refl _) (by decide))) | exact y_run rfl (by intro w h; go_simp; first | done | rfl))
              · (refine fs_pure (fun _ _ => rfl) (fun D x hD hcl hp => ?_); simp only [putO]; simp only [Act.put, List.setIfInBounds_toArray, List.set_cons_zero, List.set_cons_succ]; first | exact y_skip rfl | exact y_run rfl (by intro w h; go_simp; first | done | rfl))
              · (refine fs_pure (fun _ _ => rfl) (fun D x hD hcl hp => ?_); simp only [putO]; simp only [Act.put, List.setIfInBounds_toArray, List.set_cons_zero, List.set_cons_succ]; first | exact y_skip rfl | exact y_run rfl (by intro w h; go_simp; first | done | rfl))
            intro x w14 D hD hO hS14
            have hO : Own w14 [stk s m2, pts gb (.cells (bcs T).toArray 47), snap w] := own_sub hO (List.sublist_append_left _ _)
            simp only [putO]
            simp only [Act.put, List.setIfInBounds_toArray, List.set_cons_zero, List.set_cons_succ]
            simp only [Exit.then]
            clear hD
            replace hS := hS.trans hS14
            clear hS14
            go_wp2
            go_ret
            exact ⟨rfl, below_of (own_at hO (k := 2) rfl) hS⟩
end Go.Proofs.Ytonohjhmnlfakaa.H
