/- StackNeeds: the walk. -/
import Derived.Test.YtdcbfdepkbplbaaZT22
set_option linter.unusedVariables false
set_option linter.unusedSimpArgs false
set_option maxRecDepth 100000
namespace Go.Proofs.Ytdcbfdepkbplbaa.H
open Go.RowKit
theorem lhas_v (w : World) (L : List HP) (sv : Value) (l : List Int) (n : Int) (b : Bool) (hb : l.contains n = b) (hO : Own w L) (hs : ∀ w', Own w' L → Rd w' 1 sv l.length (ints l)) :
    Calls Try.prog 16 #[sv, .int .i64 n] w (Ret w (.bool b) L) := hb ▸ lhas_c w L sv l n hO hs
/-- Which of some have a need that is not among all. -/
def Lacks (m : Stk) (F s : List Int) : Prop := ∃ x ∈ s, ∃ n ∈ needsN m x, F.contains (n : Int) = false
theorem lacks_busy {m : Stk} (hk : m.Ok) {F : List Int} (hout : ¬ OutL m.l F) : Lacks m F F ↔ BusyL m.l F := by
  rw [busy_needs hk.asc]
  constructor
  · rintro ⟨x, hx, n, hn, hc⟩
    rcases on_cases m.l x with ⟨i, o, ho, rfl⟩ | hno
    · refine ⟨o, List.mem_of_getElem? ho, by rw [List.contains_iff_mem]; exact hx, n, ?_, hc⟩
      rwa [needsN_yes hk ho] at hn
    · exact absurd ⟨x, hx, hno⟩ hout
  · rintro ⟨o, ho, hc, n, hn, hnc⟩
    obtain ⟨i, hi⟩ := List.getElem?_of_mem ho
    exact ⟨o.n, List.contains_iff_mem.1 hc, n, by rw [needsN_yes hk hi]; exact hn, hnc⟩
theorem lacks_step {m : Stk} {F : List Int} {k : Nat} {x : Int} (hx : F[k]? = some x) : Lacks m F (F.take (k + 1)) ↔ Lacks m F (F.take k) ∨ ∃ n ∈ needsN m x, F.contains (n : Int) = false := by
  obtain ⟨h1, h2⟩ := List.getElem?_eq_some_iff.1 hx
  unfold Lacks
  rw [List.take_succ_eq_append_getElem h1, h2]
  constructor
  · rintro ⟨y, hy, h⟩
    rcases List.mem_append.1 hy with hy | hy
    · exact .inl ⟨y, hy, h⟩
    · simp at hy
      subst hy
      exact .inr h
  · rintro (⟨y, hy, h⟩ | h)
    · exact ⟨y, by simp [hy], h⟩
    · exact ⟨x, by simp, h⟩
theorem out_step {l : List On} {F : List Int} {k : Nat} {x : Int} (hx : F[k]? = some x) : OutL l (F.take (k + 1)) ↔ OutL l (F.take k) ∨ ∀ o ∈ l, (o.n : Int) ≠ x := by
  obtain ⟨h1, h2⟩ := List.getElem?_eq_some_iff.1 hx
  unfold OutL
  rw [List.take_succ_eq_append_getElem h1, h2]
  constructor
  · rintro ⟨y, hy, h⟩
    rcases List.mem_append.1 hy with hy | hy
    · exact .inl ⟨y, hy, h⟩
    · simp at hy
      subst hy
      exact .inr h
  · rintro (⟨y, hy, h⟩ | h)
    · exact ⟨y, by simp [hy], h⟩
    · exact ⟨x, by simp, h⟩
/-- What is wanted, once some are looked through. -/
def Want1 (m : Stk) (s : List Int) (x : Int) : Prop := (x = 2 ∧ OutL m.l s) ∨ (x = 0 ∧ ¬ OutL m.l s)
def Want2 (m : Stk) (F s : List Int) (x : Int) : Prop := (x = 12 ∧ Lacks m F s) ∨ (x = 0 ∧ ¬ Lacks m F s)
def Want3 (m : Stk) (F s : List Int) (ns : List Int) (x : Int) : Prop := (x = 12 ∧ (Lacks m F s ∨ ∃ n ∈ ns, F.contains n = false)) ∨ (x = 0 ∧ ¬ (Lacks m F s ∨ ∃ n ∈ ns, F.contains n = false))
set_option maxHeartbeats 3200000 in
theorem needs_law_c (w : World) (A0 : Option Addr) (n0 c0 : Nat) (l0 : List UInt8) (A1 : Option Addr) (n1 c1 : Nat) (ds : List Dd) (A2 : Option Addr) (n2 c2 : Nat) (ks : List Int) (h : Arg w A0 n0 c0 l0 A1 n1 c1 ds) (hl2 : n2 = ks.length) (rd2 : Rd w 1 (.slice A2 n2 c2) n2 (ints ks)) (il2 : ∀ x ∈ ks, i64 x) :
    Calls Try.prog 3 #[.slice A0 n0 c0, .slice A1 n1 c1, .slice A2 n2 c2] w (fun e w' => e = .returned (.bool true) ∧ Below w.heap.size w w') := by
  have HA := Lib.hid h
  have hmx := rd2.max
  obtain ⟨F, hF⟩ : ∃ F, F = ks.take 40 := ⟨_, rfl⟩
  obtain ⟨nF, hnF⟩ : ∃ nF, nF = F.length := ⟨_, rfl⟩
  have hfw : fewV A2 n2 c2 = .slice A2 nF c2 := by
    unfold fewV
    split
    · rw [hnF, hF, List.length_take, ← hl2, Nat.min_eq_left (by omega)]
    · rw [hnF, hF, List.length_take, ← hl2, Nat.min_eq_right (by omega)]
  have HFEW : Hid (∀ (w : World) (L : List HP), Own w L → Calls Try.prog 13 #[.slice A2 n2 c2] w (Ret w (.slice A2 nF c2) L)) := fun w L hO => by
    rw [← hfw]
    exact few_c w L A2 n2 c2 (fun h => by omega) hO
  have HRF : Hid (∀ w' L, Own w' (snap w :: L) → Rd w' 1 (.slice A2 nF c2) F.length (ints F)) := fun w' L h => by
    have h2 := few_rd (rd_snap1 rd2 h) hl2
    rw [hfw, ← hF] at h2
    exact h2
  have HIL : Hid (∀ x ∈ F, i64 x) := fun x hx => il2 x (by rw [hF] at hx; exact List.mem_of_mem_take hx)
  have HCELL : Hid (∀ w' L (ad : Addr) (k : Nat) (x : Int), A2 = some ad → F[k]? = some x → Own w' (snap w :: L) → w'.cell? (ad.add k) = some (.int .i64 x)) := fun w' L ad k x hA hx h => by
    subst hA
    have h2 := rd_snap1 rd2 h
    subst hl2
    refine rdI_cell h2 ?_
    rw [hF, List.getElem?_take] at hx
    split at hx
    · exact hx
    · cases hx
  have HNF := Lib.hid hnF
  have hle : nF ≤ n2 ∧ nF ≤ 40 := by rw [hnF, hF, List.length_take]; omega
  have HADR : Hid (0 < nF → ∃ ad, A2 = some ad) := fun h0 => rd2.addr (by rw [ints_len]; omega)
  have hO : Own w [snap w] := own_snap
  have hS := Same.refl w
  clear h rd2 il2 hl2 hfw hF hnF
  go_enter Try.func3, Try.ntmps3
  go_upto_region 2 with (first | (go_at_call 11; (with_reducible refine Calls.mono (play_s _ _ _ _ _ l0 _ _ _ ds HA.out _ hO) ?_); clear hO; rintro e u ⟨p, q, m, hm, hl, hn, rfl, hO, hSn⟩; replace hS := hS.trans hSn; clear hSn; have HM := Lib.hid hm; have HML : Hid (m.l.length ≤ 30 ∧ m.next ≤ 30) := ⟨hl, hn⟩; clear hm hl hn))
  obtain ⟨re, bs, hrb, hre, hx2⟩ := roll_both m HM.out F HIL.out
  have HRB := Lib.hid hrb.1
  have HRE := Lib.hid hre
  clear hrb hre hx2
  go_wp2_with (first | (go_at_call 12; (with_reducible refine Calls.mono (live_c _ _ hO) ?_); clear hO; rintro e u ⟨rfl, hO, hSn⟩; replace hS := hS.trans hSn; clear hSn))
  go_loopw [10, 11] (fun v i wr => ∃ (k : Nat) (x : Int), k ≤ nF ∧ i = .int .i64 k ∧ v = .int .i64 x ∧ Want1 m (F.take k) x ∧ Own wr [stk p m, rstk q m, snap w] ∧ Same w wr) (fun _ i _ => nF - (intOf i).toNat)
  case atStart => exact ⟨0, 0, Nat.zero_le _, rfl, rfl, .inr ⟨rfl, fun ⟨x, hx, _⟩ => by simp at hx⟩, hO, hS⟩
  case round =>
    clear hO hS
    obtain ⟨k, wv, hk, rfl, rfl, hw1, hO, hS⟩ := hrel
    have HW1 := Lib.hid hw1
    clear hw1
    by_cases hlt : k < nF
    · obtain ⟨x, hx⟩ : ∃ x, F[k]? = some x := ⟨_, List.getElem?_eq_getElem (by have := HNF.out; omega)⟩
      obtain ⟨ad, rfl⟩ := HADR.out (by omega)
      obtain ⟨x0, x1, x2, gb, hg, hgi⟩ := get_both m HM.out m.next HM.out x (HIL.out x (List.mem_of_getElem? hx))
      have HG := Lib.hid hg.1
      have HX := Lib.hid hx
      have HC : Hid (∀ w' L, Own w' (snap w :: L) → w'.cell? (ad.add k) = some (.int .i64 x)) := fun w' L h => HCELL.out w' L ad k x rfl hx h
      have HOS : Hid (OutL m.l (F.take (k + 1)) ↔ OutL m.l (F.take k) ∨ ∀ o ∈ m.l, (o.n : Int) ≠ x) := out_step hx
      have hm1 : (k : Int) < n2 := by omega
      have hm2 : (k : Int) < nF := by omega
      have HLT : Hid (k < nF) := hlt
      have HGI := Lib.hid hgi
      clear hx hg hgi
      cases gb with
      | true =>
        go_wp2_with (first | (go_at_call 13; (with_reducible refine Calls.mono (HFEW.out _ _ hO) ?_); clear hO; rintro e u ⟨rfl, hO, hSn⟩; replace hS := hS.trans hSn; clear hSn) | (refine own_load1_at (ad := ad.add k) (v := .int .i64 x) rfl rfl rfl row_int (HC.out _ _ (own_drop (own_drop hO))) ?_) | (go_at_call 14; (with_reducible refine Calls.mono (call_at 0 (fun L' h => HG.out _ L' p h) rfl hO) ?_); clear hO; rintro e u ⟨rfl, hO, hSn⟩; replace hS := hS.trans hSn; clear hSn; simp only [List.set_cons_zero, List.set_cons_succ] at hO) | (refine own_alloc (T := 33) rfl rfl zero_pat rfl hO ?_; clear hO; intro g u hO hSn; replace hS := hS.trans hSn; clear hSn) | (apply own_store_all (k := 0) rfl rfl rfl rfl sz_pat hO rfl; (focus rfl); (focus rfl); (focus rfl); clear hO; intro u hO hSn; replace hS := hS.trans hSn; clear hSn; simp only [List.set_cons_zero, List.set_cons_succ] at hO))
        go_roundw
        case rel =>
          refine ⟨k + 1, wv, HLT.out, by go_num, rfl, ?_, own_drop hO, hS⟩
          have hex := (by first | exact HGI.out.1 rfl | exact HGI.out.1 trivial : ∃ o ∈ m.l, (o.n : Int) = x)
          rcases HW1.out with ⟨e1, h1⟩ | ⟨e1, h1⟩
          · exact .inl ⟨e1, HOS.out.2 (.inl h1)⟩
          · refine .inr ⟨e1, fun h2 => ?_⟩
            rcases HOS.out.1 h2 with h3 | h3
            · exact h1 h3
            · obtain ⟨o, ho, he⟩ := hex
              exact h3 o ho he
        case measure => have := HLT.out; simp [intOf]; omega
      | false =>
        go_wp2_with (first | (go_at_call 13; (with_reducible refine Calls.mono (HFEW.out _ _ hO) ?_); clear hO; rintro e u ⟨rfl, hO, hSn⟩; replace hS := hS.trans hSn; clear hSn) | (refine own_load1_at (ad := ad.add k) (v := .int .i64 x) rfl rfl rfl row_int (HC.out _ _ (own_drop (own_drop hO))) ?_) | (go_at_call 14; (with_reducible refine Calls.mono (call_at 0 (fun L' h => HG.out _ L' p h) rfl hO) ?_); clear hO; rintro e u ⟨rfl, hO, hSn⟩; replace hS := hS.trans hSn; clear hSn; simp only [List.set_cons_zero, List.set_cons_succ] at hO) | (refine own_alloc (T := 33) rfl rfl zero_pat rfl hO ?_; clear hO; intro g u hO hSn; replace hS := hS.trans hSn; clear hSn) | (apply own_store_all (k := 0) rfl rfl rfl rfl sz_pat hO rfl; (focus rfl); (focus rfl); (focus rfl); clear hO; intro u hO hSn; replace hS := hS.trans hSn; clear hSn; simp only [List.set_cons_zero, List.set_cons_succ] at hO))
        go_roundw
        case rel =>
          refine ⟨k + 1, 2, HLT.out, by go_num, rfl, .inl ⟨rfl, HOS.out.2 (.inr fun o ho he => ?_)⟩, own_drop hO, hS⟩
          have := HGI.out.2 ⟨o, ho, he⟩
          cases this
        case measure => have := HLT.out; simp [intOf]; omega
    · have hke : k = nF := by omega
      have hFk : F.take k = F := by rw [List.take_of_length_le]; have := HNF.out; omega
      have HW : Hid (Want1 m F wv) := by have := HW1.out; rw [hFk] at this; exact this
      subst hke
      clear hFk HW1
      go_wp2_with (go_at_call 13; (with_reducible refine Calls.mono (HFEW.out _ _ hO) ?_); clear hO; rintro e u ⟨rfl, hO, hSn⟩; replace hS := hS.trans hSn; clear hSn)
      rcases HW.out with ⟨rfl, hout⟩ | ⟨rfl, hout⟩
      · have HRE2 : Hid (re = 2) := by
          rcases HRE.out with ⟨_, h1⟩ | ⟨h1, _⟩ | ⟨h1, _⟩
          · exact h1
          · exact absurd hout h1
          · exact absurd hout h1
        clear hout
        have hpos : 0 < k := by
          have := HW.out
          rcases this with ⟨_, ⟨y, hy, _⟩⟩ | ⟨h, _⟩
          · have := List.length_pos_of_mem hy; have := HNF.out; omega
          · omega
        have hm1 : (0 : Int) < k := by omega
        have e2 := HRE2.out
        subst e2
        go_loopw [10, 14] (fun v i wr => v = .int .i64 2 ∧ i = .int .i64 0 ∧ Own wr [stk p m, rstk q m, snap w] ∧ Same w wr) (fun _ _ _ => 0)
        case atStart => exact ⟨rfl, rfl, hO, hS⟩
        case round =>
          clear hO hS
          obtain ⟨rfl, rfl, hO, hS⟩ := hrel
          go_wp2_with (first | (go_at_call 13; (with_reducible refine Calls.mono (HFEW.out _ _ hO) ?_); clear hO; rintro e u ⟨rfl, hO, hSn⟩; replace hS := hS.trans hSn; clear hSn) | (go_at_call 17; (with_reducible refine Calls.mono (HRB.out _ [rstk q m, snap w] p _ hO (fun w' h => HRF.out w' _ (own_drop h))) ?_); clear hO; rintro e u ⟨vr, rfl, hO, hSn⟩; replace hS := hS.trans hSn; clear hSn))
          go_ret
          exact ⟨rfl, below_of (own_at hO (k := 3) rfl) hS⟩
      · have HOUT := Lib.hid hout
        clear hout
        go_loopw [10, 14] (fun v i wr => ∃ (j : Nat) (x : Int), j ≤ k ∧ i = .int .i64 j ∧ v = .int .i64 x ∧ Want2 m F (F.take j) x ∧ Own wr [stk p m, rstk q m, snap w] ∧ Same w wr) (fun _ i _ => k - (intOf i).toNat)
        case atStart => exact ⟨0, 0, Nat.zero_le _, rfl, rfl, .inr ⟨rfl, fun ⟨x, hx, _⟩ => by simp at hx⟩, hO, hS⟩
        case round =>
          clear hO hS
          obtain ⟨j, wv, hj, rfl, rfl, hw2, hO, hS⟩ := hrel
          have hwv : (wv != 2) = true := by rcases hw2 with ⟨rfl, _⟩ | ⟨rfl, _⟩ <;> rfl
          have HW2 := Lib.hid hw2
          clear hw2
          by_cases hlt : j < k
          · obtain ⟨x, hx⟩ : ∃ x, F[j]? = some x := ⟨_, List.getElem?_eq_getElem (by have := HNF.out; omega)⟩
            obtain ⟨ad, rfl⟩ := HADR.out (by omega)
            have hne := needs_both m HM.out m.next HM.out x (HIL.out x (List.mem_of_getElem? hx))
            rw [numV_ints] at hne
            obtain ⟨nl, hnl⟩ : ∃ nl, nl = (needsN m x).map fun n : Nat => (n : Int) := ⟨_, rfl⟩
            rw [← hnl] at hne
            have hne1 := hne.1
            rw [ints_len] at hne1
            have HN := Lib.hid hne1
            have HC : Hid (∀ w' L, Own w' (snap w :: L) → w'.cell? (ad.add j) = some (.int .i64 x)) := fun w' L h => HCELL.out w' L ad j x rfl hx h
            have HLS : Hid (Lacks m F (F.take (j + 1)) ↔ Lacks m F (F.take j) ∨ ∃ n ∈ nl, F.contains n = false) := by
              show _ ↔ _
              rw [lacks_step hx, hnl]
              constructor
              · rintro (h | ⟨n, hn, h⟩)
                · exact .inl h
                · exact .inr ⟨n, List.mem_map.2 ⟨n, hn, rfl⟩, h⟩
              · rintro (h | ⟨n, hn, h⟩)
                · exact .inl h
                · obtain ⟨n', hn', rfl⟩ := List.mem_map.1 hn
                  exact .inr ⟨n', hn', h⟩
            have hm1 : (j : Int) < n2 := by omega
            have hm2 : (j : Int) < k := by omega
            have HLT : Hid (j < k) := hlt
            clear hx hne hne1 hnl
            have hnl40 : nl.length ≤ 1000000000 ∨ True := .inr trivial
            clear hnl40
            go_wp2_with (first | (go_at_call 13; (with_reducible refine Calls.mono (HFEW.out _ _ hO) ?_); clear hO; rintro e u ⟨rfl, hO, hSn⟩; replace hS := hS.trans hSn; clear hSn) | (refine own_load1_at (ad := ad.add j) (v := .int .i64 x) rfl rfl rfl row_int (HC.out _ _ (own_drop (own_drop hO))) ?_) | (go_at_call 15; (with_reducible refine Calls.mono (call_atX 0 (fun L' h => HN.out _ L' p h) rfl hO) ?_); clear hO; rintro e u ⟨vn, rfl, hO, hSn⟩; replace hS := hS.trans hSn; clear hSn; simp only [List.set_cons_zero, List.set_cons_succ] at hO; obtain ⟨An, cn, rfl⟩ := (rdA_rd hO).slice))
            have hmn := (rdA_rd hO).max
            go_loopw [10, 16] (fun v i wr => ∃ (t : Nat) (y : Int), t ≤ nl.length ∧ i = .int .i64 t ∧ v = .int .i64 y ∧ Want3 m F (F.take j) (nl.take t) y ∧ Own wr [rdA 1 (.slice An nl.length cn) nl.length (ints nl), stk p m, rstk q m, snap w] ∧ Same w wr) (fun _ i _ => nl.length - (intOf i).toNat)
            case atStart =>
              refine ⟨0, wv, Nat.zero_le _, rfl, rfl, ?_, hO, hS⟩
              rcases HW2.out with ⟨e1, h1⟩ | ⟨e1, h1⟩
              · exact .inl ⟨e1, .inl h1⟩
              · exact .inr ⟨e1, fun h => by rcases h with h | ⟨n, hn, _⟩; exact h1 h; simp at hn⟩
            case round =>
              clear hO hS hwv
              obtain ⟨t, yv, ht, rfl, rfl, hw3, hO, hS⟩ := hrel
              have HW3 := Lib.hid hw3
              clear hw3
              by_cases hlt2 : t < nl.length
              · obtain ⟨y, hy⟩ : ∃ y, nl[t]? = some y := ⟨_, List.getElem?_eq_getElem hlt2⟩
                obtain ⟨ae, rfl⟩ := (rdA_rd hO).addr (by rw [ints_len]; omega)
                have HCE : Hid (∀ w', Own w' [rdA 1 (.slice (some ae) nl.length cn) nl.length (ints nl), stk p m, rstk q m, snap w] → w'.cell? (ae.add t) = some (.int .i64 y)) := fun w' h => rdI_cell (rdA_rd h) hy
                have HY : Hid (nl.take (t + 1) = nl.take t ++ [y]) := by
                  obtain ⟨h1, h2⟩ := List.getElem?_eq_some_iff.1 hy
                  show _ = _
                  rw [List.take_succ_eq_append_getElem h1, h2]
                have hm3 : (t : Int) < nl.length := by omega
                have HLT2 : Hid (t < nl.length) := hlt2
                clear hy
                cases hb : F.contains y with
                | true =>
                  have HB := Lib.hid hb
                  clear hb
                  go_upto_region 18 with fail
                  refine wp_region_seq (Cls wr ([rdA 1 (.slice (some ae) nl.length cn) nl.length (ints nl), stk p m, rstk q m, snap w])) 8 91 mixed (by kernel_rfl) rfl (cls_drew hO) ?_
                  simp only [List.append_eq, List.cons_append, List.nil_append, List.take_succ_cons, List.take_zero]
                  repeat (first
                    | (apply wv_skip rfl; simp only [Act.put, List.setIfInBounds_toArray, List.set_cons_zero, List.set_cons_succ])
                    | (refine wv_load1_at (ad := ae.add t) (v := .int .i64 y) rfl rfl rfl row_int (fun w h => HCE.out w h.1) ?_; simp only [Act.put, List.setIfInBounds_toArray, List.set_cons_zero, List.set_cons_succ])
                    | (apply wv_load1 rfl rfl rfl; (first | exact row_int | exact row_str | exact row_bool | exact row_u8 | exact row_bys | exact row_pats | exact row_err); (intro w h; (first | exact own_get 0 h.1 rfl | exact own_get 1 h.1 rfl | exact own_get 2 h.1 rfl | exact own_get 3 h.1 rfl | exact own_get 4 h.1 rfl | exact own_get 5 h.1 rfl | exact own_get 6 h.1 rfl | exact own_get 7 h.1 rfl)); (first | (simp only [List.getElem?_toArray, List.getElem?_cons_succ, List.getElem?_cons_zero]; rfl) | rfl); simp only [Act.put, List.setIfInBounds_toArray, List.set_cons_zero, List.set_cons_succ])
                    | (apply wv_loadrow rfl rfl rfl; (first | exact row_pat); exact sz_pat; (intro w h; (first | exact own_get 0 h.1 rfl | exact own_get 1 h.1 rfl | exact own_get 2 h.1 rfl | exact own_get 3 h.1 rfl | exact own_get 4 h.1 rfl | exact own_get 5 h.1 rfl | exact own_get 6 h.1 rfl | exact own_get 7 h.1 rfl)); (focus (simp; done)); (first | (simp only [List.drop_zero, List.drop_succ_cons, List.take_succ_cons, List.take_zero]; rfl) | rfl); simp only [Act.put, List.setIfInBounds_toArray, List.set_cons_zero, List.set_cons_succ])
                    | (apply wv_run rfl; (focus (intro w h; go_simp; first | done | rfl)); simp only [Act.put, List.setIfInBounds_toArray, List.set_cons_zero, List.set_cons_succ])
                    | (apply wv_call rfl; (focus (intro w; go_simp; first | done | exact ⟨rfl, rfl⟩)); (focus (intro w h; apply cls_call h; first | exact HFEW.out _ _ h.1 | exact lhas_v _ _ _ F y _ HB.out h.1 (fun w' hh => HRF.out w' _ (own_drop (own_drop (own_drop hh)))))); simp only [Act.put, List.setIfInBounds_toArray, List.set_cons_zero, List.set_cons_succ]))
                  refine wv_nil ?_
                  simp only [List.drop_succ_cons, List.drop_zero]
                  intro w6 ⟨hO6, hS6⟩
                  clear hO
                  go_wp2
                  go_roundw
                  case rel =>
                    refine ⟨t + 1, yv, HLT2.out, by go_num, rfl, ?_, hO6, hS.trans hS6⟩
                    have e : Lacks m F (F.take j) ∨ (∃ n ∈ nl.take (t + 1), F.contains n = false) ↔ Lacks m F (F.take j) ∨ ∃ n ∈ nl.take t, F.contains n = false := by
                      rw [HY.out]
                      constructor
                      · rintro (h | ⟨n, hn, h⟩)
                        · exact .inl h
                        · rcases List.mem_append.1 hn with hn | hn
                          · exact .inr ⟨n, hn, h⟩
                          · simp at hn
                            subst hn
                            rw [HB.out] at h; cases h
                      · rintro (h | ⟨n, hn, h⟩)
                        · exact .inl h
                        · exact .inr ⟨n, List.mem_append_left _ hn, h⟩
                    rcases HW3.out with ⟨e1, h1⟩ | ⟨e1, h1⟩
                    · exact .inl ⟨e1, e.2 h1⟩
                    · exact .inr ⟨e1, fun h => h1 (e.1 h)⟩
                  case measure => have := HLT2.out; simp [intOf]; omega
                | false =>
                  have HB := Lib.hid hb
                  clear hb
                  go_upto_region 18 with fail
                  refine wp_region_seq (Cls wr ([rdA 1 (.slice (some ae) nl.length cn) nl.length (ints nl), stk p m, rstk q m, snap w])) 8 91 mixed (by kernel_rfl) rfl (cls_drew hO) ?_
                  simp only [List.append_eq, List.cons_append, List.nil_append, List.take_succ_cons, List.take_zero]
                  repeat (first
                    | (apply wv_skip rfl; simp only [Act.put, List.setIfInBounds_toArray, List.set_cons_zero, List.set_cons_succ])
                    | (refine wv_load1_at (ad := ae.add t) (v := .int .i64 y) rfl rfl rfl row_int (fun w h => HCE.out w h.1) ?_; simp only [Act.put, List.setIfInBounds_toArray, List.set_cons_zero, List.set_cons_succ])
                    | (apply wv_load1 rfl rfl rfl; (first | exact row_int | exact row_str | exact row_bool | exact row_u8 | exact row_bys | exact row_pats | exact row_err); (intro w h; (first | exact own_get 0 h.1 rfl | exact own_get 1 h.1 rfl | exact own_get 2 h.1 rfl | exact own_get 3 h.1 rfl | exact own_get 4 h.1 rfl | exact own_get 5 h.1 rfl | exact own_get 6 h.1 rfl | exact own_get 7 h.1 rfl)); (first | (simp only [List.getElem?_toArray, List.getElem?_cons_succ, List.getElem?_cons_zero]; rfl) | rfl); simp only [Act.put, List.setIfInBounds_toArray, List.set_cons_zero, List.set_cons_succ])
                    | (apply wv_loadrow rfl rfl rfl; (first | exact row_pat); exact sz_pat; (intro w h; (first | exact own_get 0 h.1 rfl | exact own_get 1 h.1 rfl | exact own_get 2 h.1 rfl | exact own_get 3 h.1 rfl | exact own_get 4 h.1 rfl | exact own_get 5 h.1 rfl | exact own_get 6 h.1 rfl | exact own_get 7 h.1 rfl)); (focus (simp; done)); (first | (simp only [List.drop_zero, List.drop_succ_cons, List.take_succ_cons, List.take_zero]; rfl) | rfl); simp only [Act.put, List.setIfInBounds_toArray, List.set_cons_zero, List.set_cons_succ])
                    | (apply wv_run rfl; (focus (intro w h; go_simp; first | done | rfl)); simp only [Act.put, List.setIfInBounds_toArray, List.set_cons_zero, List.set_cons_succ])
                    | (apply wv_call rfl; (focus (intro w; go_simp; first | done | exact ⟨rfl, rfl⟩)); (focus (intro w h; apply cls_call h; first | exact HFEW.out _ _ h.1 | exact lhas_v _ _ _ F y _ HB.out h.1 (fun w' hh => HRF.out w' _ (own_drop (own_drop (own_drop hh)))))); simp only [Act.put, List.setIfInBounds_toArray, List.set_cons_zero, List.set_cons_succ]))
                  refine wv_nil ?_
                  simp only [List.drop_succ_cons, List.drop_zero]
                  intro w6 ⟨hO6, hS6⟩
                  clear hO
                  go_wp2
                  go_roundw
                  case rel => exact ⟨t + 1, 12, HLT2.out, by go_num, rfl, .inl ⟨rfl, .inr ⟨y, by rw [HY.out]; simp, HB.out⟩⟩, hO6, hS.trans hS6⟩
                  case measure => have := HLT2.out; simp [intOf]; omega
              · have hte : t = nl.length := by omega
                subst hte
                go_wp2
                go_roundw
                case rel =>
                  refine ⟨j + 1, yv, HLT.out, by go_num, rfl, ?_, own_drop hO, hS⟩
                  have h3 := HW3.out
                  unfold Want3 at h3
                  rw [List.take_length, ← HLS.out] at h3
                  exact h3
                case measure => have := HLT.out; simp [intOf]; omega
          · have hje : j = k := by omega
            have hFj : F.take j = F := by rw [List.take_of_length_le]; have := HNF.out; omega
            have HRW : Hid (re = wv) := by
              have h2 := HW2.out
              rw [hFj] at h2
              rcases h2 with ⟨rfl, h2⟩ | ⟨rfl, h2⟩
              · have h3 := (lacks_busy HM.out HOUT.out).1 h2
                rcases HRE.out with ⟨h4, _⟩ | ⟨_, _, h4⟩ | ⟨_, h4, _⟩
                · exact absurd h4 HOUT.out
                · exact h4
                · exact absurd h3 h4
              · rcases HRE.out with ⟨h4, _⟩ | ⟨_, h4, _⟩ | ⟨_, _, h4⟩
                · exact absurd h4 HOUT.out
                · exact absurd ((lacks_busy HM.out HOUT.out).2 h4) h2
                · exact h4
            have hrw := HRW.out
            subst hrw
            subst hje
            clear hFj
            go_wp2_with (first | (go_at_call 13; (with_reducible refine Calls.mono (HFEW.out _ _ hO) ?_); clear hO; rintro e u ⟨rfl, hO, hSn⟩; replace hS := hS.trans hSn; clear hSn) | (go_at_call 17; (with_reducible refine Calls.mono (HRB.out _ [rstk q m, snap w] p _ hO (fun w' h => HRF.out w' _ (own_drop h))) ?_); clear hO; rintro e u ⟨vr, rfl, hO, hSn⟩; replace hS := hS.trans hSn; clear hSn))
            go_ret
            exact ⟨rfl, below_of (own_at hO (k := 3) rfl) hS⟩
end Go.Proofs.Ytdcbfdepkbplbaa.H
