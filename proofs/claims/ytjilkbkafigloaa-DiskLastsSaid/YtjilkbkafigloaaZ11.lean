/- Crash of the reference's disk. Opening a law's arguments: bytes, a patch, patches. Opening a law's argument: a deed on a disk. Both disks do the same; the law's do. -/
import Derived.Test.YtjilkbkafigloaaZ10
import Derived.Test.YtjilkbkafigloaaZ05
import Derived.Test.YtjilkbkafigloaaRows
import Derived.WalkKit
import Derived.ProofKit
import Derived.OpenShut
import Derived.Carry
import Derived.Deep.Slices
import Derived.Deep.Fields
import Derived.ChangeSame
import Derived.ChangeOld
import Derived.Lib.SmallJoins
set_option linter.unusedVariables false
set_option linter.unusedSimpArgs false
set_option maxRecDepth 100000
namespace Go.Proofs.Ytjilkbkafigloaa.H
open Go.RowKit
section
variable (w : World) (L : List HP) (q : Nat) (m : List Blk)
set_option maxHeartbeats 3200000 in
theorem rcrash_c (pv : Value) (pl : List Int) (hO : Own w (rdiskP q m :: L)) (hr : ∀ w', Own w' L → Rd w' 1 pv pl.length (pl.map encZ)) (hi : ∀ x ∈ pl, inI x) : Calls Try.prog 42 #[.pointer (some ⟨q, 0, none⟩), pv] w (Ret w (.int .i64 0) (rdiskP q (crashL (pickV pl) 0 m) :: L)) := by
  have hS := Same.refl w
  obtain ⟨PA, pc, rfl⟩ := (hr w (own_drop hO)).slice
  have HRP := Lib.hid hr
  have HIN := Lib.hid hi
  obtain ⟨g, cap, rest, rb0, l, ⟨hk0, hroom0⟩, hnil, hO⟩ := rdisk_more hO
  have HK0 := Lib.hid (And.intro hk0 hroom0)
  have HNIL := Lib.hid hnil
  have hlm := hk0.len
  clear hk0 hroom0 hnil hr hi
  go_enter Try.func42, Try.ntmps42
  go_wp2
  go_loopw [5, 6, 7] (fun kv iv nv wr => ∃ i : Nat, i ≤ m.length ∧ iv = .int .i64 i ∧ kv = .int .i64 (cntL (m.take i)) ∧ (∃ rb, (ROk (crK (pickV pl) m i) rb l ∧ Room (crK (pickV pl) m i) rb rest cap) ∧ Own wr (rLd q g cap m.length rb rest l L)) ∧ Same w wr) (fun kv iv nv _ => m.length - (intOf iv).toNat)
  case atStart => exact ⟨0, Nat.zero_le _, rfl, rfl, ⟨rb0, by rw [crK_zero]; exact HK0.out, hO⟩, hS⟩
  case round =>
    clear hO hS
    obtain ⟨i, hi, rfl, rfl, ⟨rb, ⟨hok, hroom⟩, hO⟩, hS⟩ := hrel
    by_cases hlt : i < m.length
    · obtain ⟨b, hb⟩ : ∃ b, m[i]? = some b := ⟨_, List.getElem?_eq_getElem hlt⟩
      have hcr := crK_at (pk := pickV pl) hb
      obtain ⟨A, c, hrb, hmem⟩ := hok.at_ hcr
      have hb32 : b.s.length = 32 := hok.s32 _ (List.mem_of_getElem? hrb)
      have hv32 : ∀ s ∈ b.vs, s.length = 32 := hok.v32 _ (List.mem_of_getElem? hrb)
      have HF := Lib.hid (rb_fit (rest := rest) hok.s32 hrb)
      have HVV := Lib.hid (rb_v (rest := rest) hok.s32 hrb)
      have hi1 : (i : Int) < m.length := by omega
      have hcnt := cntL_le (m.take i)
      have hcnt2 : cntL (m.take i) ≤ 96 := by rw [List.length_take] at hcnt; omega
      have hrd : ∀ w', Own w' (rLd q g cap m.length rb rest l L) → Rd w' 32 (.slice A b.vs.length c) b.vs.length (secs b.vs) := fun w' h => rdV_rd (own_at h (k := 2) rfl) hmem
      have hmx := (hrd _ hO).max
      by_cases hv : b.vs = []
      · have HOK : Hid (ROk (crK (pickV pl) m (i + 1)) rb l ∧ Room (crK (pickV pl) m (i + 1)) rb rest cap) := by
          refine ⟨?_, ?_⟩
          · rw [crK_no hb hv]; exact hok
          · rw [crK_no hb hv]; exact hroom
        have HCN : Hid (cntL (m.take (i + 1)) = cntL (m.take i)) := by show _ = _; rw [take_next hb, cntL_app, cntL_no hv]; rfl
        rw [hv] at HVV
        clear hcr hok hroom hmem hb32 hv32 hrb hb hv hrd hmx hcnt
        go_wp2_with (first | (refine own_load1 (b := g) (off := i * 34 + 32) (v := .slice A 0 c) rfl rfl rfl row_rsecs (own_get 1 hO rfl) HVV.out ?_) | (apply own_load1 rfl rfl rfl; (first | exact row_blks); (first | exact own_get 0 hO rfl | exact own_get 1 hO rfl | exact own_get 2 hO rfl | exact own_get 3 hO rfl | exact own_get 4 hO rfl | exact own_get 5 hO rfl | exact own_get 6 hO rfl | exact own_get 7 hO rfl); (first | (simp only [List.getElem?_toArray, List.getElem?_cons_succ, List.getElem?_cons_zero]; rfl) | rfl)))
        go_roundw
        case rel => exact ⟨i + 1, by omega, by go_num, by rw [HCN.out], ⟨rb, HOK.out, hO⟩, hS⟩
        case measure => simp [intOf]; omega
      · have hlen : 0 < b.vs.length := List.length_pos_iff.2 hv
        have hne0 : ((b.vs.length : Int) == 0) = false := by rw [beq_eq_false_iff_ne]; omega
        have HCN : Hid (cntL (m.take (i + 1)) = cntL (m.take i) + 1) := by show _ = _; rw [take_next hb, cntL_app, cntL_yes hv]
        have hsl := sett_len (m := crK (pickV pl) m i) (fv := []) (fb := []) (l := [])
        have HNX : Hid (crK (pickV pl) m (i + 1) = (crK (pickV pl) m i).set i ⟨sett (pickV pl (cntL (m.take i)) b.vs.length) b, [], b.bad⟩) := crK_yes hb hv
        -- what stands at the end, for a sector of 32 bytes
        have hput : ∀ s : Sec, s.length = 32 → sett (pickV pl (cntL (m.take i)) b.vs.length) b = s → ROk (crK (pickV pl) m (i + 1)) (rb.set i (.slice none 0 0, ⟨s, [], b.bad⟩)) l ∧ Room (crK (pickV pl) m (i + 1)) (rb.set i (.slice none 0 0, ⟨s, [], b.bad⟩)) rest cap := fun s hs e => by
          rw [HNX.out, e]
          exact ⟨hok.put (b' := ⟨s, [], b.bad⟩) (fun _ h => h) hs (fun s hs => by simp at hs) HNIL.out, hroom.put (x := (.slice none 0 0, ⟨s, [], b.bad⟩)) hok hs⟩
        have HSV0 := Lib.hid (rb_setv (rest := rest) hok.s32 hrb (.slice none 0 0) [])
        have HPUT := Lib.hid hput
        have HB32 := Lib.hid hb32
        by_cases hkp : cntL (m.take i) < pl.length
        · obtain ⟨v, hpv⟩ : ∃ v, pl[cntL (m.take i)]? = some v := ⟨_, List.getElem?_eq_getElem hkp⟩
          have hpk : pickV pl (cntL (m.take i)) b.vs.length = v := by simp [pickV, hpv]
          have hiv : inI v := HIN.out v (List.mem_of_getElem? hpv)
          obtain ⟨_, A', c', e, _, _, hcl⟩ := (HRP.out _ (own_drop3 hO)).out
          cases e
          obtain ⟨pad, rfl, _⟩ := hcl (cntL (m.take i)) (.int .i64 v) (by rw [List.getElem?_map, hpv]; rfl)
          have HPC : Hid (∀ w', Own w' (rLd q g cap m.length rb rest l L) → w'.cell? (pad.add (cntL (m.take i))) = some (.int .i64 v)) := Lib.hid fun w' h => by
            obtain ⟨_, A', c', e, _, _, hcl⟩ := (HRP.out _ (own_drop3 h)).out
            cases e
            obtain ⟨pad2, e2, h2⟩ := hcl (cntL (m.take i)) (.int .i64 v) (by rw [List.getElem?_map, hpv]; rfl)
            cases e2
            exact h2
          have d0 : decide ((cntL (m.take i) : Int) < pl.length) = true := decide_eq_true (by omega)
          have d01 : (cntL (m.take i) : Int) < pl.length := by omega
          rw [hpk] at HPUT
          by_cases h1 : 1 ≤ v
          · by_cases h2 : v ≤ (b.vs.length : Int)
            · obtain ⟨s, hsv⟩ : ∃ s, b.vs[(v - 1).toNat]? = some s := ⟨_, List.getElem?_eq_getElem (by omega)⟩
              have hse : Hid (sett v b = s) := by show _ = _; unfold sett; rw [if_pos ⟨h1, h2⟩, hsv]; rfl
              have hs32 := hv32 s (List.mem_of_getElem? hsv)
              have HS32 := Lib.hid hs32
              obtain ⟨r, rfl⟩ : ∃ r : Nat, v = (r : Int) + 1 := ⟨(v - 1).toNat, by omega⟩
              have hq : ((r : Int) + 1 - 1).toNat = r := by omega
              rw [hq] at hsv
              obtain ⟨ad2, rfl, _⟩ := vers_cell (hrd _ hO) hv32 hsv
              have HVC : Hid (∀ w', Own w' (rLd q g cap m.length rb rest l L) → ∀ (j : Nat) (u : Value), (bcs s)[j]? = some u → w'.cell? ((ad2.add (r * 32)).add j) = some u) := Lib.hid fun w' h => by
                obtain ⟨ad3, e3, h3⟩ := vers_cell (hrd _ h) hv32 hsv
                cases e3
                exact h3
              have HST := Lib.hid (rb_sets (rest := rest) hok.s32 hrb s)
              have hs2 : ∀ x ∈ rb.set i (.slice (some ad2) b.vs.length c, ⟨s, b.vs, b.bad⟩), x.2.s.length = 32 := fun x hx => by
                rcases List.mem_or_eq_of_mem_set hx with hx | rfl
                · exact hok.s32 x hx
                · exact hs32
              have hrb2 := set_now hrb (.slice (some ad2) b.vs.length c, ⟨s, b.vs, b.bad⟩)
              have HF2 := Lib.hid (rb_fit (rest := rest) hs2 hrb2)
              have hsv2 := rb_setv (rest := rest) hs2 hrb2 (.slice none 0 0) []
              rw [List.set_set] at hsv2
              have HSV := Lib.hid hsv2
              have d1 : decide (1 ≤ (r : Int) + 1) = true := decide_eq_true h1
              have d2 : decide ((r : Int) + 1 ≤ (b.vs.length : Int)) = true := decide_eq_true h2
              have hsub : IntKind.i64.wrap ((r : Int) + 1 - 1) = (r : Int) := by rw [IntKind.wrap_i64] <;> omega
              have hsub2 : IntKind.i64.wrap (r : Int) = (r : Int) := by rw [IntKind.wrap_i64] <;> omega
              have hq1 : (r : Int) < b.vs.length := by omega
              have hq2 : r < b.vs.length := by omega
              have hq3 : ¬ ((r : Int) < 0) := by omega
              clear hcr hok hroom hmem hb32 hv32 hrb hb hv hrd hput hs32 hs2 hrb2 hsv2 hsv hpk hpv hiv hcl hsl hlen
              go_upto_region 10 with (first | (refine own_load1_at (ad := pad.add (cntL (m.take i))) (v := .int .i64 ((r : Int) + 1)) rfl rfl rfl row_int (HPC.out _ hO) ?_) | (refine own_load1 (b := g) (off := i * 34 + 32) (v := .slice (some ad2) b.vs.length c) rfl rfl rfl row_rsecs (own_get 1 hO rfl) HVV.out ?_) | (apply own_load1 rfl rfl rfl; (first | exact row_blks); (first | exact own_get 0 hO rfl | exact own_get 1 hO rfl | exact own_get 2 hO rfl | exact own_get 3 hO rfl | exact own_get 4 hO rfl | exact own_get 5 hO rfl | exact own_get 6 hO rfl | exact own_get 7 hO rfl); (first | (simp only [List.getElem?_toArray, List.getElem?_cons_succ, List.getElem?_cons_zero]; rfl) | rfl)))
              refine wp_region_seq (Cls _ (_)) 22 80 mixed (by kernel_rfl) rfl (cls_drew hO) ?_
              simp only [List.append_eq, List.cons_append, List.nil_append, List.take_succ_cons, List.take_zero]
              repeat (first
                | (apply wv_skip rfl; simp only [Act.put, List.setIfInBounds_toArray, List.set_cons_zero, List.set_cons_succ])
                | (refine wv_load1 (b := q) (off := 0) (cs := #[.slice (some ⟨g, 0, none⟩) m.length cap]) (t := 72) (v := .slice (some ⟨g, 0, none⟩) m.length cap) rfl rfl rfl row_blks (fun w h => own_get 0 h.1 rfl) rfl ?_; simp only [Act.put, List.setIfInBounds_toArray, List.set_cons_zero, List.set_cons_succ])
                | (refine wv_load1 (b := g) (off := i * 34 + 32) (cs := (rbs rb ++ rest).toArray) (t := 69) (v := .slice (some ad2) b.vs.length c) rfl rfl rfl row_rsecs (fun w h => own_get 1 h.1 rfl) HVV.out ?_; simp only [Act.put, List.setIfInBounds_toArray, List.set_cons_zero, List.set_cons_succ])
                | (refine wv_load1_at (ad := pad.add (cntL (m.take i))) (v := .int .i64 ((r : Int) + 1)) rfl rfl rfl row_int (fun w h => HPC.out w h.1) ?_; simp only [Act.put, List.setIfInBounds_toArray, List.set_cons_zero, List.set_cons_succ])
                | (refine wv_loadrow_at (ad := ad2.add (r * 32)) (vs := bcs s) rfl rfl rfl row_rsec sz_rsec (by rw [bcs_length]; exact HS32.out) (fun w h => HVC.out w h.1) ?_; simp only [Act.put, List.setIfInBounds_toArray, List.set_cons_zero, List.set_cons_succ])
                | (apply wv_load1 rfl rfl rfl; (first | exact row_int | exact row_str | exact row_bool | exact row_u8 | exact row_bys | exact row_pats | exact row_err); (intro w h; (first | exact own_get 0 h.1 rfl | exact own_get 1 h.1 rfl | exact own_get 2 h.1 rfl | exact own_get 3 h.1 rfl | exact own_get 4 h.1 rfl | exact own_get 5 h.1 rfl | exact own_get 6 h.1 rfl | exact own_get 7 h.1 rfl)); (first | (simp only [List.getElem?_toArray, List.getElem?_cons_succ, List.getElem?_cons_zero]; rfl) | rfl); simp only [Act.put, List.setIfInBounds_toArray, List.set_cons_zero, List.set_cons_succ])
                | (apply wv_loadrow rfl rfl rfl; (first | exact row_pat); exact sz_pat; (intro w h; (first | exact own_get 0 h.1 rfl | exact own_get 1 h.1 rfl | exact own_get 2 h.1 rfl | exact own_get 3 h.1 rfl | exact own_get 4 h.1 rfl | exact own_get 5 h.1 rfl | exact own_get 6 h.1 rfl | exact own_get 7 h.1 rfl)); (focus (simp; done)); (first | (simp only [List.drop_zero, List.drop_succ_cons, List.take_succ_cons, List.take_zero]; rfl) | rfl); simp only [Act.put, List.setIfInBounds_toArray, List.set_cons_zero, List.set_cons_succ])
                | (apply wv_run rfl; (focus (intro w h; go_simp; first | done | rfl)); simp only [Act.put, List.setIfInBounds_toArray, List.set_cons_zero, List.set_cons_succ])
                | (apply wv_call rfl; (focus (intro w; go_simp; first | done | exact ⟨rfl, rfl⟩)); (focus (intro w h; apply cls_call h; fail)); simp only [Act.put, List.setIfInBounds_toArray, List.set_cons_zero, List.set_cons_succ]))
              refine wv_nil ?_
              simp only [List.drop_succ_cons, List.drop_zero]
              intro w10 ⟨hO10, hS10⟩
              replace hS := hS.trans hS10
              clear hO hS10
              refine own_store (k := 1) (b := g) (off := i * 34) (n := 32) (v := secV s) (vs := bcs s) rfl rfl rfl rfl sz_rsec hO10 rfl rfl (by rw [bcs_length]; exact HS32.out) (bcs_one s) (by have := HF.out; omega) HST.out ?_
              intro w11 hO hS11
              replace hS := hS.trans hS11
              clear hO10 hS11
              refine wpList_nil ?_
              simp only [Act.put, List.setIfInBounds_toArray, List.set_cons_zero, List.set_cons_succ]
              try simp only [Exit.then]
              have hO : Own w11 (rLd q g cap m.length (rb.set i (.slice (some ad2) b.vs.length c, ⟨s, b.vs, b.bad⟩)) rest l L) := hO
              go_wp2_with (first | (apply own_load1 rfl rfl rfl; (first | exact row_blks); (first | exact own_get 0 hO rfl | exact own_get 1 hO rfl | exact own_get 2 hO rfl | exact own_get 3 hO rfl | exact own_get 4 hO rfl | exact own_get 5 hO rfl | exact own_get 6 hO rfl | exact own_get 7 hO rfl); (first | (simp only [List.getElem?_toArray, List.getElem?_cons_succ, List.getElem?_cons_zero]; rfl) | rfl)) | (refine own_store1 (k := 1) (b := g) (off := i * 34 + 32) (v := .slice none 0 0) rfl rfl rfl rfl sz_rsecs1 hO rfl rfl (by have := HF2.out; omega) HSV.out ?_; clear hO; intro u hO hSn; replace hS := hS.trans hSn; clear hSn))
              go_roundw
              case rel => exact ⟨i + 1, by omega, by go_num, by rw [HCN.out]; go_num, ⟨_, HPUT.out s HS32.out hse.out, hO⟩, hS⟩
              case measure => simp [intOf]; omega
            · have hse : Hid (sett v b = b.s) := by show _ = _; unfold sett; rw [if_neg (fun h => h2 h.2)]
              have d1 : decide (1 ≤ v) = true := decide_eq_true h1
              have d2 : decide (v ≤ (b.vs.length : Int)) = false := decide_eq_false h2
              clear hcr hok hroom hmem hb32 hv32 hrb hb hv hrd hput hpk hpv hiv hcl hsl hlen h2
              go_wp2_with (first | (refine own_load1_at (ad := pad.add (cntL (m.take i))) (v := .int .i64 v) rfl rfl rfl row_int (HPC.out _ hO) ?_) | (refine own_load1 (b := g) (off := i * 34 + 32) (v := .slice A b.vs.length c) rfl rfl rfl row_rsecs (own_get 1 hO rfl) HVV.out ?_) | (apply own_load1 rfl rfl rfl; (first | exact row_blks); (first | exact own_get 0 hO rfl | exact own_get 1 hO rfl | exact own_get 2 hO rfl | exact own_get 3 hO rfl | exact own_get 4 hO rfl | exact own_get 5 hO rfl | exact own_get 6 hO rfl | exact own_get 7 hO rfl); (first | (simp only [List.getElem?_toArray, List.getElem?_cons_succ, List.getElem?_cons_zero]; rfl) | rfl)) | (refine own_store1 (k := 1) (b := g) (off := i * 34 + 32) (v := .slice none 0 0) rfl rfl rfl rfl sz_rsecs1 hO rfl rfl (by have := HF.out; omega) HSV0.out ?_; clear hO; intro u hO hSn; replace hS := hS.trans hSn; clear hSn))
              go_roundw
              case rel => exact ⟨i + 1, by omega, by go_num, by rw [HCN.out]; go_num, ⟨_, HPUT.out b.s HB32.out hse.out, hO⟩, hS⟩
              case measure => simp [intOf]; omega
          · have hse : Hid (sett v b = b.s) := by show _ = _; unfold sett; rw [if_neg (fun h => h1 h.1)]
            have d1 : decide (1 ≤ v) = false := decide_eq_false h1
            clear hcr hok hroom hmem hb32 hv32 hrb hb hv hrd hput hpk hpv hiv hcl hsl hlen h1
            go_wp2_with (first | (refine own_load1_at (ad := pad.add (cntL (m.take i))) (v := .int .i64 v) rfl rfl rfl row_int (HPC.out _ hO) ?_) | (refine own_load1 (b := g) (off := i * 34 + 32) (v := .slice A b.vs.length c) rfl rfl rfl row_rsecs (own_get 1 hO rfl) HVV.out ?_) | (apply own_load1 rfl rfl rfl; (first | exact row_blks); (first | exact own_get 0 hO rfl | exact own_get 1 hO rfl | exact own_get 2 hO rfl | exact own_get 3 hO rfl | exact own_get 4 hO rfl | exact own_get 5 hO rfl | exact own_get 6 hO rfl | exact own_get 7 hO rfl); (first | (simp only [List.getElem?_toArray, List.getElem?_cons_succ, List.getElem?_cons_zero]; rfl) | rfl)) | (refine own_store1 (k := 1) (b := g) (off := i * 34 + 32) (v := .slice none 0 0) rfl rfl rfl rfl sz_rsecs1 hO rfl rfl (by have := HF.out; omega) HSV0.out ?_; clear hO; intro u hO hSn; replace hS := hS.trans hSn; clear hSn))
            go_roundw
            case rel => exact ⟨i + 1, by omega, by go_num, by rw [HCN.out]; go_num, ⟨_, HPUT.out b.s HB32.out hse.out, hO⟩, hS⟩
            case measure => simp [intOf]; omega
        · have hpk : pickV pl (cntL (m.take i)) b.vs.length = 0 := by simp [pickV, List.getElem?_eq_none (show pl.length ≤ cntL (m.take i) by omega)]
          rw [hpk] at HPUT
          have hse : Hid (sett 0 b = b.s) := by show _ = _; unfold sett; rw [if_neg (fun h => by have := h.1; omega)]
          have d01 : ¬ ((cntL (m.take i) : Int) < pl.length) := by omega
          have d0 : decide ((cntL (m.take i) : Int) < pl.length) = false := decide_eq_false d01
          clear hcr hok hroom hmem hb32 hv32 hrb hb hv hrd hput hpk hsl hlen hkp
          go_wp2_with (first | (refine own_load1 (b := g) (off := i * 34 + 32) (v := .slice A b.vs.length c) rfl rfl rfl row_rsecs (own_get 1 hO rfl) HVV.out ?_) | (apply own_load1 rfl rfl rfl; (first | exact row_blks); (first | exact own_get 0 hO rfl | exact own_get 1 hO rfl | exact own_get 2 hO rfl | exact own_get 3 hO rfl | exact own_get 4 hO rfl | exact own_get 5 hO rfl | exact own_get 6 hO rfl | exact own_get 7 hO rfl); (first | (simp only [List.getElem?_toArray, List.getElem?_cons_succ, List.getElem?_cons_zero]; rfl) | rfl)) | (refine own_store1 (k := 1) (b := g) (off := i * 34 + 32) (v := .slice none 0 0) rfl rfl rfl rfl sz_rsecs1 hO rfl rfl (by have := HF.out; omega) HSV0.out ?_; clear hO; intro u hO hSn; replace hS := hS.trans hSn; clear hSn))
          go_roundw
          case rel => exact ⟨i + 1, by omega, by go_num, by rw [HCN.out]; go_num, ⟨_, HPUT.out b.s HB32.out hse.out, hO⟩, hS⟩
          case measure => simp [intOf]; omega
    · have hke : i = m.length := by omega
      subst hke
      rw [crK_all] at hok hroom
      have HK := Lib.hid (And.intro hok hroom)
      clear hok hroom
      go_wp2_with (first | (apply own_load1 rfl rfl rfl; (first | exact row_blks); (first | exact own_get 0 hO rfl | exact own_get 1 hO rfl | exact own_get 2 hO rfl | exact own_get 3 hO rfl | exact own_get 4 hO rfl | exact own_get 5 hO rfl | exact own_get 6 hO rfl | exact own_get 7 hO rfl); (first | (simp only [List.getElem?_toArray, List.getElem?_cons_succ, List.getElem?_cons_zero]; rfl) | rfl)))
      go_ret
      refine ⟨rfl, rdisk_open.2 ⟨g, cap, rest, rb, l, HK.out, ?_⟩, hS⟩
      rw [crashL_len]
      exact hO
end
end Go.Proofs.Ytjilkbkafigloaa.H
set_option linter.unusedVariables false
set_option linter.unusedSimpArgs false
set_option maxRecDepth 100000
namespace Go.Proofs.Ytjilkbkafigloaa.H
open Go.ChangeShapes Go.WideShapes Go.ChangeAt Go.RowKit Go.Deep Go.Joins
theorem laidOut : laidOutB Try.prog = true := by kernel_rfl
theorem ownk : ownKnob Try.prog.godebug = none := by kernel_rfl
theorem lt_of_trod {H : Type} {enc : TypeId × Value → H} {P : Program} {w : World} {sp : Nat → Bool} {hd : Bool} {t : TypeId} {v : Value} {d : DataW H} {ps : List MemPlace} (h : DataW.Trod enc P w 0 sp hd t v d ps) : ∀ x ∈ ps, x.block < w.heap.size := by
  obtain ⟨m, hm⟩ := h
  exact DataW.trod_lt m _ _ _ hm
/-- All arguments read as they did, behind a call that wrote nothing that was there. -/
theorem trodAll_below {H : Type} {enc : TypeId × Value → H} {P : Program} {W W' : World} (hl : laidOutB P = true) (hb : Below W.heap.size W W') :
    ∀ (ts : List TypeId) (vs : List Value) (ds : List (DataW H)) (ps : List MemPlace), (ts.all fun t => P.readableRec t && decide (t < P.types.size)) = true → DataW.TrodAll enc P W 0 (fun _ => true) true ts vs ds ps → DataW.TrodAll enc P W' 0 (fun b => decide (b < W.heap.size)) true ts vs ds ps := by
  intro ts
  induction ts with
  | nil =>
    intro vs ds ps _ h
    obtain ⟨rfl, rfl, rfl⟩ := trodAll_nil h
    exact trodAll_mk0
  | cons t ts ih =>
    intro vs ds ps ht h
    simp only [List.all_cons, Bool.and_eq_true, decide_eq_true_eq] at ht
    obtain ⟨v, vs', d, ds', p, q, rfl, rfl, rfl, h1, h2⟩ := trodAll_cons h
    exact trodAll_cons_mk (Below.trod hl ht.1.1 ht.1.2 h1 hb (lt_of_trod h1)) (ih _ _ _ ht.2 h2)
section
variable {H : Type} {enc : TypeId × Value → H} {w : World} {base : Nat} {spare : Nat → Bool} {held : Bool}
def u8s (zs : List Int) : List UInt8 := zs.map fun z => UInt8.ofNat z.toNat
theorem open_bytes {r : Reach} {b0 : Nat} {v : Value} {d : DataW H} {p : List MemPlace} (hv : Value.okWide Try.prog w r b0 22 v) (h : DataW.Trod enc Try.prog w base spare held 22 v d p) :
    ∃ (A : Option Addr) (n c : Nat) (l : List UInt8), v = .slice A n c ∧ n = l.length ∧ Rd w 1 (.slice A n c) n (bcs l) := by
  obtain ⟨A, n, c, rfl⟩ := okWide_slice Try.underlying22 hv
  obtain ⟨fuel, hf⟩ := h
  rcases open_ints Try.underlying22 Try.underlying5 (by kernel_rfl) hf with ⟨hcs, _⟩ | ⟨x, len, cap, zs, hcs, _, hl, hm, hz, _, hcell, hwz⟩
  · simp [Value.cells] at hcs
    obtain ⟨rfl, rfl, rfl⟩ := hcs
    exact ⟨_, _, _, [], rfl, rfl, rd_nil _ _⟩
  · simp [Value.cells] at hcs
    obtain ⟨rfl, rfl, rfl⟩ := hcs
    have hzl : n ≤ zs.length := by rw [hz]; split <;> omega
    refine ⟨_, _, _, u8s (zs.take n), rfl, by simp [u8s]; omega, ?_, _, _, rfl, hl, by unfold maxLen at hm; omega, ?_⟩
    · simp [bcs_length, u8s]; omega
    · intro j u hu
      refine ⟨x, rfl, ?_⟩
      simp only [bcs, u8s, List.map_map, List.getElem?_map] at hu
      have hj : j < n := by
        rcases Nat.lt_or_ge j n with h | h
        · exact h
        · rw [List.getElem?_take, if_neg (by omega)] at hu; simp at hu
      rw [List.getElem?_take, if_pos hj, List.getElem?_eq_getElem (by omega)] at hu
      simp only [Option.map_some, Option.some.injEq, Function.comp] at hu
      rw [hcell j (by omega), ← hu]
      have hw := hwz (zs[j]'(by omega)) (List.getElem_mem _)
      have hb : 0 ≤ zs[j]'(by omega) ∧ zs[j]'(by omega) ≤ 255 := by simpa [Lit.wf, IntKind.min, IntKind.max, IntKind.signed, IntKind.bits] using hw
      have e : zs.getD j 0 = zs[j]'(by omega) := by simp [List.getD, List.getElem?_eq_getElem (show j < zs.length by omega)]
      rw [e]
      congr 2
      rw [UInt8.toNat_ofNat']
      omega
end
end Go.Proofs.Ytjilkbkafigloaa.H
set_option linter.unusedVariables false
set_option linter.unusedSimpArgs false
set_option maxRecDepth 100000
namespace Go.Proofs.Ytjilkbkafigloaa.H
open Go.ChangeShapes Go.WideShapes Go.ChangeAt Go.RowKit Go.Deep Go.Joins
section
variable {H : Type} {enc : TypeId × Value → H} {w : World} {base : Nat} {spare : Nat → Bool} {held : Bool}
theorem list5 {α : Type} {cs : List α} (h : cs.length = 5) : ∃ a b c d e, cs = [a, b, c, d, e] := by
  match cs, h with
  | [a, b, c, d, e], _ => exact ⟨a, b, c, d, e, rfl⟩
/-- A deed on a disk, as its cells are. -/
structure DDeed where
  kind : Int
  i : Int
  c : UInt8
  v : Value
  l : List Int
  bad : Bool
def DDeed.cells (d : DDeed) : List Value := [.int .i64 d.kind, .int .i64 d.i, .int .u8 (d.c.toNat : Int), d.v, .bool d.bad]
structure DDeed.At (w : World) (d : DDeed) : Prop where
  rd : Rd w 1 d.v d.l.length (d.l.map encZ)
  inl : ∀ x ∈ d.l, inI x
  ini : inI d.i
theorem open_ints_d {fuel : Nat} {cs : List Value} {x : DataW H × List MemPlace} (hf : DataW.trod enc Try.prog w base spare held fuel 41 cs = some x) :
    ∃ (A : Option Addr) (n c : Nat) (l : List Int), cs = [.slice A n c] ∧ n = l.length ∧ Rd w 1 (.slice A n c) n (l.map encZ) ∧ ∀ x ∈ l, inI x := by
  rcases open_ints Try.underlying41 Try.underlying3 (by kernel_rfl) hf with ⟨hcs, _⟩ | ⟨x, n, c, zs, hcs, _, hl, hm, hz, _, hcell, hwz⟩
  · exact ⟨_, _, _, [], hcs, rfl, rd_nil _ _, fun x hx => by cases hx⟩
  · have hzl : n ≤ zs.length := by rw [hz]; split <;> omega
    refine ⟨some x, n, c, zs.take n, hcs, by simp; omega, ?_, fun y hy => hwz y (List.mem_of_mem_take hy)⟩
    refine ⟨by simp; omega, _, _, rfl, hl, by unfold maxLen at hm; omega, ?_⟩
    intro j u hu
    refine ⟨x, rfl, ?_⟩
    simp only [List.getElem?_map] at hu
    have hj : j < n := by
      rcases Nat.lt_or_ge j n with h | h
      · exact h
      · rw [List.getElem?_take, if_neg (by omega)] at hu; simp at hu
    rw [List.getElem?_take, if_pos hj, List.getElem?_eq_getElem (by omega)] at hu
    simp only [Option.map_some, Option.some.injEq] at hu
    rw [hcell j (by omega), ← hu]
    simp [List.getD, List.getElem?_eq_getElem (show j < zs.length by omega)]
theorem open_ddeed_at {fuel : Nat} {cs : List Value} {x : DataW H × List MemPlace} (hf : DataW.trod enc Try.prog w base spare held fuel 50 cs = some x) :
    ∃ d : DDeed, cs = d.cells ∧ d.At w := by
  obtain ⟨xs, n, _, rfl, hl, hlen, hf⟩ := DataW.trod_struct Try.underlying50 hf
  have hc : Try.prog.cellsOf 50 = 5 := by kernel_rfl
  have hci : Try.prog.cellsOf 3 = 1 := by kernel_rfl
  have hcu : Try.prog.cellsOf 5 = 1 := by kernel_rfl
  have hcl : Try.prog.cellsOf 41 = 1 := by kernel_rfl
  have hcb : Try.prog.cellsOf 4 = 1 := by kernel_rfl
  rw [hc] at hl
  obtain ⟨c0, c1, c2, c3, c4, rfl⟩ := list5 hl
  have g0 : DataW.trod enc Try.prog w base spare held n 3 (List.take (Try.prog.cellsOf 3) (List.drop 0 [c0, c1, c2, c3, c4])) = xs[0]? := hf 0 _ rfl
  have g1 : DataW.trod enc Try.prog w base spare held n 3 (List.take (Try.prog.cellsOf 3) (List.drop 1 [c0, c1, c2, c3, c4])) = xs[1]? := hf 1 _ rfl
  have g2 : DataW.trod enc Try.prog w base spare held n 5 (List.take (Try.prog.cellsOf 5) (List.drop 2 [c0, c1, c2, c3, c4])) = xs[2]? := hf 2 _ rfl
  have g3 : DataW.trod enc Try.prog w base spare held n 41 (List.take (Try.prog.cellsOf 41) (List.drop 3 [c0, c1, c2, c3, c4])) = xs[3]? := hf 3 _ rfl
  have g4 : DataW.trod enc Try.prog w base spare held n 4 (List.take (Try.prog.cellsOf 4) (List.drop 4 [c0, c1, c2, c3, c4])) = xs[4]? := hf 4 _ rfl
  simp only [hci, hcu, hcl, hcb] at g0 g1 g2 g3 g4
  rw [List.getElem?_eq_getElem (by rw [hlen]; decide)] at g0 g1 g2 g3 g4
  obtain ⟨a0, e0, _, w0⟩ := DataW.trod_int Try.underlying3 g0
  obtain ⟨a1, e1, _, w1⟩ := DataW.trod_int Try.underlying3 g1
  obtain ⟨a2, e2, _, w2⟩ := DataW.trod_int Try.underlying5 g2
  obtain ⟨A, n, c, l, h5, rfl, h7, h8⟩ := open_ints_d g3
  obtain ⟨b, e4, _⟩ := DataW.trod_bool Try.underlying4 g4
  simp at e0 e1 e2 h5 e4
  subst e0 e1 e2 h5 e4
  have hu : a2 = ((UInt8.ofNat a2.toNat).toNat : Int) := by
    simp [Lit.wf, IntKind.min, IntKind.max, IntKind.signed, IntKind.bits] at w2
    rw [UInt8.toNat_ofNat_of_lt' (by simp; omega)]
    omega
  refine ⟨⟨a0, a1, UInt8.ofNat a2.toNat, _, l, b⟩, ?_, h7, h8, w1⟩
  unfold DDeed.cells
  rw [← hu]
theorem open_ddeed {r : Reach} {b0 : Nat} {v : Value} {d : DataW H} {p : List MemPlace} (hv : Value.okWide Try.prog w r b0 50 v) (h : DataW.Trod enc Try.prog w base spare held 50 v d p) :
    ∃ d : DDeed, v = .agg d.cells.toArray ∧ d.At w := by
  obtain ⟨cs, rfl, hsz⟩ := okWide_struct Try.underlying50 hv
  obtain ⟨fuel, hf⟩ := h
  obtain ⟨d, h1, h2⟩ := open_ddeed_at hf
  refine ⟨d, ?_, h2⟩
  rw [← h1]
  simp [Value.cells]
end
end Go.Proofs.Ytjilkbkafigloaa.H
set_option linter.unusedVariables false
set_option linter.unusedSimpArgs false
set_option maxRecDepth 100000
namespace Go.Proofs.Ytjilkbkafigloaa.H
open Go.RowKit
abbrev Lim (n : Nat) (m : List Blk) : Prop := ∀ b ∈ m, b.vs.length ≤ n
/-- All sectors are of one byte each. -/
def Uni (m : List Blk) : Prop := ∀ b ∈ m, (∃ c, b.s = sec c) ∧ ∀ s ∈ b.vs, ∃ c, s = sec c
/-- What a deed leaves of a disk. -/
structure Gd (m m' : List Blk) : Prop where
  len : m'.length = m.length
  lim : ∀ n, Lim n m → Lim (n + 1) m'
  uni : Uni m → Uni m'
theorem Gd.refl (m : List Blk) : Gd m m := ⟨rfl, fun n h b hb => Nat.le_succ_of_le (h b hb), fun h => h⟩
theorem set_uni {m : List Blk} {i : Nat} {b' : Blk} (h : Uni m) (h1 : (∃ c, b'.s = sec c) ∧ ∀ s ∈ b'.vs, ∃ c, s = sec c) : Uni (m.set i b') := fun x hx => by
  rcases List.mem_or_eq_of_mem_set hx with hx | rfl
  · exact h x hx
  · exact h1
theorem set_lim {m : List Blk} {i n : Nat} {b' : Blk} (h : Lim n m) (h1 : b'.vs.length ≤ n) : Lim n (m.set i b') := fun x hx => by
  rcases List.mem_or_eq_of_mem_set hx with hx | rfl
  · exact h x hx
  · exact h1
theorem gd_write {m : List Blk} {i : Nat} {b : Blk} (hi : m[i]? = some b) (c : UInt8) : Gd m (m.set i (b.wr (sec c))) where
  len := List.length_set ..
  lim := fun n h => set_lim (fun x hx => Nat.le_succ_of_le (h x hx)) (by have := h b (List.mem_of_getElem? hi); simp; omega)
  uni := fun h => set_uni h ⟨(h b (List.mem_of_getElem? hi)).1, fun s hs => by
    rcases List.mem_append.1 hs with hs | hs
    · exact (h b (List.mem_of_getElem? hi)).2 s hs
    · exact ⟨c, List.mem_singleton.1 hs⟩⟩
theorem gd_spoil {m : List Blk} {i : Nat} {b : Blk} (hi : m[i]? = some b) (bad : Bool) : Gd m (m.set i ⟨b.s, b.vs, bad⟩) where
  len := List.length_set ..
  lim := fun n h => set_lim (fun x hx => Nat.le_succ_of_le (h x hx)) (Nat.le_succ_of_le (h b (List.mem_of_getElem? hi)))
  uni := fun h => set_uni h (h b (List.mem_of_getElem? hi))
theorem sett_mem (v : Int) (b : Blk) : sett v b = b.s ∨ sett v b ∈ b.vs := by
  unfold sett
  split
  · cases h : b.vs[(v - 1).toNat]? with
    | none => exact .inl rfl
    | some s => exact .inr (List.mem_of_getElem? h)
  · exact .inl rfl
theorem crashL_mem (pk : Nat → Nat → Int) : ∀ (m : List Blk) (k : Nat) (x : Blk), x ∈ crashL pk k m → ∃ b ∈ m, x = b ∨ ∃ v, x = ⟨sett v b, [], b.bad⟩
  | [], k, x, h => by simp [crashL] at h
  | b :: r, k, x, h => by
    unfold crashL at h
    split at h
    · rcases List.mem_cons.1 h with rfl | h
      · exact ⟨x, List.mem_cons_self .., .inl rfl⟩
      · obtain ⟨b', h1, h2⟩ := crashL_mem pk r k x h
        exact ⟨b', List.mem_cons_of_mem _ h1, h2⟩
    · rcases List.mem_cons.1 h with rfl | h
      · exact ⟨b, List.mem_cons_self .., .inr ⟨_, rfl⟩⟩
      · obtain ⟨b', h1, h2⟩ := crashL_mem pk r (k + 1) x h
        exact ⟨b', List.mem_cons_of_mem _ h1, h2⟩
theorem gd_crash (pk : Nat → Nat → Int) (m : List Blk) : Gd m (crashL pk 0 m) where
  len := crashL_len pk m 0
  lim := fun n h x hx => by
    obtain ⟨b, hb, rfl | ⟨v, rfl⟩⟩ := crashL_mem pk m 0 x hx
    · exact Nat.le_succ_of_le (h x hb)
    · exact Nat.zero_le _
  uni := fun h x hx => by
    obtain ⟨b, hb, rfl | ⟨v, rfl⟩⟩ := crashL_mem pk m 0 x hx
    · exact h x hb
    · refine ⟨?_, fun s hs => by simp at hs⟩
      rcases sett_mem v b with e | e
      · rw [show (⟨sett v b, [], b.bad⟩ : Blk).s = b.s from e]; exact (h b hb).1
      · exact (h b hb).2 _ e
theorem dcases (m : List Blk) (i : Int) : (∃ (k : Nat) (b : Blk), i = (k : Int) ∧ m[k]? = some b) ∨ (i < 0 ∨ (m.length : Int) ≤ i) := by
  by_cases h : 0 ≤ i ∧ i < m.length
  · exact .inl ⟨i.toNat, m[i.toNat]'(by omega), by omega, List.getElem?_eq_getElem _⟩
  · exact .inr (by omega)
/-- A call that both answer alike. -/
abbrev BothD (f g : FuncId) (m m' : List Blk) (ag : Value → Array Value) (r : Value) : Prop :=
  (∀ (w : World) (L : List HP) (d : Nat), Own w (diskP d m :: L) → Calls Try.prog f (ag (.pointer (some ⟨d, 0, none⟩))) w (Ret w r (diskP d m' :: L))) ∧
  (∀ (w : World) (L : List HP) (q : Nat), Own w (rdiskP q m :: L) → Calls Try.prog g (ag (.pointer (some ⟨q, 0, none⟩))) w (Ret w r (rdiskP q m' :: L)))
section
variable (m : List Blk)
theorem write_both (i : Int) (c : UInt8) (hl : Lim 1000000 m) : ∃ (e : Int) (m' : List Blk), BothD 19 40 m m' (fun y => #[y, .int .i64 i, secV (sec c)]) (.int .i64 e) ∧ Gd m m' := by
  rcases dcases m i with ⟨k, b, rfl, hk⟩ | h
  · cases hb : b.bad with
    | true => exact ⟨_, _, ⟨fun w L d hO => write_bad w L d m k b _ hO hk hb, fun w L q hO => rwrite_bad w L q m k b _ hO hk hb⟩, Gd.refl m⟩
    | false => exact ⟨_, _, ⟨fun w L d hO => write_ok w L d m k b _ hO hk hb (by simp) (hl b (List.mem_of_getElem? hk)), fun w L q hO => rwrite_ok w L q m k b _ hO hk hb (by simp) (hl b (List.mem_of_getElem? hk))⟩, gd_write hk c⟩
  · exact ⟨_, _, ⟨fun w L d hO => write_no w L d m i _ hO h, fun w L q hO => rwrite_no w L q m i _ hO h⟩, Gd.refl m⟩
theorem spoil_both (i : Int) (bad : Bool) : ∃ (e : Int) (m' : List Blk), BothD 23 43 m m' (fun y => #[y, .int .i64 i, .bool bad]) (.int .i64 e) ∧ Gd m m' := by
  rcases dcases m i with ⟨k, b, rfl, hk⟩ | h
  · exact ⟨_, _, ⟨fun w L d hO => spoil_ok w L d m k b bad hO hk, fun w L q hO => rspoil_ok w L q m k b bad hO hk⟩, gd_spoil hk bad⟩
  · exact ⟨_, _, ⟨fun w L d hO => spoil_no w L d m i bad hO h, fun w L q hO => rspoil_no w L q m i bad hO h⟩, Gd.refl m⟩
theorem flush_both (h0 : 0 < m.length) (hl : Lim 1000000 m) : BothD 17 41 m (crashL allV 0 m) (fun y => #[y]) (.int .i64 0) :=
  ⟨fun w L d hO => flush_c w L d m hO h0 hl, fun w L q hO => rflush_c w L q m hO⟩
end
def DoD (w : World) (L : List HP) (d q : Nat) (m : List Blk) (e : Ending) (w' : World) : Prop := ∃ m', Gd m m' ∧ Ret w (.bool true) (diskP d m' :: rdiskP q m' :: L) e w'
section
variable (w : World) (L : List HP) (d q : Nat) (m : List Blk)
set_option maxHeartbeats 1600000 in
theorem do_write (kd di : Int) (dc : UInt8) (dv : Value) (db : Bool) (hO : Own w (diskP d m :: rdiskP q m :: L)) (hl : Lim 1000000 m) (hd : kd = 0) :
    Calls Try.prog 26 #[.pointer (some ⟨d, 0, none⟩), .pointer (some ⟨q, 0, none⟩), .agg #[.int .i64 kd, .int .i64 di, .int .u8 (dc.toNat : Int), dv, .bool db]] w (DoD w L d q m) := by
  subst hd
  obtain ⟨e, m', hB, hg⟩ := write_both m di dc hl
  have HB := Lib.hid hB
  have HG := Lib.hid hg
  have hS := Same.refl w
  clear hB hg hl
  go_enter Try.func26, Try.ntmps26
  go_upto_region 3 with (first | (refine own_box_agg (x := .tmp 2) rfl rfl rfl hO ?_; clear hO; intro b u hO hSn; replace hS := hS.trans hSn; clear hSn) | (refine own_load1 (b := b) (off := 0) (cs := #[.int .i64 0, .int .i64 di, .int .u8 (dc.toNat : Int), dv, .bool db]) (t := 50) (v := .int .i64 0) rfl rfl rfl row_int (own_get 0 hO rfl) rfl ?_))
  refine wp_region_own (α := Nat → Value) (fun x => [.pointer (some ⟨d, 0, none⟩), .pointer (some ⟨b, 1, none⟩), .int .i64 di, .pointer (some ⟨b, 2, none⟩), .int .u8 (dc.toNat : Int), secV (sec dc), .int .i64 e, .pointer (some ⟨q, 0, none⟩), .pointer (some ⟨b, 1, none⟩), .int .i64 di, .pointer (some ⟨b, 2, none⟩), .int .u8 (dc.toNat : Int), secV (sec dc), .int .i64 e, .bool true, .bool true]) (fun D x => diskP d (if D 6 then m' else m) :: rdiskP q (if D 13 then m' else m) :: pts b (.cells #[.int .i64 0, .int .i64 di, .int .u8 (dc.toNat : Int), dv, .bool db] 50) :: L) u (fun _ => undef) 59 (fun _ => rfl) mixed (by kernel_rfl) rfl (by exact own_heap (own_perm hO (List.Perm.trans (List.Perm.swap _ _ _) (List.Perm.cons _ (List.Perm.swap _ _ _)))) (fun _ _ h => h)) (Same.drew _) (fun _ _ _ _ hd h => ⟨hd ▸ h.1, h.2⟩) ?_ ?_
  · refine ⟨?_, ?_, ?_, ?_, ?_, ?_, ?_, ?_, ?_, ?_, ?_, ?_, ?_, ?_, ?_, ?_, trivial⟩
    · (refine fs_pure (fun _ _ => rfl) (fun D x hD hcl hp => ?_); simp only [putO]; simp only [Act.put, List.setIfInBounds_toArray, List.set_cons_zero, List.set_cons_succ]; first | exact y_skip rfl | exact y_run rfl (by intro w h; go_simp; first | done | rfl))
    · (refine fs_pure (fun _ _ => rfl) (fun D x hD hcl hp => ?_); simp only [putO]; simp only [Act.put, List.setIfInBounds_toArray, List.set_cons_zero, List.set_cons_succ]; first | exact y_skip rfl | exact y_run rfl (by intro w h; go_simp; first | done | rfl))
    · (refine fs_pure (fun _ _ => rfl) (fun D x hD hcl hp => ?_); simp only [putO]; simp only [Act.put, List.setIfInBounds_toArray, List.set_cons_zero, List.set_cons_succ]; first | exact y_skip rfl | exact (y_load1 (b := b) (off := 1) (cs := #[.int .i64 0, .int .i64 di, .int .u8 (dc.toNat : Int), dv, .bool db]) (t := 50) (v := .int .i64 di) rfl rfl rfl row_int (fun w h => own_get 2 h.1 rfl) rfl) | exact y_run rfl (by intro w h; go_simp; first | done | rfl))
    · (refine fs_pure (fun _ _ => rfl) (fun D x hD hcl hp => ?_); simp only [putO]; simp only [Act.put, List.setIfInBounds_toArray, List.set_cons_zero, List.set_cons_succ]; first | exact y_skip rfl | exact y_run rfl (by intro w h; go_simp; first | done | rfl))
    · (refine fs_pure (fun _ _ => rfl) (fun D x hD hcl hp => ?_); simp only [putO]; simp only [Act.put, List.setIfInBounds_toArray, List.set_cons_zero, List.set_cons_succ]; first | exact y_skip rfl | exact (y_load1 (b := b) (off := 2) (cs := #[.int .i64 0, .int .i64 di, .int .u8 (dc.toNat : Int), dv, .bool db]) (t := 50) (v := .int .u8 (dc.toNat : Int)) rfl rfl rfl row_u8D (fun w h => own_get 2 h.1 rfl) rfl) | exact y_run rfl (by intro w h; go_simp; first | done | rfl))
    · (refine fs_pure (fun _ _ => rfl) (fun D x hD hcl hp => ?_); simp only [putO]; simp only [Act.put, List.setIfInBounds_toArray, List.set_cons_zero, List.set_cons_succ]; first | exact y_skip rfl | exact (y_call rfl (by intro w h; go_simp; first | done | exact ⟨rfl, rfl⟩) (by intro w h; apply cls_call h; exact sector_c _ _ dc h.1)) | exact y_run rfl (by intro w h; go_simp; first | done | rfl))
    · intro D x w5 hD hcl hp hO5 hS5
      simp only [putO]
      simp only [Act.put, List.setIfInBounds_toArray, List.set_cons_zero, List.set_cons_succ]
      refine ev_call rfl (by go_simp; first | done | exact ⟨rfl, rfl⟩) ?_
      simp only [hD, Bool.false_eq_true, if_false] at hO5
      refine Calls.mono (HB.out.1 _ _ d hO5) ?_
      rintro e2 w6 ⟨rfl, hO6, hS6⟩
      exact ⟨_, rfl, wpList_nil ⟨rfl, x, (by intros; first | trivial | rfl), fun d hd _ => by cases hd; rfl, hO6, hS5.trans hS6⟩⟩
    · (refine fs_pure (fun _ _ => rfl) (fun D x hD hcl hp => ?_); simp only [putO]; simp only [Act.put, List.setIfInBounds_toArray, List.set_cons_zero, List.set_cons_succ]; first | exact y_skip rfl | exact y_run rfl (by intro w h; go_simp; first | done | rfl))
    · (refine fs_pure (fun _ _ => rfl) (fun D x hD hcl hp => ?_); simp only [putO]; simp only [Act.put, List.setIfInBounds_toArray, List.set_cons_zero, List.set_cons_succ]; first | exact y_skip rfl | exact y_run rfl (by intro w h; go_simp; first | done | rfl))
    · (refine fs_pure (fun _ _ => rfl) (fun D x hD hcl hp => ?_); simp only [putO]; simp only [Act.put, List.setIfInBounds_toArray, List.set_cons_zero, List.set_cons_succ]; first | exact y_skip rfl | exact (y_load1 (b := b) (off := 1) (cs := #[.int .i64 0, .int .i64 di, .int .u8 (dc.toNat : Int), dv, .bool db]) (t := 50) (v := .int .i64 di) rfl rfl rfl row_int (fun w h => own_get 2 h.1 rfl) rfl) | exact y_run rfl (by intro w h; go_simp; first | done | rfl))
    · (refine fs_pure (fun _ _ => rfl) (fun D x hD hcl hp => ?_); simp only [putO]; simp only [Act.put, List.setIfInBounds_toArray, List.set_cons_zero, List.set_cons_succ]; first | exact y_skip rfl | exact y_run rfl (by intro w h; go_simp; first | done | rfl))
    · (refine fs_pure (fun _ _ => rfl) (fun D x hD hcl hp => ?_); simp only [putO]; simp only [Act.put, List.setIfInBounds_toArray, List.set_cons_zero, List.set_cons_succ]; first | exact y_skip rfl | exact (y_load1 (b := b) (off := 2) (cs := #[.int .i64 0, .int .i64 di, .int .u8 (dc.toNat : Int), dv, .bool db]) (t := 50) (v := .int .u8 (dc.toNat : Int)) rfl rfl rfl row_u8D (fun w h => own_get 2 h.1 rfl) rfl) | exact y_run rfl (by intro w h; go_simp; first | done | rfl))
    · (refine fs_pure (fun _ _ => rfl) (fun D x hD hcl hp => ?_); simp only [putO]; simp only [Act.put, List.setIfInBounds_toArray, List.set_cons_zero, List.set_cons_succ]; first | exact y_skip rfl | exact (y_call rfl (by intro w h; go_simp; first | done | exact ⟨rfl, rfl⟩) (by intro w h; apply cls_call h; exact sector_c _ _ dc h.1)) | exact y_run rfl (by intro w h; go_simp; first | done | rfl))
    · intro D x w5 hD hcl hp hO5 hS5
      simp only [putO]
      simp only [Act.put, List.setIfInBounds_toArray, List.set_cons_zero, List.set_cons_succ]
      refine ev_call rfl (by go_simp; first | done | exact ⟨rfl, rfl⟩) ?_
      simp only [hD, Bool.false_eq_true, if_false] at hO5
      refine Calls.mono (HB.out.2 _ _ q (own_perm hO5 (List.Perm.swap _ _ _))) ?_
      rintro e2 w6 ⟨rfl, hO6, hS6⟩
      exact ⟨_, rfl, wpList_nil ⟨rfl, x, (by intros; first | trivial | rfl), fun d hd _ => by cases hd; rfl, own_perm hO6 (List.Perm.swap _ _ _), hS5.trans hS6⟩⟩
    · (refine fs_pure (fun _ _ => rfl) (fun D x hD hcl hp => ?_); simp only [putO]; simp only [Act.put, List.setIfInBounds_toArray, List.set_cons_zero, List.set_cons_succ]; first | exact y_skip rfl | exact y_run rfl (by intro w h; go_simp; first | done | rfl))
    · (refine fs_pure (fun _ _ => rfl) (fun D x hD hcl hp => ?_); simp only [putO]; simp only [Act.put, List.setIfInBounds_toArray, List.set_cons_zero, List.set_cons_succ]; first | exact y_skip rfl | exact y_run rfl (by intro w h; go_simp; first | done | rfl))
  · intro x w10 D hD hO hS10
    simp only [hD 6 (by decide), hD 13 (by decide), if_true] at hO
    simp only [putO]
    simp only [Act.put, List.setIfInBounds_toArray, List.set_cons_zero, List.set_cons_succ]
    simp only [Exit.then]
    clear hD
    go_wp2
    go_ret
    exact ⟨m', HG.out, rfl, own_drop (own_perm hO (List.Perm.trans (List.Perm.cons _ (List.Perm.swap _ _ _)) (List.Perm.swap _ _ _))), hS.trans hS10⟩
set_option maxHeartbeats 1600000 in
theorem do_flush (kd di : Int) (dc : UInt8) (dv : Value) (db : Bool) (hO : Own w (diskP d m :: rdiskP q m :: L)) (h0 : 0 < m.length) (hl : Lim 1000000 m) (hd : kd = 1) :
    Calls Try.prog 26 #[.pointer (some ⟨d, 0, none⟩), .pointer (some ⟨q, 0, none⟩), .agg #[.int .i64 kd, .int .i64 di, .int .u8 (dc.toNat : Int), dv, .bool db]] w (DoD w L d q m) := by
  subst hd
  have HB := Lib.hid (flush_both m h0 hl)
  have hS := Same.refl w
  clear hl h0
  go_enter Try.func26, Try.ntmps26
  go_wp2_with (first | (refine own_box_agg (x := .tmp 2) rfl rfl rfl hO ?_; clear hO; intro b u hO hSn; replace hS := hS.trans hSn; clear hSn) | (refine own_load1 (b := b) (off := 0) (cs := #[.int .i64 1, .int .i64 di, .int .u8 (dc.toNat : Int), dv, .bool db]) (t := 50) (v := .int .i64 1) rfl rfl rfl row_int (own_get 0 hO rfl) rfl ?_) | (go_at_call 17; (with_reducible refine Calls.mono (call_at 1 (fun L' h => HB.out.1 _ L' d h) rfl hO) ?_); clear hO; rintro e u ⟨rfl, hO, hSn⟩; replace hS := hS.trans hSn; clear hSn; simp only [List.set_cons_zero, List.set_cons_succ] at hO) | (go_at_call 41; (with_reducible refine Calls.mono (call_at 2 (fun L' h => HB.out.2 _ L' q h) rfl hO) ?_); clear hO; rintro e u ⟨rfl, hO, hSn⟩; replace hS := hS.trans hSn; clear hSn; simp only [List.set_cons_zero, List.set_cons_succ] at hO))
  go_ret
  exact ⟨_, gd_crash allV m, rfl, own_drop hO, hS⟩
set_option maxHeartbeats 1600000 in
theorem do_crash (kd di : Int) (dc : UInt8) (dv : Value) (db : Bool) (pl : List Int) (hO : Own w (diskP d m :: rdiskP q m :: L)) (h0 : 0 < m.length) (hl : Lim 1000000 m) (hd : kd = 2) (hr : ∀ w', Own w' L → Rd w' 1 dv pl.length (pl.map encZ)) (hi : ∀ x ∈ pl, inI x) :
    Calls Try.prog 26 #[.pointer (some ⟨d, 0, none⟩), .pointer (some ⟨q, 0, none⟩), .agg #[.int .i64 kd, .int .i64 di, .int .u8 (dc.toNat : Int), dv, .bool db]] w (DoD w L d q m) := by
  subst hd
  obtain ⟨m', hm'⟩ : ∃ m', m' = crashL (pickV pl) 0 m := ⟨_, rfl⟩
  have HR := Lib.hid hr
  have HC1 : Hid (∀ (w : World) (L' : List HP), Own w (diskP d m :: L') → (∀ w', Own w' L' → Own w' L) → Calls Try.prog 20 #[.pointer (some ⟨d, 0, none⟩), dv] w (Ret w (.int .i64 0) (diskP d m' :: L'))) := Lib.hid fun w L' h hs => by rw [hm']; exact crash_c w L' d m dv pl h h0 hl (fun w' h' => hr w' (hs w' h'))
  have HC2 : Hid (∀ (w : World) (L' : List HP), Own w (rdiskP q m :: L') → (∀ w', Own w' L' → Own w' L) → Calls Try.prog 42 #[.pointer (some ⟨q, 0, none⟩), dv] w (Ret w (.int .i64 0) (rdiskP q m' :: L'))) := Lib.hid fun w L' h hs => by rw [hm']; exact rcrash_c w L' q m dv pl h (fun w' h' => hr w' (hs w' h')) hi
  have HG : Hid (Gd m m') := by show Gd _ _; rw [hm']; exact gd_crash _ m
  have hS := Same.refl w
  clear hl h0 hm' hr hi
  go_enter Try.func26, Try.ntmps26
  go_upto_region 7 with (first | (refine own_box_agg (x := .tmp 2) rfl rfl rfl hO ?_; clear hO; intro b u hO hSn; replace hS := hS.trans hSn; clear hSn) | (refine own_load1 (b := b) (off := 0) (cs := #[.int .i64 2, .int .i64 di, .int .u8 (dc.toNat : Int), dv, .bool db]) (t := 50) (v := .int .i64 2) rfl rfl rfl row_int (own_get 0 hO rfl) rfl ?_))
  refine wp_region_own (α := Nat → Value) (fun x => [.pointer (some ⟨d, 0, none⟩), .pointer (some ⟨b, 3, none⟩), dv, .int .i64 0, .pointer (some ⟨q, 0, none⟩), .pointer (some ⟨b, 3, none⟩), dv, .int .i64 0, .bool true, .bool true]) (fun D x => diskP d (if D 3 then m' else m) :: rdiskP q (if D 7 then m' else m) :: pts b (.cells #[.int .i64 2, .int .i64 di, .int .u8 (dc.toNat : Int), dv, .bool db] 50) :: L) u (fun _ => undef) 59 (fun _ => rfl) mixed (by kernel_rfl) rfl (by exact own_heap (own_perm hO (List.Perm.trans (List.Perm.swap _ _ _) (List.Perm.cons _ (List.Perm.swap _ _ _)))) (fun _ _ h => h)) (Same.drew _) (fun _ _ _ _ hd h => ⟨hd ▸ h.1, h.2⟩) ?_ ?_
  · refine ⟨?_, ?_, ?_, ?_, ?_, ?_, ?_, ?_, ?_, ?_, trivial⟩
    · (refine fs_pure (fun _ _ => rfl) (fun D x hD hcl hp => ?_); simp only [putO]; simp only [Act.put, List.setIfInBounds_toArray, List.set_cons_zero, List.set_cons_succ]; first | exact y_skip rfl | exact y_run rfl (by intro w h; go_simp; first | done | rfl))
    · (refine fs_pure (fun _ _ => rfl) (fun D x hD hcl hp => ?_); simp only [putO]; simp only [Act.put, List.setIfInBounds_toArray, List.set_cons_zero, List.set_cons_succ]; first | exact y_skip rfl | exact y_run rfl (by intro w h; go_simp; first | done | rfl))
    · (refine fs_pure (fun _ _ => rfl) (fun D x hD hcl hp => ?_); simp only [putO]; simp only [Act.put, List.setIfInBounds_toArray, List.set_cons_zero, List.set_cons_succ]; first | exact y_skip rfl | exact (y_load1 (b := b) (off := 3) (cs := #[.int .i64 2, .int .i64 di, .int .u8 (dc.toNat : Int), dv, .bool db]) (t := 50) (v := dv) rfl rfl rfl row_intsD (fun w h => own_get 2 h.1 rfl) rfl) | exact y_run rfl (by intro w h; go_simp; first | done | rfl))
    · intro D x w5 hD hcl hp hO5 hS5
      simp only [putO]
      simp only [Act.put, List.setIfInBounds_toArray, List.set_cons_zero, List.set_cons_succ]
      refine ev_call rfl (by go_simp; first | done | exact ⟨rfl, rfl⟩) ?_
      simp only [hD, Bool.false_eq_true, if_false] at hO5
      refine Calls.mono (HC1.out _ _ hO5 (fun w' h => own_drop (own_drop h))) ?_
      rintro e2 w6 ⟨rfl, hO6, hS6⟩
      exact ⟨_, rfl, wpList_nil ⟨rfl, x, (by intros; first | trivial | rfl), fun d hd _ => by cases hd; rfl, hO6, hS5.trans hS6⟩⟩
    · (refine fs_pure (fun _ _ => rfl) (fun D x hD hcl hp => ?_); simp only [putO]; simp only [Act.put, List.setIfInBounds_toArray, List.set_cons_zero, List.set_cons_succ]; first | exact y_skip rfl | exact y_run rfl (by intro w h; go_simp; first | done | rfl))
    · (refine fs_pure (fun _ _ => rfl) (fun D x hD hcl hp => ?_); simp only [putO]; simp only [Act.put, List.setIfInBounds_toArray, List.set_cons_zero, List.set_cons_succ]; first | exact y_skip rfl | exact y_run rfl (by intro w h; go_simp; first | done | rfl))
    · (refine fs_pure (fun _ _ => rfl) (fun D x hD hcl hp => ?_); simp only [putO]; simp only [Act.put, List.setIfInBounds_toArray, List.set_cons_zero, List.set_cons_succ]; first | exact y_skip rfl | exact (y_load1 (b := b) (off := 3) (cs := #[.int .i64 2, .int .i64 di, .int .u8 (dc.toNat : Int), dv, .bool db]) (t := 50) (v := dv) rfl rfl rfl row_intsD (fun w h => own_get 2 h.1 rfl) rfl) | exact y_run rfl (by intro w h; go_simp; first | done | rfl))
    · intro D x w5 hD hcl hp hO5 hS5
      simp only [putO]
      simp only [Act.put, List.setIfInBounds_toArray, List.set_cons_zero, List.set_cons_succ]
      refine ev_call rfl (by go_simp; first | done | exact ⟨rfl, rfl⟩) ?_
      simp only [hD, Bool.false_eq_true, if_false] at hO5
      refine Calls.mono (HC2.out _ _ (own_perm hO5 (List.Perm.swap _ _ _)) (fun w' h => own_drop (own_drop h))) ?_
      rintro e2 w6 ⟨rfl, hO6, hS6⟩
      exact ⟨_, rfl, wpList_nil ⟨rfl, x, (by intros; first | trivial | rfl), fun d hd _ => by cases hd; rfl, own_perm hO6 (List.Perm.swap _ _ _), hS5.trans hS6⟩⟩
    · (refine fs_pure (fun _ _ => rfl) (fun D x hD hcl hp => ?_); simp only [putO]; simp only [Act.put, List.setIfInBounds_toArray, List.set_cons_zero, List.set_cons_succ]; first | exact y_skip rfl | exact y_run rfl (by intro w h; go_simp; first | done | rfl))
    · (refine fs_pure (fun _ _ => rfl) (fun D x hD hcl hp => ?_); simp only [putO]; simp only [Act.put, List.setIfInBounds_toArray, List.set_cons_zero, List.set_cons_succ]; first | exact y_skip rfl | exact y_run rfl (by intro w h; go_simp; first | done | rfl))
  · intro x w10 D hD hO hS10
    simp only [hD 3 (by decide), hD 7 (by decide), if_true] at hO
    simp only [putO]
    simp only [Act.put, List.setIfInBounds_toArray, List.set_cons_zero, List.set_cons_succ]
    simp only [Exit.then]
    clear hD
    go_wp2
    go_ret
    exact ⟨m', HG.out, rfl, own_drop (own_perm hO (List.Perm.trans (List.Perm.cons _ (List.Perm.swap _ _ _)) (List.Perm.swap _ _ _))), hS.trans hS10⟩
set_option maxHeartbeats 1600000 in
theorem do_spoil (kd di : Int) (dc : UInt8) (dv : Value) (db : Bool) (hO : Own w (diskP d m :: rdiskP q m :: L)) (hd : kd = 3) :
    Calls Try.prog 26 #[.pointer (some ⟨d, 0, none⟩), .pointer (some ⟨q, 0, none⟩), .agg #[.int .i64 kd, .int .i64 di, .int .u8 (dc.toNat : Int), dv, .bool db]] w (DoD w L d q m) := by
  subst hd
  obtain ⟨e, m', hB, hg⟩ := spoil_both m di db
  have HB := Lib.hid hB
  have HG := Lib.hid hg
  have hS := Same.refl w
  clear hB hg
  go_enter Try.func26, Try.ntmps26
  go_upto_region 9 with (first | (refine own_box_agg (x := .tmp 2) rfl rfl rfl hO ?_; clear hO; intro b u hO hSn; replace hS := hS.trans hSn; clear hSn) | (refine own_load1 (b := b) (off := 0) (cs := #[.int .i64 3, .int .i64 di, .int .u8 (dc.toNat : Int), dv, .bool db]) (t := 50) (v := .int .i64 3) rfl rfl rfl row_int (own_get 0 hO rfl) rfl ?_))
  refine wp_region_own (α := Nat → Value) (fun x => [.pointer (some ⟨d, 0, none⟩), .pointer (some ⟨b, 1, none⟩), .int .i64 di, .pointer (some ⟨b, 4, none⟩), .bool db, .int .i64 e, .pointer (some ⟨q, 0, none⟩), .pointer (some ⟨b, 1, none⟩), .int .i64 di, .pointer (some ⟨b, 4, none⟩), .bool db, .int .i64 e, .bool true, .bool true]) (fun D x => diskP d (if D 5 then m' else m) :: rdiskP q (if D 11 then m' else m) :: pts b (.cells #[.int .i64 3, .int .i64 di, .int .u8 (dc.toNat : Int), dv, .bool db] 50) :: L) u (fun _ => undef) 59 (fun _ => rfl) mixed (by kernel_rfl) rfl (by exact own_heap (own_perm hO (List.Perm.trans (List.Perm.swap _ _ _) (List.Perm.cons _ (List.Perm.swap _ _ _)))) (fun _ _ h => h)) (Same.drew _) (fun _ _ _ _ hd h => ⟨hd ▸ h.1, h.2⟩) ?_ ?_
  · refine ⟨?_, ?_, ?_, ?_, ?_, ?_, ?_, ?_, ?_, ?_, ?_, ?_, ?_, ?_, trivial⟩
    · (refine fs_pure (fun _ _ => rfl) (fun D x hD hcl hp => ?_); simp only [putO]; simp only [Act.put, List.setIfInBounds_toArray, List.set_cons_zero, List.set_cons_succ]; first | exact y_skip rfl | exact y_run rfl (by intro w h; go_simp; first | done | rfl))
    · (refine fs_pure (fun _ _ => rfl) (fun D x hD hcl hp => ?_); simp only [putO]; simp only [Act.put, List.setIfInBounds_toArray, List.set_cons_zero, List.set_cons_succ]; first | exact y_skip rfl | exact y_run rfl (by intro w h; go_simp; first | done | rfl))
    · (refine fs_pure (fun _ _ => rfl) (fun D x hD hcl hp => ?_); simp only [putO]; simp only [Act.put, List.setIfInBounds_toArray, List.set_cons_zero, List.set_cons_succ]; first | exact y_skip rfl | exact (y_load1 (b := b) (off := 1) (cs := #[.int .i64 3, .int .i64 di, .int .u8 (dc.toNat : Int), dv, .bool db]) (t := 50) (v := .int .i64 di) rfl rfl rfl row_int (fun w h => own_get 2 h.1 rfl) rfl) | exact y_run rfl (by intro w h; go_simp; first | done | rfl))
    · (refine fs_pure (fun _ _ => rfl) (fun D x hD hcl hp => ?_); simp only [putO]; simp only [Act.put, List.setIfInBounds_toArray, List.set_cons_zero, List.set_cons_succ]; first | exact y_skip rfl | exact y_run rfl (by intro w h; go_simp; first | done | rfl))
    · (refine fs_pure (fun _ _ => rfl) (fun D x hD hcl hp => ?_); simp only [putO]; simp only [Act.put, List.setIfInBounds_toArray, List.set_cons_zero, List.set_cons_succ]; first | exact y_skip rfl | exact (y_load1 (b := b) (off := 4) (cs := #[.int .i64 3, .int .i64 di, .int .u8 (dc.toNat : Int), dv, .bool db]) (t := 50) (v := .bool db) rfl rfl rfl row_boolD (fun w h => own_get 2 h.1 rfl) rfl) | exact y_run rfl (by intro w h; go_simp; first | done | rfl))
    · intro D x w5 hD hcl hp hO5 hS5
      simp only [putO]
      simp only [Act.put, List.setIfInBounds_toArray, List.set_cons_zero, List.set_cons_succ]
      refine ev_call rfl (by go_simp; first | done | exact ⟨rfl, rfl⟩) ?_
      simp only [hD, Bool.false_eq_true, if_false] at hO5
      refine Calls.mono (HB.out.1 _ _ d hO5) ?_
      rintro e2 w6 ⟨rfl, hO6, hS6⟩
      exact ⟨_, rfl, wpList_nil ⟨rfl, x, (by intros; first | trivial | rfl), fun d hd _ => by cases hd; rfl, hO6, hS5.trans hS6⟩⟩
    · (refine fs_pure (fun _ _ => rfl) (fun D x hD hcl hp => ?_); simp only [putO]; simp only [Act.put, List.setIfInBounds_toArray, List.set_cons_zero, List.set_cons_succ]; first | exact y_skip rfl | exact y_run rfl (by intro w h; go_simp; first | done | rfl))
    · (refine fs_pure (fun _ _ => rfl) (fun D x hD hcl hp => ?_); simp only [putO]; simp only [Act.put, List.setIfInBounds_toArray, List.set_cons_zero, List.set_cons_succ]; first | exact y_skip rfl | exact y_run rfl (by intro w h; go_simp; first | done | rfl))
    · (refine fs_pure (fun _ _ => rfl) (fun D x hD hcl hp => ?_); simp only [putO]; simp only [Act.put, List.setIfInBounds_toArray, List.set_cons_zero, List.set_cons_succ]; first | exact y_skip rfl | exact (y_load1 (b := b) (off := 1) (cs := #[.int .i64 3, .int .i64 di, .int .u8 (dc.toNat : Int), dv, .bool db]) (t := 50) (v := .int .i64 di) rfl rfl rfl row_int (fun w h => own_get 2 h.1 rfl) rfl) | exact y_run rfl (by intro w h; go_simp; first | done | rfl))
    · (refine fs_pure (fun _ _ => rfl) (fun D x hD hcl hp => ?_); simp only [putO]; simp only [Act.put, List.setIfInBounds_toArray, List.set_cons_zero, List.set_cons_succ]; first | exact y_skip rfl | exact y_run rfl (by intro w h; go_simp; first | done | rfl))
    · (refine fs_pure (fun _ _ => rfl) (fun D x hD hcl hp => ?_); simp only [putO]; simp only [Act.put, List.setIfInBounds_toArray, List.set_cons_zero, List.set_cons_succ]; first | exact y_skip rfl | exact (y_load1 (b := b) (off := 4) (cs := #[.int .i64 3, .int .i64 di, .int .u8 (dc.toNat : Int), dv, .bool db]) (t := 50) (v := .bool db) rfl rfl rfl row_boolD (fun w h => own_get 2 h.1 rfl) rfl) | exact y_run rfl (by intro w h; go_simp; first | done | rfl))
    · intro D x w5 hD hcl hp hO5 hS5
      simp only [putO]
      simp only [Act.put, List.setIfInBounds_toArray, List.set_cons_zero, List.set_cons_succ]
      refine ev_call rfl (by go_simp; first | done | exact ⟨rfl, rfl⟩) ?_
      simp only [hD, Bool.false_eq_true, if_false] at hO5
      refine Calls.mono (HB.out.2 _ _ q (own_perm hO5 (List.Perm.swap _ _ _))) ?_
      rintro e2 w6 ⟨rfl, hO6, hS6⟩
      exact ⟨_, rfl, wpList_nil ⟨rfl, x, (by intros; first | trivial | rfl), fun d hd _ => by cases hd; rfl, own_perm hO6 (List.Perm.swap _ _ _), hS5.trans hS6⟩⟩
    · (refine fs_pure (fun _ _ => rfl) (fun D x hD hcl hp => ?_); simp only [putO]; simp only [Act.put, List.setIfInBounds_toArray, List.set_cons_zero, List.set_cons_succ]; first | exact y_skip rfl | exact y_run rfl (by intro w h; go_simp; first | done | rfl))
    · (refine fs_pure (fun _ _ => rfl) (fun D x hD hcl hp => ?_); simp only [putO]; simp only [Act.put, List.setIfInBounds_toArray, List.set_cons_zero, List.set_cons_succ]; first | exact y_skip rfl | exact y_run rfl (by intro w h; go_simp; first | done | rfl))
  · intro x w10 D hD hO hS10
    simp only [hD 5 (by decide), hD 11 (by decide), if_true] at hO
    simp only [putO]
    simp only [Act.put, List.setIfInBounds_toArray, List.set_cons_zero, List.set_cons_succ]
    simp only [Exit.then]
    clear hD
    go_wp2
    go_ret
    exact ⟨m', HG.out, rfl, own_drop (own_perm hO (List.Perm.trans (List.Perm.cons _ (List.Perm.swap _ _ _)) (List.Perm.swap _ _ _))), hS.trans hS10⟩
theorem do_idle (kd di : Int) (dc : UInt8) (dv : Value) (db : Bool) (hO : Own w (diskP d m :: rdiskP q m :: L)) (h0 : kd ≠ 0) (h1 : kd ≠ 1) (h2 : kd ≠ 2) (h3 : kd ≠ 3) :
    Calls Try.prog 26 #[.pointer (some ⟨d, 0, none⟩), .pointer (some ⟨q, 0, none⟩), .agg #[.int .i64 kd, .int .i64 di, .int .u8 (dc.toNat : Int), dv, .bool db]] w (DoD w L d q m) := by
  have g0 : (kd == 0) = false := by simpa using h0
  have g1 : (kd == 1) = false := by simpa using h1
  have g2 : (kd == 2) = false := by simpa using h2
  have g3 : (kd == 3) = false := by simpa using h3
  have hS := Same.refl w
  clear h0 h1 h2 h3
  go_enter Try.func26, Try.ntmps26
  go_wp2_with (first | (refine own_box_agg (x := .tmp 2) rfl rfl rfl hO ?_; clear hO; intro b u hO hSn; replace hS := hS.trans hSn; clear hSn) | (refine own_load1 (b := b) (off := 0) (cs := #[.int .i64 kd, .int .i64 di, .int .u8 (dc.toNat : Int), dv, .bool db]) (t := 50) (v := .int .i64 kd) rfl rfl rfl row_int (own_get 0 hO rfl) rfl ?_))
  go_ret
  exact ⟨m, Gd.refl m, rfl, own_drop hO, hS⟩
theorem do_d (x : DDeed) (hO : Own w (diskP d m :: rdiskP q m :: L)) (h0 : 0 < m.length) (hl : Lim 1000000 m) (hx : ∀ w', Own w' L → x.At w') :
    Calls Try.prog 26 #[.pointer (some ⟨d, 0, none⟩), .pointer (some ⟨q, 0, none⟩), .agg x.cells.toArray] w (DoD w L d q m) := by
  obtain ⟨kd, di, dc, dv, pl, db⟩ := x
  have hd := hx w (own_drop (own_drop hO))
  by_cases g0 : kd = 0
  · exact do_write w L d q m kd di dc dv db hO hl g0
  by_cases g1 : kd = 1
  · exact do_flush w L d q m kd di dc dv db hO h0 hl g1
  by_cases g2 : kd = 2
  · exact do_crash w L d q m kd di dc dv db pl hO h0 hl g2 (fun w' h => (hx w' h).rd) hd.inl
  by_cases g3 : kd = 3
  · exact do_spoil w L d q m kd di dc dv db hO g3
  exact do_idle w L d q m kd di dc dv db hO g0 g1 g2 g3
end
end Go.Proofs.Ytjilkbkafigloaa.H
