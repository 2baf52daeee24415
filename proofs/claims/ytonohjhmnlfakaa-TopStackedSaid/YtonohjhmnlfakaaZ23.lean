/- Flush of the program's engine. Items in memory; Add's closures, ContainsFunc by them. -/
import Derived.Test.YtonohjhmnlfakaaZ21
import Derived.Test.YtonohjhmnlfakaaZ22
set_option linter.unusedVariables false
set_option linter.unusedSimpArgs false
set_option maxRecDepth 100000
namespace Go.Proofs.Ytonohjhmnlfakaa.H
open Go.RowKit
theorem sz_mint : (Try.prog.info? 64).map (·.size) = some 1 := by kernel_rfl
theorem sz_ents : (Try.prog.info? 65).map (·.size) = some 1 := by kernel_rfl
theorem born_inj {es : Array MapEntry} {clock : Nat} {f : List (Int × Value)} (hM : MapOk es clock f) {x y : MapEntry} (hx : x ∈ es.toList) (hy : y ∈ es.toList) (e : x.born = y.born) : x = y := by
  obtain ⟨t1, ht1⟩ := List.getElem?_of_mem hx
  obtain ⟨t2, ht2⟩ := List.getElem?_of_mem hy
  have hn := hM.nodup
  have e1 : (es.toList.map (·.born))[t1]? = some y.born := by rw [List.getElem?_map, ht1]; simp [e]
  have e2 : (es.toList.map (·.born))[t2]? = some y.born := by rw [List.getElem?_map, ht2]; rfl
  obtain ⟨l1, g1⟩ := List.getElem?_eq_some_iff.1 e1
  obtain ⟨l2, g2⟩ := List.getElem?_eq_some_iff.1 e2
  have ht : t1 = t2 := by
    rcases Nat.lt_trichotomy t1 t2 with hh | hh | hh
    · exact absurd (g1.trans g2.symm) (List.pairwise_iff_getElem.1 hn t1 t2 l1 l2 hh)
    · exact hh
    · exact absurd (g2.trans g1.symm) (List.pairwise_iff_getElem.1 hn t2 t1 l2 l1 hh)
  subst ht
  rw [ht1] at ht2
  simpa using ht2
/-- An entry of the map of what stood in the last Writes. -/
theorem entry_set {n : Nat} {s : Nat → List Int} {es : Array MapEntry} {clock : Nat} {fs : List (Int × Value)} {g : List RdI} (hM : MapOk es clock fs) (hk : SOk n s fs g) {x : MapEntry} (hx : x ∈ es.toList) : ∃ (i : Nat) (A : Option Addr) (c : Nat), i < n ∧ x.key = .int .i64 (i : Int) ∧ x.val = .slice A (s i).length c ∧ (⟨1, .slice A (s i).length c, (s i).length, zs (s i)⟩ : RdI) ∈ g := by
  obtain ⟨j, hj⟩ := List.getElem?_of_mem hx
  obtain ⟨k, e1, e2⟩ := hM.at_ hj
  obtain ⟨i, g1, g2⟩ := hk.key _ (List.mem_of_getElem? e2)
  have g2 : k = (i : Int) := g2
  subst g2
  obtain ⟨A, c, h1, h2⟩ := hk.val i g1
  rw [mget_at hM.nod e2] at h1
  exact ⟨i, A, c, g1, e1, h1, h2⟩
def keyN (y : MapEntry) : Nat := match y.key with | .int _ k => k.toNat | _ => 0
/-- Is it in a set of an entry that was met? -/
def goneB (es : Array MapEntry) (seen : Array Nat) (s : Nat → List Int) (x : Int) : Bool := es.toList.any fun y => seen.contains y.born && (s (keyN y)).contains x
theorem gone_none (es : Array MapEntry) (s : Nat → List Int) (x : Int) : goneB es #[] s x = false := by
  unfold goneB
  rw [List.any_eq_false]
  intro y _
  simp
theorem gone_push {es : Array MapEntry} {clock : Nat} {fs : List (Int × Value)} (hM : MapOk es clock fs) (seen : Array Nat) (s : Nat → List Int) (x : Int) {e : MapEntry} (he : e ∈ es.toList) : goneB es (seen.push e.born) s x = (goneB es seen s x || (s (keyN e)).contains x) := by
  rw [Bool.eq_iff_iff]
  unfold goneB
  rw [Bool.or_eq_true, List.any_eq_true, List.any_eq_true]
  constructor
  · rintro ⟨y, hy, h⟩
    rw [Bool.and_eq_true, Array.contains_push, Bool.or_eq_true] at h
    rcases h.1 with h1 | h1
    · exact .inl ⟨y, hy, by rw [h1, h.2]; rfl⟩
    · have : y = e := born_inj hM hy he (by simpa using h1)
      rw [← this]
      exact .inr h.2
  · rintro (⟨y, hy, h⟩ | h)
    · rw [Bool.and_eq_true] at h
      exact ⟨y, hy, by rw [Bool.and_eq_true, Array.contains_push, h.1]; exact ⟨rfl, h.2⟩⟩
    · exact ⟨e, he, by rw [Bool.and_eq_true, Array.contains_push]; exact ⟨by simp, h⟩⟩
theorem gone_all {n : Nat} {s : Nat → List Int} {es : Array MapEntry} {clock : Nat} {fs : List (Int × Value)} {g : List RdI} (hM : MapOk es clock fs) (hk : SOk n s fs g) {seen : Array Nat} (hall : ∀ y ∈ es.toList, seen.contains y.born = true) (x : Int) : goneB es seen s x = inAny n s x := by
  rw [Bool.eq_iff_iff]
  unfold goneB inAny
  rw [List.any_eq_true, List.any_eq_true]
  constructor
  · rintro ⟨y, hy, h⟩
    obtain ⟨i, A, c, hi, hkey, _⟩ := entry_set hM hk hy
    rw [Bool.and_eq_true] at h
    have e : keyN y = i := by unfold keyN; rw [hkey]; exact Int.toNat_natCast i
    exact ⟨i, List.mem_range.2 hi, by rw [← e]; exact h.2⟩
  · rintro ⟨i, hi, h⟩
    have hi := List.mem_range.1 hi
    rcases map_cases fs (i : Int) with ⟨t, v, ht⟩ | hno
    · have hlt : t < es.toList.length := by rw [Array.length_toList, hM.size]; exact (List.getElem?_eq_some_iff.1 ht).1
      obtain ⟨k, e1, e2⟩ := hM.at_ (List.getElem?_eq_getElem hlt)
      rw [ht] at e2
      have ek : k = (i : Int) := by cases e2; rfl
      subst ek
      refine ⟨_, List.getElem_mem hlt, ?_⟩
      have e : keyN es.toList[t] = i := by unfold keyN; rw [e1]; exact Int.toNat_natCast i
      rw [hall _ (List.getElem_mem hlt), e, h]
      rfl
    · obtain ⟨A, c, g1, _⟩ := hk.val i hi
      rw [mget_none hno] at g1
      simp only [Option.getD_none] at g1
      injection g1 with _ g2 _
      have : s i = [] := List.length_eq_zero_iff.1 g2.symm
      rw [this] at h
      simp at h
/-- What waits still. -/
abbrev stayW (es : Array MapEntry) (seen : Array Nat) (s : Nat → List Int) (we : List We) : List We := we.filter fun x => !goneB es seen s x.1.n
theorem stay_push {es : Array MapEntry} {clock : Nat} {fs : List (Int × Value)} (hM : MapOk es clock fs) (seen : Array Nat) (s : Nat → List Int) (we : List We) {e : MapEntry} (he : e ∈ es.toList) {i : Nat} (hi : keyN e = i) : leftW (s i) (stayW es seen s we) = stayW es (seen.push e.born) s we := by
  unfold leftW stayW
  rw [List.filter_filter]
  refine List.filter_congr (fun x _ => ?_)
  rw [gone_push hM seen s _ he, hi]
  unfold inS
  cases goneB es seen s x.1.n <;> cases (s i).contains (x.1.n : Int) <;> rfl
theorem stay_end {n : Nat} {s : Nat → List Int} {es : Array MapEntry} {clock : Nat} {fs : List (Int × Value)} {g : List RdI} (hM : MapOk es clock fs) (hk : SOk n s fs g) {seen : Array Nat} (hall : ∀ y ∈ es.toList, seen.contains y.born = true) {we : List We} {l : List Wt} (h : we.map (·.1) = l) : (stayW es seen s we).map (·.1) = l.filter fun x => !inAny n s x.n := by
  unfold stayW
  rw [← h, List.filter_map]
  congr 1
  refine List.filter_congr (fun x _ => ?_)
  rw [gone_all hM hk hall]
  rfl
theorem wok_sub {we we' : List We} {wv wv' : Value} {g : List RdI} (h : WOk we wv g) (hs : ∀ x ∈ we', x ∈ we) {A : Option Addr} {c : Nat} (hv : wv' = .slice A we'.length c) (hc : A = none → c = 0) : WOk we' wv' (⟨5, .slice A we'.length c, we'.length, cellsW we'⟩ :: g) :=
  ⟨fun A' n' c' e hA => by rw [hv] at e; cases e; exact hc hA, ⟨A, c, hv, List.mem_cons_self ..⟩, fun x hx => let ⟨A, c, e, h1⟩ := h.beh x (hs x hx); ⟨A, c, e, List.mem_cons_of_mem _ h1⟩⟩
/-- What is owned in Flush's loop. -/
abbrev flL (e d r bs : Nat) (wv : Value) (es : Array MapEntry) (clock c0 : Nat) (seen : Array Nat) (m : List Blk) (next : Nat) (gk : List RdI) (L : List HP) : List HP :=
  pts r (.mapIter (some bs) clock seen c0) :: pts bs (.map es clock) :: pts e (.cells #[.pointer (some ⟨d, 0, none⟩), wv, .map (some bs), .int .i64 next] 67) :: diskP d m :: rdG gk :: L
set_option maxHeartbeats 6400000 in
theorem eflush_c (w : World) (L : List HP) (e : Nat) (E : Eng) (hO : Own w (engP e E :: L)) (hk : E.Ok) (hlim : ∀ b ∈ E.m, b.vs.length ≤ 1000000) : Calls Try.prog 18 #[.pointer (some ⟨e, 0, none⟩)] w (Ret w (.int .i64 0) (engP e E.flushed :: L)) := by
  have HOK := Lib.hid hk
  have HLIM := Lib.hid hlim
  have hS := Same.refl w
  obtain ⟨d, wv, bs, fs, we, g, ⟨h1, h2, h3⟩, hO⟩ := eng_open.1 hO
  have HK := Lib.hid (And.intro h1 (And.intro h2 h3))
  have HL2 : Hid (we.length ≤ 200) := by have := hk.len; show _ ≤ _; rw [← h1, List.length_map] at this; exact this
  have HBEH : Hid (∀ x ∈ we, ∃ A2 c2, x.2 = .slice A2 x.1.beh.length c2) := Lib.hid fun x hx => by obtain ⟨A2, c2, e2, _⟩ := h2.beh x hx; exact ⟨A2, c2, e2⟩
  clear hk hlim h1 h2 h3
  have hO : Own w (mapP bs fs :: pts e (.cells #[.pointer (some ⟨d, 0, none⟩), wv, .map (some bs), .int .i64 E.next] 67) :: diskP d E.m :: rdG g :: L) := own_at hO (k := 2) rfl
  obtain ⟨es, clock, hM, hO⟩ := mapP_open.1 hO
  have HM := Lib.hid hM
  have HOLD := Lib.hid hM.old
  have HNOD := Lib.hid hM.nodup
  clear hM
  go_enter Try.func18, Try.ntmps18
  go_wp2_with (first | (apply own_load1 rfl rfl rfl; (first | exact row_dptr | exact row_ents | exact row_mint | exact row_mb); (first | exact own_get 0 hO rfl | exact own_get 1 hO rfl | exact own_get 2 hO rfl | exact own_get 3 hO rfl | exact own_get 4 hO rfl | exact own_get 5 hO rfl | exact own_get 6 hO rfl | exact own_get 7 hO rfl); (first | (simp only [List.getElem?_toArray, List.getElem?_cons_succ, List.getElem?_cons_zero]; rfl) | rfl)) | (refine own_range (i := 0) (b := bs) rfl rfl rfl und_mint hO rfl ?_; clear hO; intro r u hO hSn; replace hS := hS.trans hSn; clear hSn))
  simp only [Act.put, List.setIfInBounds_toArray, List.set_cons_zero, List.set_cons_succ]
  go_loopw [4] (fun _ wr => ∃ (seen : Array Nat) (c0 : Nat) (wvk : Value) (gk : List RdI), clock ≤ c0 ∧ Hid (WOk (stayW es seen E.s we) wvk gk ∧ ∀ x ∈ g, x ∈ gk) ∧ Own wr (flL e d r bs wvk es clock c0 seen E.m E.next gk L) ∧ Same w wr) (fun _ wr => wr.rangeLeft bs r)
  case atStart =>
    refine ⟨#[], clock, wv, g, Nat.le_refl _, Lib.hid ⟨?_, fun x hx => hx⟩, hO, hS⟩
    have e1 : stayW es #[] E.s we = we := List.filter_eq_self.2 fun x _ => by rw [gone_none]; rfl
    rw [e1]
    exact HK.out.2.1
  case round =>
    clear hO hS
    obtain ⟨seen, c0, wvk, gk, hc0, HW, hO, hS⟩ := hrel
    have HLEFT : Hid (wr.rangeLeft bs r = (leftOf es seen).size) := by
      show wr.rangeLeft bs r = _
      unfold World.rangeLeft
      rw [own_get 1 hO rfl, own_get 0 hO rfl]
    go_wp2_with (refine own_next (i := 0) (j := 1) (r := r) (b := bs) (since := clock) (c0 := c0) (clock := clock) (seen := seen) (es := es) rfl rfl rfl hO rfl rfl HOLD.out hc0 ?_ ?_)
    · intro hz
      have HZ := Lib.hid (left_none (es := es) (seen := seen) (by simpa using hz))
      clear hz
      have HEND : Hid ((stayW es seen E.s we).map (·.1) = E.flushed.l) := stay_end HM.out HK.out.2.2 HZ.out HK.out.1
      have hO := own_drop (own_drop hO)
      go_wp2_with (first | (apply own_load1 rfl rfl rfl; (first | exact row_dptr | exact row_ents | exact row_mint | exact row_mb); (first | exact own_get 0 hO rfl | exact own_get 1 hO rfl | exact own_get 2 hO rfl | exact own_get 3 hO rfl | exact own_get 4 hO rfl | exact own_get 5 hO rfl | exact own_get 6 hO rfl | exact own_get 7 hO rfl); (first | (simp only [List.getElem?_toArray, List.getElem?_cons_succ, List.getElem?_cons_zero]; rfl) | rfl)) | (refine own_mkmap rfl rfl hO ?_; clear hO; intro b9 u hO hSn; replace hS := hS.trans hSn; clear hSn) | (refine own_store1 (k := 1) (off := 2) (cs' := #[.pointer (some ⟨d, 0, none⟩), wvk, .map (some b9), .int .i64 E.next]) rfl rfl rfl rfl sz_mint hO rfl rfl (by simp) rfl ?_; clear hO; intro u hO hSn; replace hS := hS.trans hSn; clear hSn; simp only [List.set_cons_zero, List.set_cons_succ] at hO) | (go_at_call 32; (with_reducible refine Calls.mono (call_at 2 (fun L' h => flush_c _ L' d E.m h HOK.out.pos HLIM.out) rfl hO) ?_); clear hO; rintro e u ⟨rfl, hO, hSn⟩; replace hS := hS.trans hSn; clear hSn; simp only [List.set_cons_zero, List.set_cons_succ] at hO))
      go_ret
      refine ⟨rfl, ?_, hS⟩
      have h1 : Own _ (rdG gk :: _) := own_at hO (k := 3) rfl
      have h2 := rdG_nil h1 1
      refine eng_open.2 ⟨d, wvk, b9, [], stayW es seen E.s we, _, ⟨HEND.out, HW.out.1.mono fun x hx => List.mem_cons_of_mem _ hx, sok_nil (List.mem_cons_self ..)⟩, ?_⟩
      exact own_perm h2 (by
        refine List.Perm.trans (perm_at (k := 2) rfl) (List.Perm.cons _ ?_)
        refine List.Perm.trans (perm_at (k := 2) rfl) (List.Perm.cons _ ?_)
        exact perm_at (k := 1) rfl)
    · intro key val born w11 he hO11 hS11
      clear hO
      have he : (⟨key, val, born⟩ : MapEntry) ∈ (leftOf es seen).toList := by simpa using he
      obtain ⟨hmem, hnew⟩ := left_mem he
      have HLESS := Lib.hid (left_less he)
      obtain ⟨i, A, cc, hi, hkey, hval, hin⟩ := entry_set HM.out HK.out.2.2 hmem
      have hkey : key = .int .i64 (i : Int) := hkey
      have hval : val = .slice A (E.s i).length cc := hval
      subst hkey hval
      have HIN := Lib.hid hin
      have HIN2 := Lib.hid (HW.out.2 _ hin)
      have HMEM := Lib.hid hmem
      have HI := Lib.hid hi
      replace hS := hS.trans hS11
      obtain ⟨WA, wc, rfl, hm⟩ := HW.out.1.rd
      have HRD := Lib.hid hm
      obtain ⟨ws, hws⟩ : ∃ ws, ws = stayW es seen E.s we := ⟨_, rfl⟩
      have HWS := Lib.hid hws
      have HWL : Hid (ws.length ≤ 200) := by
        have h1 := List.length_filter_le (fun x : We => !goneB es seen E.s x.1.n) we
        have := HL2.out
        show _ ≤ _
        rw [hws]
        exact Nat.le_trans h1 this
      have HSB : Hid (∀ x ∈ ws, x ∈ we) := Lib.hid fun x hx => by rw [hws] at hx; exact List.filter_sublist.subset hx
      rw [← hws] at HW HRD hO11
      have HONE : Hid (∀ u ∈ cellsW ws, u.oneCell' = true) := Lib.hid (cellsW_one fun x hx => by obtain ⟨A2, c2, e2⟩ := HBEH.out x (HSB.out x hx); rw [e2]; rfl)
      have HWM : Hid (ws.length ≤ 1000000) := by have := HWL.out; show _ ≤ _; omega
      have HWB : Hid (∀ x ∈ ws, ∃ A2 c2, x.2 = .slice A2 x.1.beh.length c2) := Lib.hid fun x hx => HBEH.out x (HSB.out x hx)
      have hO : Own w11 (flL e d r bs (.slice WA ws.length wc) es clock clock (seen.push born) E.m E.next gk L) := hO11
      clear he hmem hnew hi hin hO11 hS11 hm hws
      go_upto_region 6 with (first | (refine own_entry (i := 0) (j := 1) (r := r) (b := bs) (since := clock) (clock := clock) (seen := seen) (es := es) (key := .int .i64 (i : Int)) (val := .slice A (E.s i).length cc) (born := born) rfl rfl rfl hO rfl rfl HMEM.out HNOD.out ?_) | (refine own_alloc (T := 34) rfl rfl zero_zs rfl hO ?_; clear hO; intro gx u hO hSn; replace hS := hS.trans hSn; clear hSn) | (refine own_store1 (k := 0) (off := 0) (cs' := #[.slice A (E.s i).length cc]) rfl rfl rfl rfl sz_zs hO rfl rfl (by simp [Value.cells]) rfl ?_; clear hO; intro u hO hSn; replace hS := hS.trans hSn; clear hSn; simp only [List.set_cons_zero] at hO))
      go_wp2_with (first | (apply own_load1 rfl rfl rfl; (first | exact row_dptr | exact row_ents | exact row_mint | exact row_mb); (first | exact own_get 0 hO rfl | exact own_get 1 hO rfl | exact own_get 2 hO rfl | exact own_get 3 hO rfl | exact own_get 4 hO rfl | exact own_get 5 hO rfl | exact own_get 6 hO rfl | exact own_get 7 hO rfl); (first | (simp only [List.getElem?_toArray, List.getElem?_cons_succ, List.getElem?_cons_zero]; rfl) | rfl)) | (go_at_call 58; (with_reducible refine Calls.mono (clone_e _ _ WA ws.length wc (cellsW ws) hO (fun w' h => rdG_rd (own_at h (k := 5) rfl) HRD.out) HONE.out HWM.out) ?_); clear hO; rintro e u ⟨vc, rfl, hO, hSn⟩; replace hS := hS.trans hSn; clear hSn) | (go_at_call 57; (with_reducible refine Calls.mono (delf_flush _ _ gx (.slice A (E.s i).length cc) (E.s i).length (E.s i) vc ws.length ws rfl HWB.out HWL.out rfl hO (fun w' h => rdG_rd (own_at h (k := 4) rfl) HIN2.out)) ?_); clear hO; rintro e u ⟨vd, rfl, hO, hSn⟩; replace hS := hS.trans hSn; clear hSn; obtain ⟨DA, dc, rfl⟩ := (owns_rd hO).slice) | (refine own_store1 (k := 4) (off := 1) (cs' := #[.pointer (some ⟨d, 0, none⟩), .slice DA (leftW (E.s i) ws).length dc, .map (some bs), .int .i64 E.next]) rfl rfl rfl rfl sz_ents hO rfl rfl (by simp [Value.cells]) rfl ?_; clear hO; intro u hO hSn; replace hS := hS.trans hSn; clear hSn; simp only [List.set_cons_zero, List.set_cons_succ] at hO))
      simp only [Act.put, List.setIfInBounds_toArray, List.set_cons_zero, List.set_cons_succ]
      go_roundw
      case rel =>
        have e1 : leftW (E.s i) ws = stayW es (seen.push born) E.s we := by rw [HWS.out]; exact stay_push HM.out seen E.s we HMEM.out (by exact Int.toNat_natCast i)
        have h1 := own_perm hO (List.Perm.cons _ (perm_at (k := 5) rfl))
        have h2 : Own u (owns 79 5 (.slice DA (leftW (E.s i) ws).length dc) (leftW (E.s i) ws).length (cellsW (leftW (E.s i) ws)) :: rdG gk :: pts r (.mapIter (some bs) clock (seen.push born) clock) :: pts bs (.map es clock) :: pts e (.cells #[.pointer (some ⟨d, 0, none⟩), .slice DA (leftW (E.s i) ws).length dc, .map (some bs), .int .i64 E.next] 67) :: diskP d E.m :: L) := own_sub h1 (.cons_cons _ (.cons_cons _ (.cons _ (List.Sublist.refl _))))
        have h3 := rdG_owns h2
        refine ⟨seen.push born, clock, .slice DA (leftW (E.s i) ws).length dc, ⟨5, .slice DA (leftW (E.s i) ws).length dc, (leftW (E.s i) ws).length, cellsW (leftW (E.s i) ws)⟩ :: gk, Nat.le_refl _, Lib.hid ⟨?_, fun x hx => List.mem_cons_of_mem _ (HW.out.2 x hx)⟩, own_perm h3 (List.Perm.symm (perm_at (k := 4) rfl)), hS⟩
        rw [← e1]
        exact wok_sub HW.out.1 (fun x hx => List.filter_sublist.subset hx) rfl (fun hA => owns_nilcap h2 hA)
      case measure =>
        have e2 : u.rangeLeft bs r = (leftOf es (seen.push born)).size := by
          unfold World.rangeLeft
          rw [own_get 3 hO rfl, own_get 2 hO rfl]
        rw [e2, HLEFT.out]
        exact HLESS.out
end Go.Proofs.Ytonohjhmnlfakaa.H
set_option linter.unusedVariables false
set_option linter.unusedSimpArgs false
set_option maxRecDepth 100000
namespace Go.Proofs.Ytonohjhmnlfakaa.H
open Go.RowKit
/-- What is owned in another order: each number says which of those that are left comes next. -/
def pickL : List Nat → List HP → Option (List HP)
  | [], L => some L
  | k :: ks, L => match L[k]? with
    | none => none
    | some A => (pickL ks (L.eraseIdx k)).map (A :: ·)
theorem own_order {w : World} {L L' : List HP} (ks : List Nat) (h : Own w L) (hk : pickL ks L = some L') : Own w L' := by
  refine own_perm h ?_
  clear h
  induction ks generalizing L L' with
  | nil => cases hk; exact List.Perm.refl _
  | cons k ks ih =>
    unfold pickL at hk
    cases hg : L[k]? with
    | none => rw [hg] at hk; cases hk
    | some A =>
      rw [hg] at hk
      obtain ⟨M, hM, rfl⟩ := Option.map_eq_some_iff.1 hk
      exact (perm_at hg).trans (List.Perm.cons _ (ih hM))
theorem row_item : isRowB Try.prog 36 = some true := by kernel_rfl
theorem sz_item : (Try.prog.info? 36).map (·.size) = some 4 := by kernel_rfl
theorem row_eptr : isRowB Try.prog 23 = some false := by kernel_rfl
/-- An item as it lies in memory: the slice of those that it comes behind is v. -/
abbrev Iv := It × Value
def Iv.cells (x : Iv) : List Value := [.int .i64 x.1.p.blk, .int .i64 x.1.p.off, .string x.1.p.dat, x.2]
def cellsI (l : List Iv) : List Value := l.flatMap Iv.cells
theorem cellsI_length (l : List Iv) : (cellsI l).length = l.length * 4 := by
  induction l with
  | nil => rfl
  | cons d l ih => simp only [cellsI, List.flatMap_cons, List.length_append, List.length_cons] at ih ⊢; rw [ih]; simp [Iv.cells]; omega
theorem cellsI_app (a b : List Iv) : cellsI (a ++ b) = cellsI a ++ cellsI b := List.flatMap_append
theorem cellsI_at (l : List Iv) (k : Nat) (d : Iv) (hk : l[k]? = some d) (j : Nat) (u : Value) (hu : (Iv.cells d)[j]? = some u) : (cellsI l)[k * 4 + j]? = some u := by
  induction l generalizing k with
  | nil => simp at hk
  | cons e l ih =>
    have h5 : (Iv.cells e).length = 4 := rfl
    have e1 : cellsI (e :: l) = Iv.cells e ++ cellsI l := rfl
    rw [e1]
    cases k with
    | zero =>
      have ed : e = d := by simpa using hk
      subst ed
      rw [Nat.zero_mul, Nat.zero_add, List.getElem?_append_left (List.getElem?_eq_some_iff.1 hu).1]
      exact hu
    | succ k =>
      rw [List.getElem?_append_right (by omega), h5, show (k + 1) * 4 + j - 4 = k * 4 + j by omega]
      exact ih k (by simpa using hk)
theorem item_cells {w : World} {ad : Addr} {n c : Nat} {is : List Iv} (h : Rd w 4 (.slice (some ad) n c) n (cellsI is)) {k : Nat} {x : Iv} (hx : is[k]? = some x) : ∀ (j : Nat) (u : Value), (Iv.cells x)[j]? = some u → w.cell? ((ad.add (k * 4)).add j) = some u :=
  fun j u hu => h.cell (cellsI_at is k x hx j u hu)
namespace Eng
/-- Is an item refused for its form? -/
def formI (E : Eng) (x : It) : Bool := !rightB x.p || decide ((E.m.length : Int) ≤ x.p.blk)
/-- Is one refused that the i-th item comes behind? -/
def depI (E : Eng) (i : Nat) (d : Int) : Bool := decide ((E.next : Int) ≤ d) || decide (d < -(i : Int))
end Eng
abbrev beL (be e : Nat) (E : Eng) (L : List HP) : List HP := pts be (.cells #[.pointer (some ⟨e, 0, none⟩)] 23) :: engP e E :: L
section
variable (w : World) (L : List HP) (be e : Nat) (E : Eng)
theorem eadd1_c (x : It) (A : Option Addr) (n c : Nat) (hO : Own w (beL be e E L)) : Calls Try.prog 35 #[.agg #[.int .i64 x.p.blk, .int .i64 x.p.off, .string x.p.dat, .slice A n c], .pointer (some ⟨be, 0, none⟩)] w (Ret w (.bool (E.formI x)) (beL be e E L)) := by
  obtain ⟨xv, hxv⟩ : ∃ xv, xv = Value.slice A n c := ⟨_, rfl⟩
  have h1v : Value.oneCell' xv = true := by rw [hxv]; rfl
  obtain ⟨d, wv, bs, fs, we, g, hk, hO⟩ := eng_open.1 (own_swap hO)
  have HK := Lib.hid hk
  have hS := Same.refl w
  clear hk
  obtain ⟨r, hr⟩ : ∃ r, rightB x.p = r := ⟨_, rfl⟩
  have HR := Lib.hid hr
  have HF : Hid (E.formI x = (!r || decide ((E.m.length : Int) ≤ x.p.blk))) := by show _ = _; unfold Eng.formI; rw [hr]
  clear hr
  subst hxv
  have hO := own_order [4] hO rfl
  simp only [List.eraseIdx_cons_succ, List.eraseIdx_zero, List.tail_cons] at hO
  go_enter Try.func35, Try.ntmps35
  go_upto_region 1 with (first | (refine own_box_agg (x := .tmp 0) (cs := (Iv.cells (x, .slice A n c)).toArray) rfl rfl rfl hO ?_; clear hO; intro gx u hO hSn; replace hS := hS.trans hSn; clear hSn))
  have HRC : Hid (∀ w' (L : List HP), Own w' L → Calls Try.prog 36 #[.agg #[.int .i64 x.p.blk, .int .i64 x.p.off, .string x.p.dat]] w' (Ret w' (.bool r) L)) := Lib.hid fun w' L h => by rw [← HR.out]; exact right_c w' L x.p.blk x.p.off x.p.dat h
  cases r with
  | false =>
    refine wp_region_seq (Cls _ (pts gx (.cells (Iv.cells (x, .slice A n c)).toArray 36) :: pts be (.cells #[.pointer (some ⟨e, 0, none⟩)] 23) :: pts e (.cells #[.pointer (some ⟨d, 0, none⟩), wv, .map (some bs), .int .i64 E.next] 67) :: diskP d E.m :: mapP bs fs :: rdG g :: L)) 17 20 mixed (by kernel_rfl) rfl (cls_drew hO) ?_
    simp only [List.append_eq, List.cons_append, List.nil_append, List.take_succ_cons, List.take_zero]
    repeat (first
      | (apply wv_skip rfl; simp only [Act.put, List.setIfInBounds_toArray, List.set_cons_zero, List.set_cons_succ])
      | (refine wv_loadrow (b := gx) (off := 0) (cs := (Iv.cells (x, .slice A n c)).toArray) (t := 36) (vs := [.int .i64 x.p.blk, .int .i64 x.p.off, .string x.p.dat]) rfl rfl rfl row_pat sz_pat (fun w h => own_get 0 h.1 rfl) (by show 3 ≤ 4; decide) rfl ?_; simp only [Act.put, List.setIfInBounds_toArray, List.set_cons_zero, List.set_cons_succ])
      | (refine wv_load1 (b := gx) (off := 0) (cs := (Iv.cells (x, .slice A n c)).toArray) (t := 36) (v := .int .i64 x.p.blk) rfl rfl rfl row_int (fun w h => own_get 0 h.1 rfl) rfl ?_; simp only [Act.put, List.setIfInBounds_toArray, List.set_cons_zero, List.set_cons_succ])
      | (refine wv_load1 (b := be) (off := 0) (cs := #[.pointer (some ⟨e, 0, none⟩)]) (t := 23) (v := .pointer (some ⟨e, 0, none⟩)) rfl rfl rfl row_eptr (fun w h => own_get 1 h.1 rfl) rfl ?_; simp only [Act.put, List.setIfInBounds_toArray, List.set_cons_zero, List.set_cons_succ])
      | (refine wv_load1 (b := e) (off := 0) (cs := #[.pointer (some ⟨d, 0, none⟩), wv, .map (some bs), .int .i64 E.next]) (t := 67) (v := .pointer (some ⟨d, 0, none⟩)) rfl rfl rfl row_dptr (fun w h => own_get 2 h.1 rfl) rfl ?_; simp only [Act.put, List.setIfInBounds_toArray, List.set_cons_zero, List.set_cons_succ])
      | (apply wv_load1 rfl rfl rfl; (first | exact row_int | exact row_str | exact row_bool | exact row_u8 | exact row_bys | exact row_pats | exact row_err); (intro w h; (first | exact own_get 0 h.1 rfl | exact own_get 1 h.1 rfl | exact own_get 2 h.1 rfl | exact own_get 3 h.1 rfl | exact own_get 4 h.1 rfl | exact own_get 5 h.1 rfl | exact own_get 6 h.1 rfl | exact own_get 7 h.1 rfl)); (first | (simp only [List.getElem?_toArray, List.getElem?_cons_succ, List.getElem?_cons_zero]; rfl) | rfl); simp only [Act.put, List.setIfInBounds_toArray, List.set_cons_zero, List.set_cons_succ])
      | (apply wv_loadrow rfl rfl rfl; (first | exact row_pat); exact sz_pat; (intro w h; (first | exact own_get 0 h.1 rfl | exact own_get 1 h.1 rfl | exact own_get 2 h.1 rfl | exact own_get 3 h.1 rfl | exact own_get 4 h.1 rfl | exact own_get 5 h.1 rfl | exact own_get 6 h.1 rfl | exact own_get 7 h.1 rfl)); (focus (simp; done)); (first | (simp only [List.drop_zero, List.drop_succ_cons, List.take_succ_cons, List.take_zero]; rfl) | rfl); simp only [Act.put, List.setIfInBounds_toArray, List.set_cons_zero, List.set_cons_succ])
      | (apply wv_run rfl; (focus (intro w h; go_simp; first | done | rfl)); simp only [Act.put, List.setIfInBounds_toArray, List.set_cons_zero, List.set_cons_succ])
      | (apply wv_call rfl; (focus (intro w; go_simp; first | done | exact ⟨rfl, rfl⟩)); (focus (intro w h; apply cls_call h; (exact HRC.out _ _ h.1))); simp only [Act.put, List.setIfInBounds_toArray, List.set_cons_zero, List.set_cons_succ]))
    refine wv_nil ?_
    simp only [List.drop_succ_cons, List.drop_zero]
    intro w5 ⟨hO5, hS5⟩
    clear hO
    have hb : Own w5 (beL be e E L) := own_swap (eng_open.2 ⟨d, wv, bs, fs, we, g, HK.out, own_order [1, 1, 1, 1] (own_drop hO5) rfl⟩)
    go_wp2
    go_ret
    exact ⟨by rw [HF.out]; rfl, hb, hS.trans hS5⟩
  | true =>
    refine wp_region_seq (Cls _ (pts gx (.cells (Iv.cells (x, .slice A n c)).toArray 36) :: pts be (.cells #[.pointer (some ⟨e, 0, none⟩)] 23) :: pts e (.cells #[.pointer (some ⟨d, 0, none⟩), wv, .map (some bs), .int .i64 E.next] 67) :: diskP d E.m :: mapP bs fs :: rdG g :: L)) 17 20 mixed (by kernel_rfl) rfl (cls_drew hO) ?_
    simp only [List.append_eq, List.cons_append, List.nil_append, List.take_succ_cons, List.take_zero]
    repeat (first
      | (apply wv_skip rfl; simp only [Act.put, List.setIfInBounds_toArray, List.set_cons_zero, List.set_cons_succ])
      | (refine wv_loadrow (b := gx) (off := 0) (cs := (Iv.cells (x, .slice A n c)).toArray) (t := 36) (vs := [.int .i64 x.p.blk, .int .i64 x.p.off, .string x.p.dat]) rfl rfl rfl row_pat sz_pat (fun w h => own_get 0 h.1 rfl) (by show 3 ≤ 4; decide) rfl ?_; simp only [Act.put, List.setIfInBounds_toArray, List.set_cons_zero, List.set_cons_succ])
      | (refine wv_load1 (b := gx) (off := 0) (cs := (Iv.cells (x, .slice A n c)).toArray) (t := 36) (v := .int .i64 x.p.blk) rfl rfl rfl row_int (fun w h => own_get 0 h.1 rfl) rfl ?_; simp only [Act.put, List.setIfInBounds_toArray, List.set_cons_zero, List.set_cons_succ])
      | (refine wv_load1 (b := be) (off := 0) (cs := #[.pointer (some ⟨e, 0, none⟩)]) (t := 23) (v := .pointer (some ⟨e, 0, none⟩)) rfl rfl rfl row_eptr (fun w h => own_get 1 h.1 rfl) rfl ?_; simp only [Act.put, List.setIfInBounds_toArray, List.set_cons_zero, List.set_cons_succ])
      | (refine wv_load1 (b := e) (off := 0) (cs := #[.pointer (some ⟨d, 0, none⟩), wv, .map (some bs), .int .i64 E.next]) (t := 67) (v := .pointer (some ⟨d, 0, none⟩)) rfl rfl rfl row_dptr (fun w h => own_get 2 h.1 rfl) rfl ?_; simp only [Act.put, List.setIfInBounds_toArray, List.set_cons_zero, List.set_cons_succ])
      | (apply wv_load1 rfl rfl rfl; (first | exact row_int | exact row_str | exact row_bool | exact row_u8 | exact row_bys | exact row_pats | exact row_err); (intro w h; (first | exact own_get 0 h.1 rfl | exact own_get 1 h.1 rfl | exact own_get 2 h.1 rfl | exact own_get 3 h.1 rfl | exact own_get 4 h.1 rfl | exact own_get 5 h.1 rfl | exact own_get 6 h.1 rfl | exact own_get 7 h.1 rfl)); (first | (simp only [List.getElem?_toArray, List.getElem?_cons_succ, List.getElem?_cons_zero]; rfl) | rfl); simp only [Act.put, List.setIfInBounds_toArray, List.set_cons_zero, List.set_cons_succ])
      | (apply wv_loadrow rfl rfl rfl; (first | exact row_pat); exact sz_pat; (intro w h; (first | exact own_get 0 h.1 rfl | exact own_get 1 h.1 rfl | exact own_get 2 h.1 rfl | exact own_get 3 h.1 rfl | exact own_get 4 h.1 rfl | exact own_get 5 h.1 rfl | exact own_get 6 h.1 rfl | exact own_get 7 h.1 rfl)); (focus (simp; done)); (first | (simp only [List.drop_zero, List.drop_succ_cons, List.take_succ_cons, List.take_zero]; rfl) | rfl); simp only [Act.put, List.setIfInBounds_toArray, List.set_cons_zero, List.set_cons_succ])
      | (apply wv_run rfl; (focus (intro w h; go_simp; first | done | rfl)); simp only [Act.put, List.setIfInBounds_toArray, List.set_cons_zero, List.set_cons_succ])
      | (apply wv_call rfl; (focus (intro w; go_simp; first | done | exact ⟨rfl, rfl⟩)); (focus (intro w h; apply cls_call h; (first | exact HRC.out _ _ h.1 | exact call_at 3 (fun L' h => size_c _ L' d E.m h) rfl h.1))); simp only [Act.put, List.setIfInBounds_toArray, List.set_cons_zero, List.set_cons_succ]))
    refine wv_nil ?_
    simp only [List.drop_succ_cons, List.drop_zero]
    intro w5 ⟨hO5, hS5⟩
    clear hO
    have hb : Own w5 (beL be e E L) := own_swap (eng_open.2 ⟨d, wv, bs, fs, we, g, HK.out, own_order [1, 1, 1, 1] (own_drop hO5) rfl⟩)
    go_wp2
    go_ret
    exact ⟨by rw [HF.out]; rfl, hb, hS.trans hS5⟩
theorem eadd2_c (bi i : Nat) (d : Int) (hd : -9223372036854775808 ≤ d) (hn : E.next ≤ 1000000) (hi : i ≤ 1000000) (hO : Own w (pts bi (.cells #[.int .i64 i] 3) :: beL be e E L)) : Calls Try.prog 39 #[.int .i64 d, .pointer (some ⟨be, 0, none⟩), .pointer (some ⟨bi, 0, none⟩)] w (Ret w (.bool (E.depI i d)) (pts bi (.cells #[.int .i64 i] 3) :: beL be e E L)) := by
  obtain ⟨dd, wv, bs, fs, we, g, hk, hO⟩ := eng_open.1 (own_at hO (k := 2) rfl)
  have HK := Lib.hid hk
  have hS := Same.refl w
  clear hk
  have hO := own_order [4, 4] hO rfl
  simp only [List.eraseIdx_cons_succ, List.eraseIdx_zero, List.tail_cons] at hO
  go_enter Try.func39, Try.ntmps39
  go_upto_region 1 with fail
  by_cases h1 : (E.next : Int) ≤ d
  · have HF : Hid (E.depI i d = true) := by show _ = _; unfold Eng.depI; simp [h1]
    refine wp_plain_seq (Cls _ (pts bi (.cells #[.int .i64 i] 3) :: pts be (.cells #[.pointer (some ⟨e, 0, none⟩)] 23) :: pts e (.cells #[.pointer (some ⟨dd, 0, none⟩), wv, .map (some bs), .int .i64 E.next] 67) :: diskP dd E.m :: mapP bs fs :: rdG g :: L)) 17 (cls_here hO) ?_
    simp only [List.append_eq, List.cons_append, List.nil_append, List.take_succ_cons, List.take_zero]
    repeat (first
      | (apply wv_skip rfl; simp only [Act.put, List.setIfInBounds_toArray, List.set_cons_zero, List.set_cons_succ])
      | (apply wv_load1 rfl rfl rfl; (first | exact row_int | exact row_str | exact row_bool | exact row_u8 | exact row_bys | exact row_pats | exact row_err); (intro w h; (first | exact own_get 0 h.1 rfl | exact own_get 1 h.1 rfl | exact own_get 2 h.1 rfl | exact own_get 3 h.1 rfl | exact own_get 4 h.1 rfl | exact own_get 5 h.1 rfl | exact own_get 6 h.1 rfl | exact own_get 7 h.1 rfl)); (first | (simp only [List.getElem?_toArray, List.getElem?_cons_succ, List.getElem?_cons_zero]; rfl) | rfl); simp only [Act.put, List.setIfInBounds_toArray, List.set_cons_zero, List.set_cons_succ])
      | (apply wv_loadrow rfl rfl rfl; (first | exact row_pat); exact sz_pat; (intro w h; (first | exact own_get 0 h.1 rfl | exact own_get 1 h.1 rfl | exact own_get 2 h.1 rfl | exact own_get 3 h.1 rfl | exact own_get 4 h.1 rfl | exact own_get 5 h.1 rfl | exact own_get 6 h.1 rfl | exact own_get 7 h.1 rfl)); (focus (simp; done)); (first | (simp only [List.drop_zero, List.drop_succ_cons, List.take_succ_cons, List.take_zero]; rfl) | rfl); simp only [Act.put, List.setIfInBounds_toArray, List.set_cons_zero, List.set_cons_succ])
      | (refine wv_load1 (b := be) (off := 0) (cs := #[.pointer (some ⟨e, 0, none⟩)]) (t := 23) (v := .pointer (some ⟨e, 0, none⟩)) rfl rfl rfl row_eptr (fun w h => own_get 1 h.1 rfl) rfl ?_; simp only [Act.put, List.setIfInBounds_toArray, List.set_cons_zero, List.set_cons_succ])
      | (apply wv_run rfl; (focus (intro w h; go_simp; first | done | rfl)); simp only [Act.put, List.setIfInBounds_toArray, List.set_cons_zero, List.set_cons_succ])
      | (apply wv_call rfl; (focus (intro w; go_simp; first | done | exact ⟨rfl, rfl⟩)); (focus (intro w h; apply cls_call h; fail)); simp only [Act.put, List.setIfInBounds_toArray, List.set_cons_zero, List.set_cons_succ]))
    refine wv_nil ?_
    simp only [List.drop_succ_cons, List.drop_zero]
    intro w5 ⟨hO5, hS5⟩
    clear hO
    have hb : Own w5 (pts bi (.cells #[.int .i64 i] 3) :: beL be e E L) := own_order [1, 1] (eng_open.2 ⟨dd, wv, bs, fs, we, g, HK.out, own_order [2, 2, 2, 2] hO5 rfl⟩) rfl
    go_wp2
    go_ret
    exact ⟨by rw [HF.out]; rfl, hb, hS.trans hS5⟩
  · have hw : IntKind.i64.wrap (d + i) = d + i := by rw [IntKind.wrap_i64] <;> omega
    by_cases h2 : d + i < 0
    · have h3 : d < 0 := by omega
      have HF : Hid (E.depI i d = true) := by
        show _ = _
        unfold Eng.depI
        have h4 : d < -(i : Int) := by omega
        simp [h4]
      refine wp_plain_seq (Cls _ (pts bi (.cells #[.int .i64 i] 3) :: pts be (.cells #[.pointer (some ⟨e, 0, none⟩)] 23) :: pts e (.cells #[.pointer (some ⟨dd, 0, none⟩), wv, .map (some bs), .int .i64 E.next] 67) :: diskP dd E.m :: mapP bs fs :: rdG g :: L)) 17 (cls_here hO) ?_
      simp only [List.append_eq, List.cons_append, List.nil_append, List.take_succ_cons, List.take_zero]
      repeat (first
        | (apply wv_skip rfl; simp only [Act.put, List.setIfInBounds_toArray, List.set_cons_zero, List.set_cons_succ])
        | (apply wv_load1 rfl rfl rfl; (first | exact row_int | exact row_str | exact row_bool | exact row_u8 | exact row_bys | exact row_pats | exact row_err); (intro w h; (first | exact own_get 0 h.1 rfl | exact own_get 1 h.1 rfl | exact own_get 2 h.1 rfl | exact own_get 3 h.1 rfl | exact own_get 4 h.1 rfl | exact own_get 5 h.1 rfl | exact own_get 6 h.1 rfl | exact own_get 7 h.1 rfl)); (first | (simp only [List.getElem?_toArray, List.getElem?_cons_succ, List.getElem?_cons_zero]; rfl) | rfl); simp only [Act.put, List.setIfInBounds_toArray, List.set_cons_zero, List.set_cons_succ])
        | (apply wv_loadrow rfl rfl rfl; (first | exact row_pat); exact sz_pat; (intro w h; (first | exact own_get 0 h.1 rfl | exact own_get 1 h.1 rfl | exact own_get 2 h.1 rfl | exact own_get 3 h.1 rfl | exact own_get 4 h.1 rfl | exact own_get 5 h.1 rfl | exact own_get 6 h.1 rfl | exact own_get 7 h.1 rfl)); (focus (simp; done)); (first | (simp only [List.drop_zero, List.drop_succ_cons, List.take_succ_cons, List.take_zero]; rfl) | rfl); simp only [Act.put, List.setIfInBounds_toArray, List.set_cons_zero, List.set_cons_succ])
        | (refine wv_load1 (b := be) (off := 0) (cs := #[.pointer (some ⟨e, 0, none⟩)]) (t := 23) (v := .pointer (some ⟨e, 0, none⟩)) rfl rfl rfl row_eptr (fun w h => own_get 1 h.1 rfl) rfl ?_; simp only [Act.put, List.setIfInBounds_toArray, List.set_cons_zero, List.set_cons_succ])
        | (apply wv_run rfl; (focus (intro w h; go_simp; first | done | rfl)); simp only [Act.put, List.setIfInBounds_toArray, List.set_cons_zero, List.set_cons_succ])
        | (apply wv_call rfl; (focus (intro w; go_simp; first | done | exact ⟨rfl, rfl⟩)); (focus (intro w h; apply cls_call h; fail)); simp only [Act.put, List.setIfInBounds_toArray, List.set_cons_zero, List.set_cons_succ]))
      refine wv_nil ?_
      simp only [List.drop_succ_cons, List.drop_zero]
      intro w5 ⟨hO5, hS5⟩
      clear hO
      have hb : Own w5 (pts bi (.cells #[.int .i64 i] 3) :: beL be e E L) := own_order [1, 1] (eng_open.2 ⟨dd, wv, bs, fs, we, g, HK.out, own_order [2, 2, 2, 2] hO5 rfl⟩) rfl
      go_wp2
      go_ret
      exact ⟨by rw [HF.out]; rfl, hb, hS.trans hS5⟩
    · have HF : Hid (E.depI i d = false) := by
        show _ = _
        unfold Eng.depI
        have h4 : ¬ d < -(i : Int) := by omega
        simp [h4, h1]
      refine wp_plain_seq (Cls _ (pts bi (.cells #[.int .i64 i] 3) :: pts be (.cells #[.pointer (some ⟨e, 0, none⟩)] 23) :: pts e (.cells #[.pointer (some ⟨dd, 0, none⟩), wv, .map (some bs), .int .i64 E.next] 67) :: diskP dd E.m :: mapP bs fs :: rdG g :: L)) 17 (cls_here hO) ?_
      simp only [List.append_eq, List.cons_append, List.nil_append, List.take_succ_cons, List.take_zero]
      repeat (first
        | (apply wv_skip rfl; simp only [Act.put, List.setIfInBounds_toArray, List.set_cons_zero, List.set_cons_succ])
        | (apply wv_load1 rfl rfl rfl; (first | exact row_int | exact row_str | exact row_bool | exact row_u8 | exact row_bys | exact row_pats | exact row_err); (intro w h; (first | exact own_get 0 h.1 rfl | exact own_get 1 h.1 rfl | exact own_get 2 h.1 rfl | exact own_get 3 h.1 rfl | exact own_get 4 h.1 rfl | exact own_get 5 h.1 rfl | exact own_get 6 h.1 rfl | exact own_get 7 h.1 rfl)); (first | (simp only [List.getElem?_toArray, List.getElem?_cons_succ, List.getElem?_cons_zero]; rfl) | rfl); simp only [Act.put, List.setIfInBounds_toArray, List.set_cons_zero, List.set_cons_succ])
        | (apply wv_loadrow rfl rfl rfl; (first | exact row_pat); exact sz_pat; (intro w h; (first | exact own_get 0 h.1 rfl | exact own_get 1 h.1 rfl | exact own_get 2 h.1 rfl | exact own_get 3 h.1 rfl | exact own_get 4 h.1 rfl | exact own_get 5 h.1 rfl | exact own_get 6 h.1 rfl | exact own_get 7 h.1 rfl)); (focus (simp; done)); (first | (simp only [List.drop_zero, List.drop_succ_cons, List.take_succ_cons, List.take_zero]; rfl) | rfl); simp only [Act.put, List.setIfInBounds_toArray, List.set_cons_zero, List.set_cons_succ])
        | (refine wv_load1 (b := be) (off := 0) (cs := #[.pointer (some ⟨e, 0, none⟩)]) (t := 23) (v := .pointer (some ⟨e, 0, none⟩)) rfl rfl rfl row_eptr (fun w h => own_get 1 h.1 rfl) rfl ?_; simp only [Act.put, List.setIfInBounds_toArray, List.set_cons_zero, List.set_cons_succ])
        | (apply wv_run rfl; (focus (intro w h; go_simp; first | done | rfl)); simp only [Act.put, List.setIfInBounds_toArray, List.set_cons_zero, List.set_cons_succ])
        | (apply wv_call rfl; (focus (intro w; go_simp; first | done | exact ⟨rfl, rfl⟩)); (focus (intro w h; apply cls_call h; fail)); simp only [Act.put, List.setIfInBounds_toArray, List.set_cons_zero, List.set_cons_succ]))
      refine wv_nil ?_
      simp only [List.drop_succ_cons, List.drop_zero]
      intro w5 ⟨hO5, hS5⟩
      clear hO
      have hb : Own w5 (pts bi (.cells #[.int .i64 i] 3) :: beL be e E L) := own_order [1, 1] (eng_open.2 ⟨dd, wv, bs, fs, we, g, HK.out, own_order [2, 2, 2, 2] hO5 rfl⟩) rfl
      go_wp2
      go_ret
      exact ⟨by rw [HF.out]; rfl, hb, hS.trans hS5⟩
end
end Go.Proofs.Ytonohjhmnlfakaa.H
