/- The reference's stack: what is owned of it, what may be read of it; Has, Same, meet. The reference's Get, Waiting, Needs. The reference's Needs. -/
import Derived.Test.YtdcbfdepkbplbaaZ14
import Derived.Test.YtdcbfdepkbplbaaZ06
set_option linter.unusedVariables false
set_option linter.unusedSimpArgs false
set_option maxRecDepth 100000
namespace Go.Proofs.Ytdcbfdepkbplbaa.H
open Go.RowKit
def On.cells (o : On) : List Value := [.int .i64 o.n, .int .i64 o.p.blk, .int .i64 o.p.off, .string o.p.dat]
def cellsO (l : List On) : List Value := l.flatMap On.cells
theorem cellsO_length (l : List On) : (cellsO l).length = l.length * 4 := by
  induction l with
  | nil => rfl
  | cons d l ih => simp only [cellsO, List.flatMap_cons, List.length_append, List.length_cons] at ih ⊢; rw [ih]; simp [On.cells]; omega
theorem cellsO_at (l : List On) (k : Nat) (d : On) (hk : l[k]? = some d) (j : Nat) (u : Value) (hu : d.cells[j]? = some u) : (cellsO l)[k * 4 + j]? = some u := by
  induction l generalizing k with
  | nil => simp at hk
  | cons e l ih =>
    have h4 : e.cells.length = 4 := rfl
    cases k with
    | zero =>
      simp at hk
      subst hk
      have hj := (List.getElem?_eq_some_iff.1 hu).1
      simp only [cellsO, List.flatMap_cons]
      rw [List.getElem?_append_left (by omega), ← hu]
      congr 1
      omega
    | succ k =>
      simp only [List.getElem?_cons_succ] at hk
      have := ih k hk
      simp only [cellsO, List.flatMap_cons] at this ⊢
      rw [List.getElem?_append_right (by omega), ← this]
      congr 1
      omega
theorem cellsO_append (a b : List On) : cellsO (a ++ b) = cellsO a ++ cellsO b := by simp [cellsO]
/-- What is owned of a stack of the reference. -/
def rstkL (q : Nat) (vb vl : Value) (m : Stk) : List HP :=
  [pts q (.cells #[vb, vl, .int .i64 m.next] 86), owns 5 1 vb 32 (bcs m.base), owns 93 4 vl m.l.length (cellsO m.l)]
def rstk (q : Nat) (m : Stk) : HP := ex fun x : Value × Value => seps (rstkL q x.1 x.2 m)
theorem rstk_open {w : World} {L : List HP} {q : Nat} {m : Stk} : Own w (rstk q m :: L) ↔ ∃ vb vl, Own w (rstkL q vb vl m ++ L) := by
  unfold rstk
  rw [own_ex]
  constructor
  · rintro ⟨⟨v, c⟩, h⟩
    rw [own_seps] at h
    exact ⟨v, c, h⟩
  · rintro ⟨v, c, h⟩
    refine ⟨(v, c), ?_⟩
    rw [own_seps]
    exact h
structure RAt (w : World) (q : Nat) (vb vl : Value) (m : Stk) : Prop where
  blk : w.heap[q]? = some (.cells #[vb, vl, .int .i64 m.next] 86)
  base : RdB w vb m.base
  rd : Rd w 4 vl m.l.length (cellsO m.l)
theorem rAt_of {w : World} {L : List HP} {q : Nat} {vb vl : Value} {m : Stk} (h : Own w (rstkL q vb vl m ++ L)) (hb : m.base.length = 32) : RAt w q vb vl m :=
  ⟨own_get 0 h rfl, owns_rdB hb.symm (own_drop h), owns_rd (own_drop (own_drop h))⟩
theorem RAt.cell {w : World} {q : Nat} {vb : Value} {ad : Addr} {c : Nat} {m : Stk} (h : RAt w q vb (.slice (some ad) m.l.length c) m) {k : Nat} {o : On} (hk : m.l[k]? = some o) :
    w.cell? (ad.add (k * 4)) = some (.int .i64 o.n) ∧ w.cell? ((ad.add (k * 4)).add 0) = some (.int .i64 o.n) ∧ ∀ (j : Nat) (u : Value), [Value.int .i64 o.p.blk, .int .i64 o.p.off, .string o.p.dat][j]? = some u → w.cell? (((ad.add (k * 4)).add 1).add j) = some u := by
  have h0 := h.rd.cell (cellsO_at m.l k o hk 0 (.int .i64 o.n) rfl)
  refine ⟨by rwa [addr_add, Nat.add_zero] at h0, h0, fun j u hu => ?_⟩
  have h1 := h.rd.cell (cellsO_at m.l k o hk (j + 1) u (by simpa [On.cells] using hu))
  rwa [addr_add, Nat.add_comm 1 j]
theorem RAt.some {w : World} {q : Nat} {vb : Value} {A : Option Addr} {n c : Nat} {m : Stk} (h : RAt w q vb (.slice A n c) m) {k : Nat} {o : On} (hk : m.l[k]? = some o) : ∃ ad, A = some ad ∧ n = m.l.length := by
  obtain ⟨A', c', e⟩ := h.rd.slice
  have hn : n = m.l.length := by
    obtain ⟨_, A', c', e, _⟩ := h.rd.out
    cases e
    rfl
  subst hn
  obtain ⟨ad, rfl⟩ := h.rd.addr (by rw [cellsO_length]; have := (List.getElem?_eq_some_iff.1 hk).1; omega)
  exact ⟨ad, rfl, rfl⟩
theorem row_ons : isRowB Try.prog 84 = some false := by kernel_rfl
theorem row_rptr : isRowB Try.prog 26 = some false := by kernel_rfl
theorem row_bys17 : isRowB Try.prog 22 = some false := by kernel_rfl
theorem rdI_cell {w : World} {ad : Addr} {c k : Nat} {l : List Int} {x : Int} (h : Rd w 1 (.slice (some ad) l.length c) l.length (ints l)) (hx : l[k]? = some x) : w.cell? (ad.add k) = some (.int .i64 x) := by
  have h1 : w.cell? ((ad.add (k * 1)).add 0) = some (.int .i64 x) := h.cell (by rw [Nat.mul_one, Nat.add_zero]; unfold ints; rw [List.getElem?_map, hx]; rfl)
  rwa [addr_add, Nat.mul_one, Nat.add_zero] at h1
theorem rhas_c (w : World) (L : List HP) (sv : Value) (l : List Int) (n : Int) (hO : Own w L) (hs : ∀ w', Own w' L → Rd w' 1 sv l.length (ints l)) :
    Calls Try.prog 67 #[sv, .int .i64 n] w (Ret w (.bool (l.contains n)) L) := by
  have HS := Lib.hid hs
  obtain ⟨B, bcap, rfl⟩ := (hs w hO).slice
  have hmb := (hs w hO).max
  clear hs
  go_enter Try.func67, Try.ntmps67
  go_wp2
  go_loopw [5] (fun i wr => ∃ k : Nat, k ≤ l.length ∧ i = .int .i64 k ∧ (∀ x ∈ l.take k, (x = n) = False) ∧ Own wr L ∧ Same w wr) (fun i _ => l.length - (intOf i).toNat)
  case atStart => exact ⟨0, Nat.zero_le _, rfl, by simp, hO, Same.refl _⟩
  case round =>
    clear hO
    obtain ⟨k, hk, rfl, hno, hO, hS⟩ := hrel
    have HNO := Lib.hid hno
    clear hno
    by_cases hlt : k < l.length
    · obtain ⟨x, hx⟩ : ∃ x, l[k]? = some x := ⟨_, List.getElem?_eq_getElem hlt⟩
      obtain ⟨ad, rfl⟩ := (HS.out _ hO).addr (by unfold ints; rw [List.length_map]; omega)
      have hcell := rdI_cell (HS.out _ hO) hx
      have hm1 : (k : Int) < l.length := by omega
      have HX := Lib.hid hx
      clear hx
      by_cases he : x = n
      · subst he
        go_wp2
        go_ret
        exact ⟨congrArg Ending.returned (congrArg Value.bool (by simpa using List.mem_of_getElem? HX.out)), hO, hS⟩
      · have he2 : (x = n) = False := eq_false he
        have he3 : (x == n) = false := by simp [he]
        have HE := Lib.hid he2
        clear he
        go_wp2
        go_roundw
        case rel =>
          refine ⟨k + 1, by omega, by go_num, fun y hy => ?_, hO, hS⟩
          rw [List.take_add_one, HX.out] at hy
          rcases List.mem_append.1 hy with h | h
          · exact HNO.out y h
          · simp at h; rw [h]; exact HE.out
        case measure => simp [intOf]; omega
    · have hke : k = l.length := by omega
      subst hke
      go_wp2
      go_ret
      refine ⟨congrArg Ending.returned (congrArg Value.bool ?_), hO, hS⟩
      have := HNO.out
      rw [List.take_length] at this
      symm
      rw [List.contains_eq_mem, decide_eq_false_iff_not]
      intro h
      exact (this n h).mp rfl
theorem rsame_c (w : World) (L : List HP) (u v : Value) (l : List Int) (hO : Own w L) (hu : ∀ w', Own w' L → Rd w' 1 u l.length (ints l)) (hv : ∀ w', Own w' L → Rd w' 1 v l.length (ints l)) :
    Calls Try.prog 47 #[u, v] w (Ret w (.bool true) L) := by
  have HU := Lib.hid hu
  have HV := Lib.hid hv
  obtain ⟨B, bcap, rfl⟩ := (hu w hO).slice
  obtain ⟨C, ccap, rfl⟩ := (hv w hO).slice
  have hmb := (hu w hO).max
  have hmc := (hv w hO).max
  clear hu hv
  go_enter Try.func47, Try.ntmps47
  go_wp2
  go_loopw [5] (fun i wr => ∃ k : Nat, k ≤ l.length ∧ i = .int .i64 k ∧ Own wr L ∧ Same w wr) (fun i _ => l.length - (intOf i).toNat)
  case atStart => exact ⟨0, Nat.zero_le _, rfl, hO, Same.refl _⟩
  case round =>
    clear hO
    obtain ⟨k, hk, rfl, hO, hS⟩ := hrel
    by_cases hlt : k < l.length
    · obtain ⟨x, hx⟩ : ∃ x, l[k]? = some x := ⟨_, List.getElem?_eq_getElem hlt⟩
      obtain ⟨ad, rfl⟩ := (HU.out _ hO).addr (by unfold ints; rw [List.length_map]; omega)
      obtain ⟨ae, rfl⟩ := (HV.out _ hO).addr (by unfold ints; rw [List.length_map]; omega)
      have HC : Hid (∀ w', Own w' L → w'.cell? (ad.add k) = some (.int .i64 x) ∧ w'.cell? (ae.add k) = some (.int .i64 x)) := fun w' h => ⟨rdI_cell (HU.out _ h) hx, rdI_cell (HV.out _ h) hx⟩
      have hm1 : (k : Int) < l.length := by omega
      clear hx
      go_upto_region 6 with fail
      refine wp_region_seq (Cls wr (L)) 8 26 mixed (by kernel_rfl) rfl (cls_drew hO) ?_
      simp only [List.append_eq, List.cons_append, List.nil_append, List.take_succ_cons, List.take_zero]
      repeat (first
        | (apply wv_skip rfl; simp only [Act.put, List.setIfInBounds_toArray, List.set_cons_zero, List.set_cons_succ])
        | (refine wv_load1_at (ad := ad.add k) (v := .int .i64 x) rfl rfl rfl row_int (fun w h => (HC.out w h.1).1) ?_; simp only [Act.put, List.setIfInBounds_toArray, List.set_cons_zero, List.set_cons_succ])
        | (refine wv_load1_at (ad := ae.add k) (v := .int .i64 x) rfl rfl rfl row_int (fun w h => (HC.out w h.1).2) ?_; simp only [Act.put, List.setIfInBounds_toArray, List.set_cons_zero, List.set_cons_succ])
        | (apply wv_load1 rfl rfl rfl; (first | exact row_int | exact row_str | exact row_bool | exact row_u8 | exact row_bys | exact row_pats | exact row_err); (intro w h; (first | exact own_get 0 h.1 rfl | exact own_get 1 h.1 rfl | exact own_get 2 h.1 rfl | exact own_get 3 h.1 rfl | exact own_get 4 h.1 rfl | exact own_get 5 h.1 rfl | exact own_get 6 h.1 rfl | exact own_get 7 h.1 rfl)); (first | (simp only [List.getElem?_toArray, List.getElem?_cons_succ, List.getElem?_cons_zero]; rfl) | rfl); simp only [Act.put, List.setIfInBounds_toArray, List.set_cons_zero, List.set_cons_succ])
        | (apply wv_loadrow rfl rfl rfl; (first | exact row_pat); exact sz_pat; (intro w h; (first | exact own_get 0 h.1 rfl | exact own_get 1 h.1 rfl | exact own_get 2 h.1 rfl | exact own_get 3 h.1 rfl | exact own_get 4 h.1 rfl | exact own_get 5 h.1 rfl | exact own_get 6 h.1 rfl | exact own_get 7 h.1 rfl)); (focus (simp; done)); (first | (simp only [List.drop_zero, List.drop_succ_cons, List.take_succ_cons, List.take_zero]; rfl) | rfl); simp only [Act.put, List.setIfInBounds_toArray, List.set_cons_zero, List.set_cons_succ])
        | (apply wv_run rfl; (focus (intro w h; go_simp; first | done | rfl)); simp only [Act.put, List.setIfInBounds_toArray, List.set_cons_zero, List.set_cons_succ])
        | (apply wv_call rfl; (focus (intro w; go_simp; first | done | exact ⟨rfl, rfl⟩)); (focus (intro w h; apply cls_call h; fail)); simp only [Act.put, List.setIfInBounds_toArray, List.set_cons_zero, List.set_cons_succ]))
      refine wv_nil ?_
      simp only [List.drop_succ_cons, List.drop_zero]
      intro w6 ⟨hO6, hS6⟩
      clear hO
      go_wp2
      go_roundw
      case rel => exact ⟨k + 1, by omega, by go_num, hO6, hS.trans hS6⟩
      case measure => simp [intOf]; omega
    · have hke : k = l.length := by omega
      subst hke
      go_wp2
      go_ret
      exact ⟨rfl, hO, hS⟩
theorem rmeet_c (w : World) (L : List HP) (a0 a1 b0 b1 : Int) (s t : ByteArray) (hO : Own w L) :
    Calls Try.prog 66 #[.agg #[.int .i64 a0, .int .i64 a1, .string s], .agg #[.int .i64 b0, .int .i64 b1, .string t]] w (Ret w (.bool (overB ⟨a0, a1, s⟩ ⟨a0, b1, t⟩)) L) := by
  go_enter Try.func66, Try.ntmps66
  go_wp2_with (first | (refine own_box_agg (x := .tmp 0) rfl rfl rfl hO ?_; clear hO; intro b w1 hO hS1) | (refine own_box_agg (x := .tmp 1) rfl rfl rfl hO ?_; clear hO; intro b' w2 hO hS2) | (refine own_load1 (b := b) (off := 0) (cs := #[.int .i64 a0, .int .i64 a1, .string s]) (t := 33) (v := .int .i64 a0) rfl rfl rfl row_int (own_get 1 hO rfl) rfl ?_) | (refine own_store1 (k := 0) (b := b') (off := 0) (cs' := #[.int .i64 a0, .int .i64 b1, .string t]) rfl rfl rfl rfl sz_i64 hO rfl rfl (by simp) rfl ?_; clear hO; intro w4 hO hS4; simp only [List.set_cons_zero, List.set_cons_succ] at hO) | (apply own_loadrow rfl rfl rfl; (first | exact row_pat); exact sz_pat; (first | exact own_get 0 hO rfl | exact own_get 1 hO rfl | exact own_get 2 hO rfl | exact own_get 3 hO rfl | exact own_get 4 hO rfl | exact own_get 5 hO rfl | exact own_get 6 hO rfl | exact own_get 7 hO rfl); (focus (simp; done)); (first | (simp only [List.drop_zero, List.drop_succ_cons, List.take_succ_cons, List.take_zero]; rfl) | rfl)) | (go_at_call 71; refine (rover_c _ _ a0 a1 a0 b1 s t hO).mono ?_; clear hO; rintro e w5 ⟨rfl, hO, hS5⟩))
  go_ret
  exact ⟨rfl, own_drop (own_drop hO), hS1.trans (hS2.trans (hS4.trans hS5))⟩
theorem over_meet {p q : Pat} (hp : rightB p = true) (hq : rightB q = true) : overB p ⟨p.blk, q.off, q.dat⟩ = meetB p q := by
  have h : rightB ⟨p.blk, q.off, q.dat⟩ = true := by
    rw [rightB_iff] at hp hq ⊢
    exact ⟨hp.1, hp.2.1, hq.2.2.1, hq.2.2.2.1, hq.2.2.2.2.1, hq.2.2.2.2.2⟩
  unfold overB meetB
  rw [hp, h]
  simp
theorem rmeet_v (w : World) (L : List HP) (p q : Pat) {r : Bool} (hp : rightB p = true) (hq : rightB q = true) (hr : meetB p q = r) (hO : Own w L) :
    Calls Try.prog 66 #[.agg #[.int .i64 p.blk, .int .i64 p.off, .string p.dat], .agg #[.int .i64 q.blk, .int .i64 q.off, .string q.dat]] w (Ret w (.bool r) L) := by
  have h := rmeet_c w L p.blk p.off q.blk q.off p.dat q.dat hO
  rw [over_meet hp hq, hr] at h
  exact h
end Go.Proofs.Ytdcbfdepkbplbaa.H
set_option linter.unusedVariables false
set_option linter.unusedSimpArgs false
set_option maxRecDepth 100000
namespace Go.Proofs.Ytdcbfdepkbplbaa.H
open Go.RowKit
section
variable (w : World) (L : List HP) (q : Nat) (vb vl : Value) (m : Stk)
/-- What Get hands back. -/
def GetPost (w : World) (L : List HP) (l : List On) (n : Int) (e : Ending) (w' : World) : Prop :=
  (∃ (i : Nat) (o : On), l[i]? = some o ∧ (o.n : Int) = n ∧ Ret w (.tuple #[.agg #[.int .i64 o.p.blk, .int .i64 o.p.off, .string o.p.dat], .bool true]) L e w') ∨
  ((∀ o ∈ l, ((o.n : Int) = n) = False) ∧ Ret w (.tuple #[.agg #[.int .i64 0, .int .i64 0, .string ⟨#[]⟩], .bool false]) L e w')
set_option maxHeartbeats 800000 in
theorem rget_c (n : Int) (hO : Own w L) (hr : ∀ w', Own w' L → RAt w' q vb vl m) (hlen : m.l.length ≤ 200) :
    Calls Try.prog 46 #[.pointer (some ⟨q, 0, none⟩), .int .i64 n] w (GetPost w L m.l n) := by
  have HR := Lib.hid hr
  obtain ⟨A, cap, rfl⟩ := (hr w hO).rd.slice
  have hm := (hr w hO).rd.max
  clear hr
  go_enter Try.func46, Try.ntmps46
  go_wp2_with (refine own_alloc (T := 33) rfl rfl zero_pat rfl hO ?_; clear hO; intro g w2 hO hS2)
  go_loopw [6] (fun i wr => ∃ k : Nat, k ≤ m.l.length ∧ i = .int .i64 k ∧ (∀ o ∈ m.l.take k, ((o.n : Int) = n) = False) ∧ Own wr (pts g (.cells #[.int .i64 0, .int .i64 0, .string ⟨#[]⟩] 33) :: L) ∧ Same w wr) (fun i _ => m.l.length - (intOf i).toNat)
  case atStart => exact ⟨0, Nat.zero_le _, rfl, by simp, hO, hS2⟩
  case round =>
    clear hO hS2
    obtain ⟨k, hk, rfl, hno, hO, hS⟩ := hrel
    have HNO := Lib.hid hno
    clear hno
    by_cases hlt : k < m.l.length
    · obtain ⟨o, ho⟩ : ∃ o, m.l[k]? = some o := ⟨_, List.getElem?_eq_getElem hlt⟩
      obtain ⟨ad, rfl, _⟩ := (HR.out _ (own_drop hO)).some ho
      obtain ⟨hc1, hc2, hc3⟩ := (HR.out _ (own_drop hO)).cell ho
      have HC3 := Lib.hid hc3
      have hm1 : (k : Int) < m.l.length := by omega
      have HX := Lib.hid ho
      clear ho hc3
      by_cases he : (o.n : Int) = n
      · subst he
        go_wp2_with (first | (refine own_load1 (b := q) (off := 1) (cs := #[vb, .slice (some ad) m.l.length cap, .int .i64 m.next]) (t := 86) (v := .slice (some ad) m.l.length cap) rfl rfl rfl row_ons (HR.out _ (own_drop hO)).blk rfl ?_) | (refine own_loadrow_at (ad := (ad.add (k * 4)).add 1) (vs := [.int .i64 o.p.blk, .int .i64 o.p.off, .string o.p.dat]) rfl rfl rfl row_pat sz_pat rfl HC3.out ?_) | (refine own_store_all (k := 0) (vs := #[.int .i64 o.p.blk, .int .i64 o.p.off, .string o.p.dat]) rfl rfl rfl rfl sz_pat hO rfl rfl rfl rfl ?_; clear hO; intro w6 hO hS6; simp only [List.set_cons_zero] at hO))
        exact bodyPost_ret (results_cell_tmp rfl rfl (own_get 0 hO rfl) row_pat sz_pat) rfl (.inl ⟨k, o, HX.out, rfl, rfl, own_drop hO, hS.trans hS6⟩)
      · have he2 : ((o.n : Int) = n) = False := eq_false he
        have he3 : ((o.n : Int) == n) = false := by simp [he]
        have HE := Lib.hid he2
        clear he
        go_wp2_with (first | (refine own_load1 (b := q) (off := 1) (cs := #[vb, .slice (some ad) m.l.length cap, .int .i64 m.next]) (t := 86) (v := .slice (some ad) m.l.length cap) rfl rfl rfl row_ons (HR.out _ (own_drop hO)).blk rfl ?_))
        go_roundw
        case rel =>
          refine ⟨k + 1, by omega, by go_num, fun y hy => ?_, hO, hS⟩
          rw [List.take_add_one, HX.out] at hy
          rcases List.mem_append.1 hy with h | h
          · exact HNO.out y h
          · simp at h; rw [h]; exact HE.out
        case measure => simp [intOf]; omega
    · have hke : k = m.l.length := by omega
      subst hke
      go_wp2_with (first | (refine own_load1 (b := q) (off := 1) (cs := #[vb, .slice A m.l.length cap, .int .i64 m.next]) (t := 86) (v := .slice A m.l.length cap) rfl rfl rfl row_ons (HR.out _ (own_drop hO)).blk rfl ?_) | (refine own_store_all (k := 0) rfl rfl rfl rfl sz_pat hO rfl rfl rfl rfl ?_; clear hO; intro w6 hO hS6; simp only [List.set_cons_zero] at hO))
      exact bodyPost_ret (results_cell_tmp rfl rfl (own_get 0 hO rfl) row_pat sz_pat) rfl (.inr ⟨by have := HNO.out; rwa [List.take_length] at this, rfl, own_drop hO, hS.trans hS6⟩)
theorem asc_at {l : List On} (h : l.Pairwise fun a b => a.n < b.n) {i k : Nat} {a b : On} (hi : l[i]? = some a) (hk : l[k]? = some b) (he : a.n = b.n) : i = k ∧ a = b := by
  obtain ⟨h1, h2⟩ := List.getElem?_eq_some_iff.1 hi
  obtain ⟨h3, h4⟩ := List.getElem?_eq_some_iff.1 hk
  rw [List.pairwise_iff_getElem] at h
  have e : i = k := by
    rcases Nat.lt_trichotomy i k with hlt | rfl | hlt
    · have := h i k h1 h3 hlt; rw [h2, h4] at this; omega
    · rfl
    · have := h k i h3 h1 hlt; rw [h2, h4] at this; omega
  subst e
  exact ⟨rfl, by rw [← h2, ← h4]⟩
theorem rget_yes (i : Nat) (o : On) (hO : Own w L) (hr : ∀ w', Own w' L → RAt w' q vb vl m) (hk : m.Ok) (ho : m.l[i]? = some o) :
    Calls Try.prog 46 #[.pointer (some ⟨q, 0, none⟩), .int .i64 o.n] w (Ret w (.tuple #[.agg #[.int .i64 o.p.blk, .int .i64 o.p.off, .string o.p.dat], .bool true]) L) :=
  (rget_c w L q vb vl m o.n hO hr hk.len).mono fun e w' h => by
    rcases h with ⟨k, o', h1, h2, h3⟩ | ⟨h1, _⟩
    · obtain ⟨_, rfl⟩ := asc_at hk.asc ho h1 (by omega)
      exact h3
    · exact ((h1 o (List.mem_of_getElem? ho)).mp rfl).elim
theorem rget_no (n : Int) (hO : Own w L) (hr : ∀ w', Own w' L → RAt w' q vb vl m) (hk : m.Ok) (hno : ∀ o ∈ m.l, (o.n : Int) ≠ n) :
    Calls Try.prog 46 #[.pointer (some ⟨q, 0, none⟩), .int .i64 n] w (Ret w (.tuple #[.agg #[.int .i64 0, .int .i64 0, .string ⟨#[]⟩], .bool false]) L) :=
  (rget_c w L q vb vl m n hO hr hk.len).mono fun e w' h => by
    rcases h with ⟨k, o', h1, h2, h3⟩ | ⟨_, h2⟩
    · exact (hno _ (List.mem_of_getElem? h1) h2).elim
    · exact h2
theorem onums_take {l : List On} {k : Nat} {d : On} (hd : l[k]? = some d) : ((l.take k).map fun c => Value.int .i64 c.n) ++ [Value.int .i64 d.n] = (l.take (k + 1)).map fun c => Value.int .i64 c.n := by
  obtain ⟨h1, h2⟩ := List.getElem?_eq_some_iff.1 hd
  rw [List.take_succ_eq_append_getElem h1, h2, List.map_append]
  rfl
set_option maxHeartbeats 800000 in
theorem rwaiting_c (hO : Own w L) (hr : ∀ w', Own w' L → RAt w' q vb vl m) (hlen : m.l.length ≤ 200) :
    Calls Try.prog 44 #[.pointer (some ⟨q, 0, none⟩)] w (RetX w (fun x => x) (fun x => owns 3 1 x m.l.length (m.l.map fun c => .int .i64 c.n) :: L)) := by
  have HR := Lib.hid hr
  obtain ⟨A, cap, rfl⟩ := (hr w hO).rd.slice
  have hm := (hr w hO).rd.max
  have HLEN : Hid (m.l.length ≤ 200) := hlen
  clear hr hlen
  go_enter Try.func44, Try.ntmps44
  go_wp2
  go_loopw [3, 4] (fun o i wr => ∃ k : Nat, k ≤ m.l.length ∧ i = .int .i64 k ∧ Own wr (owns 3 1 o k ((m.l.take k).map fun c => Value.int .i64 c.n) :: L) ∧ Same w wr) (fun _ i _ => m.l.length - (intOf i).toNat)
  case atStart => exact ⟨0, Nat.zero_le _, rfl, owns_nil hO, Same.refl _⟩
  case round =>
    clear hO
    obtain ⟨k, hk, rfl, hO, hS⟩ := hrel
    by_cases hlt : k < m.l.length
    · obtain ⟨o, ho⟩ : ∃ o, m.l[k]? = some o := ⟨_, List.getElem?_eq_getElem hlt⟩
      obtain ⟨ad, rfl, _⟩ := (HR.out _ (own_drop hO)).some ho
      obtain ⟨hc1, hc2, hc3⟩ := (HR.out _ (own_drop hO)).cell ho
      have hm1 : (k : Int) < m.l.length := by omega
      have HX := Lib.hid ho
      clear ho hc3
      go_wp2_with (first | (refine own_load1 (b := q) (off := 1) (cs := #[vb, .slice (some ad) m.l.length cap, .int .i64 m.next]) (t := 86) (v := .slice (some ad) m.l.length cap) rfl rfl rfl row_ons (HR.out _ (own_drop hO)).blk rfl ?_) | (refine own_append (m := 1) (n := k) (xs := ((m.l.take k).map fun c => Value.int .i64 c.n)) (news := [.int .i64 o.n]) rfl rfl rfl rfl Try.underlying24 info_int3 rfl (by decide) (own_perm (own_alloc_new hO (.cells #[.int .i64 o.n] 3)) (List.Perm.swap _ _ _)) ?_ (int_one _) ?_ ?_ ?_; (exact rd_block (own_get 1 (own_perm (own_alloc_new hO (.cells #[.int .i64 o.n] 3)) (List.Perm.swap _ _ _)) rfl) rfl (by simp) (by simp) (by simp)); (have := HLEN.out; unfold maxLen; omega); (have := HLEN.out; omega); clear hO; intro v' w9 hO hS9 hv'))
      go_roundw
      case rel => exact ⟨k + 1, by omega, by go_num, by rw [← onums_take HX.out]; exact own_skip hO, hS.trans ((Same.alloc _ _).trans hS9)⟩
      case measure => simp [intOf]; omega
    · have hke : k = m.l.length := by omega
      subst hke
      go_wp2_with (first | (refine own_load1 (b := q) (off := 1) (cs := #[vb, .slice A m.l.length cap, .int .i64 m.next]) (t := 86) (v := .slice A m.l.length cap) rfl rfl rfl row_ons (HR.out _ (own_drop hO)).blk rfl ?_))
      go_ret
      refine ⟨_, rfl, ?_, hS⟩
      rw [List.take_length] at hO
      exact hO
end
end Go.Proofs.Ytdcbfdepkbplbaa.H
set_option linter.unusedVariables false
set_option linter.unusedSimpArgs false
set_option maxRecDepth 100000
namespace Go.Proofs.Ytdcbfdepkbplbaa.H
open Go.RowKit
def needF (o : On) (x : On) : Bool := decide (x.n < o.n) && meetB x.p o.p
/-- The numbers of those that one needs. -/
def needsM (l : List On) (o : On) : List Nat := (l.filter (needF o)).map On.n
theorem needs_step {l : List On} {k : Nat} {o d : On} (hd : l[k]? = some d) : needsM (l.take (k + 1)) o = needsM (l.take k) o ++ (if needF o d then [d.n] else []) := by
  obtain ⟨h1, h2⟩ := List.getElem?_eq_some_iff.1 hd
  unfold needsM
  rw [List.take_succ_eq_append_getElem h1, h2, List.filter_append, List.map_append]
  congr 1
  by_cases h : needF o d = true <;> simp [List.filter_cons, h]
theorem needs_len (l : List On) (o : On) (k : Nat) : (needsM (l.take k) o).length ≤ l.length := by
  unfold needsM
  rw [List.length_map]
  exact Nat.le_trans (List.length_filter_le _ _) (by rw [List.length_take]; omega)
section
variable (w : World) (L : List HP) (q : Nat) (vb vl : Value) (m : Stk)
set_option maxHeartbeats 1600000 in
theorem rneeds_yes (i : Nat) (o : On) (hO : Own w L) (hr : ∀ w', Own w' L → RAt w' q vb vl m) (hk : m.Ok) (ho : m.l[i]? = some o) :
    Calls Try.prog 48 #[.pointer (some ⟨q, 0, none⟩), .int .i64 o.n] w (RetX w (fun x => x) (fun x => owns 3 1 x (needsM m.l o).length (numV (needsM m.l o)) :: L)) := by
  have HR := Lib.hid hr
  have HK := Lib.hid hk
  have HI := Lib.hid ho
  obtain ⟨A, cap, rfl⟩ := (hr w hO).rd.slice
  have hm := (hr w hO).rd.max
  clear hr hk ho
  go_enter Try.func48, Try.ntmps48
  go_wp2_with (first | (go_at_call 46; refine (rget_yes _ _ q vb _ m i o hO HR.out HK.out HI.out).mono ?_; clear hO; rintro e w1 ⟨rfl, hO, hS1⟩) | (refine own_alloc (T := 33) rfl rfl zero_pat rfl hO ?_; clear hO; intro g w2 hO hS2) | (refine own_store_all (k := 0) (vs := #[.int .i64 o.p.blk, .int .i64 o.p.off, .string o.p.dat]) rfl rfl rfl rfl sz_pat hO rfl rfl rfl rfl ?_; clear hO; intro w3 hO hS3; simp only [List.set_cons_zero] at hO))
  go_loopw [5, 8] (fun v i' wr => ∃ k : Nat, k ≤ m.l.length ∧ i' = .int .i64 k ∧ Own wr (owns 3 1 v (needsM (m.l.take k) o).length (numV (needsM (m.l.take k) o)) :: pts g (.cells #[.int .i64 o.p.blk, .int .i64 o.p.off, .string o.p.dat] 33) :: L) ∧ Same w wr) (fun _ i' _ => m.l.length - (intOf i').toNat)
  case atStart => exact ⟨0, Nat.zero_le _, rfl, by rw [List.take_zero]; exact owns_nil hO, hS1.trans (hS2.trans hS3)⟩
  case round =>
    clear hO hS1 hS2 hS3
    obtain ⟨k, hk, rfl, hO, hS⟩ := hrel
    by_cases hlt : k < m.l.length
    · obtain ⟨d, hd⟩ : ∃ d, m.l[k]? = some d := ⟨_, List.getElem?_eq_getElem hlt⟩
      obtain ⟨ad, rfl, _⟩ := (HR.out _ (own_drop (own_drop hO))).some hd
      have HX := Lib.hid hd
      have HCELL : Hid (∀ w' S, Own w' (S :: pts g (.cells #[.int .i64 o.p.blk, .int .i64 o.p.off, .string o.p.dat] 33) :: L) → w'.heap[q]? = some (.cells #[vb, .slice (some ad) m.l.length cap, .int .i64 m.next] 86) ∧ w'.cell? (ad.add (k * 4)) = some (.int .i64 d.n) ∧ w'.cell? ((ad.add (k * 4)).add 0) = some (.int .i64 d.n) ∧ ∀ (j : Nat) (u : Value), [Value.int .i64 d.p.blk, .int .i64 d.p.off, .string d.p.dat][j]? = some u → w'.cell? (((ad.add (k * 4)).add 1).add j) = some u) := fun w' S h => ⟨(HR.out _ (own_drop (own_drop h))).blk, (HR.out _ (own_drop (own_drop h))).cell hd⟩
      have hm1 : (k : Int) < m.l.length := by omega
      have HRD : Hid (rightB d.p = true) := HK.out.right d (List.mem_of_getElem? hd)
      have HRO : Hid (rightB o.p = true) := HK.out.right o (List.mem_of_getElem? HI.out)
      have HLE : Hid ((needsM (m.l.take k) o).length ≤ 200) := Nat.le_trans (needs_len _ _ _) HK.out.len
      have HST := Lib.hid (needs_step (o := o) hd)
      clear hd
      by_cases hn : d.n < o.n
      · have hn1 : (d.n : Int) < o.n := by omega
        by_cases hmt : meetB d.p o.p = true
        · have HMT := Lib.hid hmt
          have HNF : Hid (needF o d = true) := by show _ = _; simp [needF, hn, hmt]
          clear hmt
          go_upto_region 6 with (first | (refine own_load1 (b := q) (off := 1) (cs := #[vb, .slice (some ad) m.l.length cap, .int .i64 m.next]) (t := 86) (v := .slice (some ad) m.l.length cap) rfl rfl rfl row_ons (HCELL.out _ _ hO).1 rfl ?_))
          refine wp_region_seq (Cls wr (_)) 21 61 mixed (by kernel_rfl) rfl (cls_drew hO) ?_
          simp only [List.append_eq, List.cons_append, List.nil_append, List.take_succ_cons, List.take_zero]
          repeat (first
            | (apply wv_skip rfl; simp only [Act.put, List.setIfInBounds_toArray, List.set_cons_zero, List.set_cons_succ])
            | (refine wv_load1 (b := q) (off := 1) (cs := #[vb, .slice (some ad) m.l.length cap, .int .i64 m.next]) (t := 86) (v := .slice (some ad) m.l.length cap) rfl rfl rfl row_ons (fun w h => (HCELL.out _ _ h.1).1) rfl ?_; simp only [Act.put, List.setIfInBounds_toArray, List.set_cons_zero, List.set_cons_succ])
            | (refine wv_load1_at (ad := (ad.add (k * 4)).add 0) (v := .int .i64 d.n) rfl rfl rfl row_int (fun w h => (HCELL.out w _ h.1).2.2.1) ?_; simp only [Act.put, List.setIfInBounds_toArray, List.set_cons_zero, List.set_cons_succ])
            | (refine wv_loadrow_at (vs := [.int .i64 d.p.blk, .int .i64 d.p.off, .string d.p.dat]) (ad := (ad.add (k * 4)).add 1) rfl rfl rfl row_pat sz_pat rfl (fun w h => (HCELL.out w _ h.1).2.2.2) ?_; simp only [Act.put, List.setIfInBounds_toArray, List.set_cons_zero, List.set_cons_succ])
            | (refine wv_loadrow (b := g) (off := 0) (cs := #[.int .i64 o.p.blk, .int .i64 o.p.off, .string o.p.dat]) (t := 33) (vs := [.int .i64 o.p.blk, .int .i64 o.p.off, .string o.p.dat]) rfl rfl rfl row_pat sz_pat (fun w h => own_get 1 h.1 rfl) (by simp) rfl ?_; simp only [Act.put, List.setIfInBounds_toArray, List.set_cons_zero, List.set_cons_succ])
            | (apply wv_load1 rfl rfl rfl; (first | exact row_int | exact row_str | exact row_bool | exact row_u8 | exact row_bys | exact row_pats | exact row_err); (intro w h; (first | exact own_get 0 h.1 rfl | exact own_get 1 h.1 rfl | exact own_get 2 h.1 rfl | exact own_get 3 h.1 rfl | exact own_get 4 h.1 rfl | exact own_get 5 h.1 rfl | exact own_get 6 h.1 rfl | exact own_get 7 h.1 rfl)); (first | (simp only [List.getElem?_toArray, List.getElem?_cons_succ, List.getElem?_cons_zero]; rfl) | rfl); simp only [Act.put, List.setIfInBounds_toArray, List.set_cons_zero, List.set_cons_succ])
            | (apply wv_loadrow rfl rfl rfl; (first | exact row_pat); exact sz_pat; (intro w h; (first | exact own_get 0 h.1 rfl | exact own_get 1 h.1 rfl | exact own_get 2 h.1 rfl | exact own_get 3 h.1 rfl | exact own_get 4 h.1 rfl | exact own_get 5 h.1 rfl | exact own_get 6 h.1 rfl | exact own_get 7 h.1 rfl)); (focus (simp; done)); (first | (simp only [List.drop_zero, List.drop_succ_cons, List.take_succ_cons, List.take_zero]; rfl) | rfl); simp only [Act.put, List.setIfInBounds_toArray, List.set_cons_zero, List.set_cons_succ])
            | (apply wv_run rfl; (focus (intro w h; go_simp; first | done | rfl)); simp only [Act.put, List.setIfInBounds_toArray, List.set_cons_zero, List.set_cons_succ])
            | (apply wv_call rfl; (focus (intro w; go_simp; first | done | exact ⟨rfl, rfl⟩)); (focus (intro w h; apply cls_call h; exact rmeet_v _ _ d.p o.p HRD.out HRO.out HMT.out h.1)); simp only [Act.put, List.setIfInBounds_toArray, List.set_cons_zero, List.set_cons_succ]))
          refine wv_nil ?_
          simp only [List.drop_succ_cons, List.drop_zero]
          intro w6 ⟨hO6, hS6⟩
          clear hO
          have hO := hO6
          clear hO6
          have hc1 := (HCELL.out _ _ hO).2.1
          have hc2 := (HCELL.out _ _ hO).2.2.1
          go_wp2_with (first | (refine own_load1 (b := q) (off := 1) (cs := #[vb, .slice (some ad) m.l.length cap, .int .i64 m.next]) (t := 86) (v := .slice (some ad) m.l.length cap) rfl rfl rfl row_ons (HCELL.out _ _ hO).1 rfl ?_) | (refine own_append (m := 1) (n := (needsM (m.l.take k) o).length) (xs := (numV (needsM (m.l.take k) o))) (news := [.int .i64 d.n]) rfl rfl rfl rfl Try.underlying24 info_int3 rfl (by decide) (own_perm (own_alloc_new hO (.cells #[.int .i64 d.n] 3)) (List.Perm.swap _ _ _)) ?_ (int_one _) ?_ ?_ ?_; (exact rd_block (own_get 1 (own_perm (own_alloc_new hO (.cells #[.int .i64 d.n] 3)) (List.Perm.swap _ _ _)) rfl) rfl (by simp) (by simp) (by simp)); (have := HLE.out; unfold maxLen; omega); (have := HLE.out; omega); clear hO; intro v' w9 hO hS9 hv'))
          go_roundw
          case rel =>
            refine ⟨k + 1, by omega, by go_num, ?_, hS.trans (hS6.trans ((Same.alloc _ _).trans hS9))⟩
            rw [HST.out, HNF.out, if_pos rfl, List.length_append]
            unfold numV
            rw [List.map_append]
            exact own_skip hO
          case measure => simp [intOf]; omega
        · have HMT : Hid (meetB d.p o.p = false) := by show _ = _; simpa using hmt
          have HNF : Hid (needF o d = false) := by show _ = _; simp [needF, hmt]
          clear hmt
          go_upto_region 6 with (first | (refine own_load1 (b := q) (off := 1) (cs := #[vb, .slice (some ad) m.l.length cap, .int .i64 m.next]) (t := 86) (v := .slice (some ad) m.l.length cap) rfl rfl rfl row_ons (HCELL.out _ _ hO).1 rfl ?_))
          refine wp_region_seq (Cls wr (_)) 21 61 mixed (by kernel_rfl) rfl (cls_drew hO) ?_
          simp only [List.append_eq, List.cons_append, List.nil_append, List.take_succ_cons, List.take_zero]
          repeat (first
            | (apply wv_skip rfl; simp only [Act.put, List.setIfInBounds_toArray, List.set_cons_zero, List.set_cons_succ])
            | (refine wv_load1 (b := q) (off := 1) (cs := #[vb, .slice (some ad) m.l.length cap, .int .i64 m.next]) (t := 86) (v := .slice (some ad) m.l.length cap) rfl rfl rfl row_ons (fun w h => (HCELL.out _ _ h.1).1) rfl ?_; simp only [Act.put, List.setIfInBounds_toArray, List.set_cons_zero, List.set_cons_succ])
            | (refine wv_load1_at (ad := (ad.add (k * 4)).add 0) (v := .int .i64 d.n) rfl rfl rfl row_int (fun w h => (HCELL.out w _ h.1).2.2.1) ?_; simp only [Act.put, List.setIfInBounds_toArray, List.set_cons_zero, List.set_cons_succ])
            | (refine wv_loadrow_at (vs := [.int .i64 d.p.blk, .int .i64 d.p.off, .string d.p.dat]) (ad := (ad.add (k * 4)).add 1) rfl rfl rfl row_pat sz_pat rfl (fun w h => (HCELL.out w _ h.1).2.2.2) ?_; simp only [Act.put, List.setIfInBounds_toArray, List.set_cons_zero, List.set_cons_succ])
            | (refine wv_loadrow (b := g) (off := 0) (cs := #[.int .i64 o.p.blk, .int .i64 o.p.off, .string o.p.dat]) (t := 33) (vs := [.int .i64 o.p.blk, .int .i64 o.p.off, .string o.p.dat]) rfl rfl rfl row_pat sz_pat (fun w h => own_get 1 h.1 rfl) (by simp) rfl ?_; simp only [Act.put, List.setIfInBounds_toArray, List.set_cons_zero, List.set_cons_succ])
            | (apply wv_load1 rfl rfl rfl; (first | exact row_int | exact row_str | exact row_bool | exact row_u8 | exact row_bys | exact row_pats | exact row_err); (intro w h; (first | exact own_get 0 h.1 rfl | exact own_get 1 h.1 rfl | exact own_get 2 h.1 rfl | exact own_get 3 h.1 rfl | exact own_get 4 h.1 rfl | exact own_get 5 h.1 rfl | exact own_get 6 h.1 rfl | exact own_get 7 h.1 rfl)); (first | (simp only [List.getElem?_toArray, List.getElem?_cons_succ, List.getElem?_cons_zero]; rfl) | rfl); simp only [Act.put, List.setIfInBounds_toArray, List.set_cons_zero, List.set_cons_succ])
            | (apply wv_loadrow rfl rfl rfl; (first | exact row_pat); exact sz_pat; (intro w h; (first | exact own_get 0 h.1 rfl | exact own_get 1 h.1 rfl | exact own_get 2 h.1 rfl | exact own_get 3 h.1 rfl | exact own_get 4 h.1 rfl | exact own_get 5 h.1 rfl | exact own_get 6 h.1 rfl | exact own_get 7 h.1 rfl)); (focus (simp; done)); (first | (simp only [List.drop_zero, List.drop_succ_cons, List.take_succ_cons, List.take_zero]; rfl) | rfl); simp only [Act.put, List.setIfInBounds_toArray, List.set_cons_zero, List.set_cons_succ])
            | (apply wv_run rfl; (focus (intro w h; go_simp; first | done | rfl)); simp only [Act.put, List.setIfInBounds_toArray, List.set_cons_zero, List.set_cons_succ])
            | (apply wv_call rfl; (focus (intro w; go_simp; first | done | exact ⟨rfl, rfl⟩)); (focus (intro w h; apply cls_call h; exact rmeet_v _ _ d.p o.p HRD.out HRO.out HMT.out h.1)); simp only [Act.put, List.setIfInBounds_toArray, List.set_cons_zero, List.set_cons_succ]))
          refine wv_nil ?_
          simp only [List.drop_succ_cons, List.drop_zero]
          intro w6 ⟨hO6, hS6⟩
          clear hO
          have hO := hO6
          clear hO6
          go_wp2
          go_roundw
          case rel => exact ⟨k + 1, by omega, by go_num, by rw [HST.out, HNF.out]; simpa using hO, hS.trans hS6⟩
          case measure => simp [intOf]; omega
      · have HNF : Hid (needF o d = false) := by show _ = _; simp [needF, hn]
        have hn1 : (d.n < o.n) = False := eq_false hn
        have hn2 : decide (d.n < o.n) = false := by simp [hn]
        clear hn
        have HZ := hn1
        · go_upto_region 6 with (first | (refine own_load1 (b := q) (off := 1) (cs := #[vb, .slice (some ad) m.l.length cap, .int .i64 m.next]) (t := 86) (v := .slice (some ad) m.l.length cap) rfl rfl rfl row_ons (HCELL.out _ _ hO).1 rfl ?_))
          refine wp_region_seq (Cls wr (_)) 21 61 mixed (by kernel_rfl) rfl (cls_drew hO) ?_
          simp only [List.append_eq, List.cons_append, List.nil_append, List.take_succ_cons, List.take_zero]
          repeat (first
            | (apply wv_skip rfl; simp only [Act.put, List.setIfInBounds_toArray, List.set_cons_zero, List.set_cons_succ])
            | (refine wv_load1 (b := q) (off := 1) (cs := #[vb, .slice (some ad) m.l.length cap, .int .i64 m.next]) (t := 86) (v := .slice (some ad) m.l.length cap) rfl rfl rfl row_ons (fun w h => (HCELL.out _ _ h.1).1) rfl ?_; simp only [Act.put, List.setIfInBounds_toArray, List.set_cons_zero, List.set_cons_succ])
            | (refine wv_load1_at (ad := (ad.add (k * 4)).add 0) (v := .int .i64 d.n) rfl rfl rfl row_int (fun w h => (HCELL.out w _ h.1).2.2.1) ?_; simp only [Act.put, List.setIfInBounds_toArray, List.set_cons_zero, List.set_cons_succ])
            | (refine wv_loadrow_at (vs := [.int .i64 d.p.blk, .int .i64 d.p.off, .string d.p.dat]) (ad := (ad.add (k * 4)).add 1) rfl rfl rfl row_pat sz_pat rfl (fun w h => (HCELL.out w _ h.1).2.2.2) ?_; simp only [Act.put, List.setIfInBounds_toArray, List.set_cons_zero, List.set_cons_succ])
            | (refine wv_loadrow (b := g) (off := 0) (cs := #[.int .i64 o.p.blk, .int .i64 o.p.off, .string o.p.dat]) (t := 33) (vs := [.int .i64 o.p.blk, .int .i64 o.p.off, .string o.p.dat]) rfl rfl rfl row_pat sz_pat (fun w h => own_get 1 h.1 rfl) (by simp) rfl ?_; simp only [Act.put, List.setIfInBounds_toArray, List.set_cons_zero, List.set_cons_succ])
            | (apply wv_load1 rfl rfl rfl; (first | exact row_int | exact row_str | exact row_bool | exact row_u8 | exact row_bys | exact row_pats | exact row_err); (intro w h; (first | exact own_get 0 h.1 rfl | exact own_get 1 h.1 rfl | exact own_get 2 h.1 rfl | exact own_get 3 h.1 rfl | exact own_get 4 h.1 rfl | exact own_get 5 h.1 rfl | exact own_get 6 h.1 rfl | exact own_get 7 h.1 rfl)); (first | (simp only [List.getElem?_toArray, List.getElem?_cons_succ, List.getElem?_cons_zero]; rfl) | rfl); simp only [Act.put, List.setIfInBounds_toArray, List.set_cons_zero, List.set_cons_succ])
            | (apply wv_loadrow rfl rfl rfl; (first | exact row_pat); exact sz_pat; (intro w h; (first | exact own_get 0 h.1 rfl | exact own_get 1 h.1 rfl | exact own_get 2 h.1 rfl | exact own_get 3 h.1 rfl | exact own_get 4 h.1 rfl | exact own_get 5 h.1 rfl | exact own_get 6 h.1 rfl | exact own_get 7 h.1 rfl)); (focus (simp; done)); (first | (simp only [List.drop_zero, List.drop_succ_cons, List.take_succ_cons, List.take_zero]; rfl) | rfl); simp only [Act.put, List.setIfInBounds_toArray, List.set_cons_zero, List.set_cons_succ])
            | (apply wv_run rfl; (focus (intro w h; go_simp; first | done | rfl)); simp only [Act.put, List.setIfInBounds_toArray, List.set_cons_zero, List.set_cons_succ])
            | (apply wv_call rfl; (focus (intro w; go_simp; first | done | exact ⟨rfl, rfl⟩)); (focus (intro w h; apply cls_call h; fail)); simp only [Act.put, List.setIfInBounds_toArray, List.set_cons_zero, List.set_cons_succ]))
          refine wv_nil ?_
          simp only [List.drop_succ_cons, List.drop_zero]
          intro w6 ⟨hO6, hS6⟩
          clear hO
          have hO := hO6
          clear hO6
          go_wp2
          go_roundw
          case rel => exact ⟨k + 1, by omega, by go_num, by rw [HST.out, HNF.out]; simpa using hO, hS.trans hS6⟩
          case measure => simp [intOf]; omega
    · have hke : k = m.l.length := by omega
      subst hke
      go_wp2_with (first | (refine own_load1 (b := q) (off := 1) (cs := #[vb, .slice A m.l.length cap, .int .i64 m.next]) (t := 86) (v := .slice A m.l.length cap) rfl rfl rfl row_ons (HR.out _ (own_drop (own_drop hO))).blk rfl ?_))
      go_ret
      refine ⟨_, rfl, ?_, hS⟩
      rw [List.take_length] at hO
      exact own_skip hO
end
end Go.Proofs.Ytdcbfdepkbplbaa.H
