/- ContainsFunc by Add's closures. Pieces of Add: a new entry, an entry more. Add of the program's engine. -/
import Derived.Test.YtonohjhmnlfakaaZ23
set_option linter.unusedVariables false
set_option linter.unusedSimpArgs false
set_option maxRecDepth 100000
namespace Go.Proofs.Ytonohjhmnlfakaa.H
open Go.RowKit
section
variable (w : World) (L : List HP) (be e : Nat) (E : Eng)
set_option maxHeartbeats 800000 in
theorem idxf_form (v : Value) (n : Nat) (is : List Iv) (hn : n = is.length) (hb : ∀ x ∈ is, ∃ A n c, x.2 = .slice A n c) (hO : Own w (beL be e E L)) (hr : ∀ w', Own w' (beL be e E L) → Rd w' 4 v n (cellsI is)) :
    Calls Try.prog 73 #[v, .func (.func 35) #[] #[.pointer (some ⟨be, 0, none⟩)]] w (Ret w (.int .i64 (fidx (fun x => E.formI x.1) is 0)) (beL be e E L)) := by
  subst hn
  have HR := Lib.hid hr
  have HB := Lib.hid hb
  obtain ⟨P, hP⟩ : ∃ P : Iv → Bool, P = fun x => E.formI x.1 := ⟨_, rfl⟩
  rw [← hP]
  have HP := Lib.hid hP
  obtain ⟨A, c, rfl⟩ := (hr w hO).slice
  have hmx := (hr w hO).max
  clear hr hb hP
  go_enter Try.func73, Try.ntmps73
  go_wp2
  go_loopw [8] (fun i wr => ∃ k : Nat, k ≤ is.length ∧ i = .int .i64 k ∧ fidx P is 0 = fidx P (is.drop k) k ∧ Own wr (beL be e E L) ∧ Same w wr) (fun i _ => is.length - (intOf i).toNat)
  case atStart => exact ⟨0, Nat.zero_le _, rfl, rfl, hO, Same.refl _⟩
  case round =>
    clear hO
    obtain ⟨k, hk, rfl, hf, hO, hS⟩ := hrel
    have HF := Lib.hid hf
    clear hf
    by_cases hlt : k < is.length
    · obtain ⟨⟨x, xv⟩, hx⟩ : ∃ y, is[k]? = some y := ⟨_, List.getElem?_eq_getElem hlt⟩
      obtain ⟨A2, n2, c2, e2⟩ := HB.out _ (List.mem_of_getElem? hx)
      have e2 : xv = .slice A2 n2 c2 := e2
      subst e2
      obtain ⟨ad, rfl⟩ := (HR.out _ hO).addr (by rw [cellsI_length]; omega)
      have HC := Lib.hid (item_cells (HR.out _ hO) hx)
      have hm1 : (k : Int) < is.length := by omega
      have HD := Lib.hid (fidx_drop P hx)
      clear hx
      obtain ⟨r, hrr⟩ : ∃ r, P (x, .slice A2 n2 c2) = r := ⟨_, rfl⟩
      have HRR : Hid (E.formI x = r) := by show _ = _; rw [← hrr, HP.out]
      have HCA : Hid (∀ w', Own w' (beL be e E L) → Calls Try.prog 35 #[.agg #[.int .i64 x.p.blk, .int .i64 x.p.off, .string x.p.dat, .slice A2 n2 c2], .pointer (some ⟨be, 0, none⟩)] w' (Ret w' (.bool r) (beL be e E L))) := Lib.hid fun w' h => by rw [← HRR.out]; exact eadd1_c w' L be e E x A2 n2 c2 h
      cases r with
      | true =>
        have HX : Hid (fidx P is 0 = (k : Int)) := by show _ = _; rw [HF.out, HD.out, if_pos hrr]
        clear hrr
        go_wp2_with (first | (refine own_loadrow_at (ad := ad.add (k * 4)) (vs := [.int .i64 x.p.blk, .int .i64 x.p.off, .string x.p.dat, .slice A2 n2 c2]) rfl rfl rfl row_item sz_item rfl HC.out ?_) | (go_at_call 35; (with_reducible refine Calls.mono (HCA.out _ hO) ?_); clear hO; rintro e u ⟨rfl, hO, hSn⟩; replace hS := hS.trans hSn; clear hSn))
        go_ret
        exact ⟨by rw [HX.out]; rfl, hO, hS⟩
      | false =>
        have HX : Hid (fidx P is 0 = fidx P (is.drop (k + 1)) (k + 1)) := by show _ = _; rw [HF.out, HD.out, if_neg (ne_true_of_eq_false hrr)]
        clear hrr
        go_wp2_with (first | (refine own_loadrow_at (ad := ad.add (k * 4)) (vs := [.int .i64 x.p.blk, .int .i64 x.p.off, .string x.p.dat, .slice A2 n2 c2]) rfl rfl rfl row_item sz_item rfl HC.out ?_) | (go_at_call 35; (with_reducible refine Calls.mono (HCA.out _ hO) ?_); clear hO; rintro e u ⟨rfl, hO, hSn⟩; replace hS := hS.trans hSn; clear hSn))
        go_roundw
        case rel => exact ⟨k + 1, by omega, by go_num, HX.out, hO, hS⟩
        case measure => simp [intOf]; omega
    · have hke : k = is.length := by omega
      subst hke
      have HX : Hid (fidx P is 0 = -1) := by show _ = _; rw [HF.out, fidx_end]
      go_wp2
      go_ret
      exact ⟨by rw [HX.out]; rfl, hO, hS⟩
theorem cf_form (v : Value) (n : Nat) (l : List Iv) {r : Bool} (hn : n = l.length) (hb : ∀ x ∈ l, ∃ A n c, x.2 = .slice A n c) (hx : (l.any fun x => E.formI x.1) = r) (hO : Own w (beL be e E L)) (hr : ∀ w', Own w' (beL be e E L) → Rd w' 4 v n (cellsI l)) :
    Calls Try.prog 34 #[v, .func (.func 35) #[] #[.pointer (some ⟨be, 0, none⟩)]] w (Ret w (.bool r) (beL be e E L)) := by
  obtain ⟨P, hP⟩ : ∃ P : Iv → Bool, P = fun x => E.formI x.1 := ⟨_, rfl⟩
  rw [← hP] at hx
  have HIX : ∀ z, z = fidx P l 0 → Hid (Calls Try.prog 73 #[v, .func (.func 35) #[] #[.pointer (some ⟨be, 0, none⟩)]] w (Ret w (.int .i64 z) (beL be e E L))) := fun z hz => Lib.hid (by rw [hz, hP]; exact idxf_form w L be e E v n l hn hb hO hr)
  clear hr hn hb hP
  obtain ⟨z, hz⟩ : ∃ z, z = fidx P l 0 := ⟨_, rfl⟩
  have hd : decide (0 ≤ z) = r := by rw [hz, fidx_any, hx]
  have HI := HIX z hz
  have hS := Same.refl w
  clear hx hz HIX
  cases r with
  | true =>
    have h1 : 0 ≤ z := by simpa using hd
    go_enter Try.func34, Try.ntmps34
    go_wp2_with (first | (go_at_call 73; (with_reducible refine Calls.mono (HI.out) ?_); clear hO; rintro e u ⟨rfl, hO, hSn⟩; replace hS := hS.trans hSn; clear hSn))
    go_ret
    exact ⟨rfl, hO, hS⟩
  | false =>
    have h1 : ¬ (0 ≤ z) := by simpa using hd
    go_enter Try.func34, Try.ntmps34
    go_wp2_with (first | (go_at_call 73; (with_reducible refine Calls.mono (HI.out) ?_); clear hO; rintro e u ⟨rfl, hO, hSn⟩; replace hS := hS.trans hSn; clear hSn))
    go_ret
    exact ⟨rfl, hO, hS⟩
abbrev bdL (be e bi i : Nat) (E : Eng) (L : List HP) : List HP := pts bi (.cells #[.int .i64 i] 3) :: beL be e E L
set_option maxHeartbeats 800000 in
theorem idxf_dep (bi i : Nat) (v : Value) (n : Nat) (is : List Int) (hn : n = is.length) (hb : ∀ x ∈ is, -9223372036854775808 ≤ x) (h6 : E.next ≤ 1000000) (hi : i ≤ 1000000) (hO : Own w (bdL be e bi i E L)) (hr : ∀ w', Own w' (bdL be e bi i E L) → Rd w' 1 v n (zs is)) :
    Calls Try.prog 74 #[v, .func (.func 39) #[] #[.pointer (some ⟨be, 0, none⟩), .pointer (some ⟨bi, 0, none⟩)]] w (Ret w (.int .i64 (fidx (E.depI i) is 0)) (bdL be e bi i E L)) := by
  subst hn
  have HR := Lib.hid hr
  have HB := Lib.hid hb
  have H6 := Lib.hid (And.intro h6 hi)
  obtain ⟨P, hP⟩ : ∃ P : Int → Bool, P = E.depI i := ⟨_, rfl⟩
  rw [← hP]
  have HP := Lib.hid hP
  obtain ⟨A, c, rfl⟩ := (hr w hO).slice
  have hmx := (hr w hO).max
  clear hr hb hP
  go_enter Try.func74, Try.ntmps74
  go_wp2
  go_loopw [8] (fun i2 wr => ∃ k : Nat, k ≤ is.length ∧ i2 = .int .i64 k ∧ fidx P is 0 = fidx P (is.drop k) k ∧ Own wr (bdL be e bi i E L) ∧ Same w wr) (fun i2 _ => is.length - (intOf i2).toNat)
  case atStart => exact ⟨0, Nat.zero_le _, rfl, rfl, hO, Same.refl _⟩
  case round =>
    clear hO
    obtain ⟨k, hk, rfl, hf, hO, hS⟩ := hrel
    have HF := Lib.hid hf
    clear hf
    by_cases hlt : k < is.length
    · obtain ⟨x, hx⟩ : ∃ y, is[k]? = some y := ⟨_, List.getElem?_eq_getElem hlt⟩
      obtain ⟨ad, rfl⟩ := (HR.out _ hO).addr (by unfold zs; rw [List.length_map]; omega)
      have hcell := zs_cell (HR.out _ hO) hx
      have hm1 : (k : Int) < is.length := by omega
      have HD := Lib.hid (fidx_drop P hx)
      have HXB := Lib.hid (HB.out x (List.mem_of_getElem? hx))
      clear hx
      obtain ⟨r, hrr⟩ : ∃ r, P x = r := ⟨_, rfl⟩
      have HRR : Hid (E.depI i x = r) := by show _ = _; rw [← hrr, HP.out]
      have HCA : Hid (∀ w', Own w' (bdL be e bi i E L) → Calls Try.prog 39 #[.int .i64 x, .pointer (some ⟨be, 0, none⟩), .pointer (some ⟨bi, 0, none⟩)] w' (Ret w' (.bool r) (bdL be e bi i E L))) := Lib.hid fun w' h => by rw [← HRR.out]; exact eadd2_c w' L be e E bi i x HXB.out H6.out.1 H6.out.2 h
      cases r with
      | true =>
        have HX : Hid (fidx P is 0 = (k : Int)) := by show _ = _; rw [HF.out, HD.out, if_pos hrr]
        clear hrr
        go_wp2_with (first | (refine own_load1_at (ad := ad.add k) (v := .int .i64 x) rfl rfl rfl row_int hcell ?_) | (go_at_call 39; (with_reducible refine Calls.mono (HCA.out _ hO) ?_); clear hO; rintro e u ⟨rfl, hO, hSn⟩; replace hS := hS.trans hSn; clear hSn))
        go_ret
        exact ⟨by rw [HX.out]; rfl, hO, hS⟩
      | false =>
        have HX : Hid (fidx P is 0 = fidx P (is.drop (k + 1)) (k + 1)) := by show _ = _; rw [HF.out, HD.out, if_neg (ne_true_of_eq_false hrr)]
        clear hrr
        go_wp2_with (first | (refine own_load1_at (ad := ad.add k) (v := .int .i64 x) rfl rfl rfl row_int hcell ?_) | (go_at_call 39; (with_reducible refine Calls.mono (HCA.out _ hO) ?_); clear hO; rintro e u ⟨rfl, hO, hSn⟩; replace hS := hS.trans hSn; clear hSn))
        go_roundw
        case rel => exact ⟨k + 1, by omega, by go_num, HX.out, hO, hS⟩
        case measure => simp [intOf]; omega
    · have hke : k = is.length := by omega
      subst hke
      have HX : Hid (fidx P is 0 = -1) := by show _ = _; rw [HF.out, fidx_end]
      go_wp2
      go_ret
      exact ⟨by rw [HX.out]; rfl, hO, hS⟩
theorem cf_dep (bi i : Nat) (v : Value) (n : Nat) (l : List Int) {r : Bool} (hn : n = l.length) (hb : ∀ x ∈ l, -9223372036854775808 ≤ x) (h6 : E.next ≤ 1000000) (hi : i ≤ 1000000) (hx : l.any (E.depI i) = r) (hO : Own w (bdL be e bi i E L)) (hr : ∀ w', Own w' (bdL be e bi i E L) → Rd w' 1 v n (zs l)) :
    Calls Try.prog 38 #[v, .func (.func 39) #[] #[.pointer (some ⟨be, 0, none⟩), .pointer (some ⟨bi, 0, none⟩)]] w (Ret w (.bool r) (bdL be e bi i E L)) := by
  obtain ⟨P, hP⟩ : ∃ P : Int → Bool, P = E.depI i := ⟨_, rfl⟩
  rw [← hP] at hx
  have HIX : ∀ z, z = fidx P l 0 → Hid (Calls Try.prog 74 #[v, .func (.func 39) #[] #[.pointer (some ⟨be, 0, none⟩), .pointer (some ⟨bi, 0, none⟩)]] w (Ret w (.int .i64 z) (bdL be e bi i E L))) := fun z hz => Lib.hid (by rw [hz, hP]; exact idxf_dep w L be e E bi i v n l hn hb h6 hi hO hr)
  clear hr hn hb hP h6 hi
  obtain ⟨z, hz⟩ : ∃ z, z = fidx P l 0 := ⟨_, rfl⟩
  have hd : decide (0 ≤ z) = r := by rw [hz, fidx_any, hx]
  have HI := HIX z hz
  have hS := Same.refl w
  clear hx hz HIX
  cases r with
  | true =>
    have h1 : 0 ≤ z := by simpa using hd
    go_enter Try.func38, Try.ntmps38
    go_wp2_with (first | (go_at_call 74; (with_reducible refine Calls.mono (HI.out) ?_); clear hO; rintro e u ⟨rfl, hO, hSn⟩; replace hS := hS.trans hSn; clear hSn))
    go_ret
    exact ⟨rfl, hO, hS⟩
  | false =>
    have h1 : ¬ (0 ≤ z) := by simpa using hd
    go_enter Try.func38, Try.ntmps38
    go_wp2_with (first | (go_at_call 74; (with_reducible refine Calls.mono (HI.out) ?_); clear hO; rintro e u ⟨rfl, hO, hSn⟩; replace hS := hS.trans hSn; clear hSn))
    go_ret
    exact ⟨rfl, hO, hS⟩
end
end Go.Proofs.Ytonohjhmnlfakaa.H
set_option linter.unusedVariables false
set_option linter.unusedSimpArgs false
set_option maxRecDepth 100000
namespace Go.Proofs.Ytonohjhmnlfakaa.H
open Go.RowKit
theorem full_rdZ {w : World} {A : Option Addr} {n c sz : Nat} {xs : List Value} (h : Rd w sz (.slice A n c) n xs) : Rd w sz (.slice A n n) n xs := by
  obtain ⟨h1, A', c', e, h2, h3, h4⟩ := h.out
  cases e
  exact ⟨h1, A, n, rfl, Nat.le_refl _, by omega, h4⟩
/-- What v points to. -/
def blkP (T : TypeId) (cs : Array Value) (v : Value) : HP := ex fun g => sep (pur (v = .pointer (some ⟨g, 0, none⟩))) (pts g (.cells cs T))
theorem blk_open {w : World} {L : List HP} {T : TypeId} {cs : Array Value} {v : Value} : Own w (blkP T cs v :: L) ↔ ∃ g, v = .pointer (some ⟨g, 0, none⟩) ∧ Own w (pts g (.cells cs T) :: L) := by
  unfold blkP
  simp only [own_ex, own_sep, own_pur]
theorem run_es1 (x : We) (w : World) : (Instr.buildSlice 65 1 #[(0, .agg (We.cells x).toArray)]).run Try.prog w = .ok (.slice (some ⟨w.heap.size, 0, none⟩) 1 1) (w.alloc (.cells (We.cells x).toArray 79)) := by
  obtain ⟨i, hi, hz⟩ := Option.map_eq_some_iff.1 zero_ent
  have hsz : i.size = 5 := by have := sz_ent; rw [hi] at this; simpa using this
  have hk : ∀ cs : List Value, cs.length = 5 → Instr.fill (fun i => some (i * 5, 5)) cs.toArray [(0, .agg (We.cells x).toArray)] = some (We.cells x).toArray := fun cs hcs => fill_one rfl hcs
  simp [Instr.buildSlice, run_underlying Try.underlying65, sizeOf, typeInfo, zeroValue, hi, hz, hsz, Value.cells, hk, newRow]
theorem own_es1 {ops : Array Oper} {rest : List Oper} {o : Oper} {a : Act} {Q : Exit → Act → World → Prop} {w : World} {x : Operand} (y : We) (hw : Region.wanted o (yielded ops a.tmps) = true) (ho : o.op = .buildSlice 65 1 #[(0, x)]) (hx : a.eval x = .agg (We.cells y).toArray) (h : wpList Try.prog ops Q rest (a.put o.dst (.slice (some ⟨w.heap.size, 0, none⟩) 1 1)) (w.alloc (.cells (We.cells y).toArray 79))) : wpList Try.prog ops Q (o :: rest) a w := by
  refine ev hw ?_ h
  have e : (#[(0, x)] : Array (Nat × Operand)).map (fun (i, x) => (i, a.eval x)) = #[(0, .agg (We.cells y).toArray)] := by simp [hx]
  simp only [execOp, ho, e, Sem.run_bind, run_es1 y]
  rfl
theorem owns_e1 {w : World} {L : List HP} {g : Nat} {x : We} (hO : Own w (pts g (.cells (We.cells x).toArray 79) :: L)) : Own w (owns 79 5 (.slice (some ⟨g, 0, none⟩) 1 1) 1 (We.cells x) :: L) :=
  owns_of_pts hO rfl (Nat.le_refl _) (by decide) (List.take_of_length_le (Nat.le_refl _))
abbrev nWe (x : Wt) (B : Option Addr) (cb : Nat) : We := (x, .slice B x.beh.length cb)
/-- An entry more: what its slices read is owned. -/
theorem wok_add {we : List We} {wv : Value} {g : List RdI} (h : WOk we wv g) (x : Wt) {A B : Option Addr} {c cb : Nat} (hc : A = none → c = 0) :
    WOk (we ++ [nWe x B cb]) (.slice A (we ++ [nWe x B cb]).length c) (⟨5, .slice A (we ++ [nWe x B cb]).length c, (we ++ [nWe x B cb]).length, cellsW (we ++ [nWe x B cb])⟩ :: ⟨1, .slice B x.beh.length cb, x.beh.length, zs x.beh⟩ :: g) :=
  ⟨fun A' n' c' e hA => by cases e; exact hc hA, ⟨A, c, rfl, List.mem_cons_self ..⟩, fun y hy => by
    rcases List.mem_append.1 hy with hy | hy
    · obtain ⟨A', c', e1, h1⟩ := h.beh y hy
      exact ⟨A', c', e1, List.mem_cons_of_mem _ (List.mem_cons_of_mem _ h1)⟩
    · rw [List.mem_singleton.1 hy]
      exact ⟨B, cb, rfl, List.mem_cons_of_mem _ (List.mem_cons_self ..)⟩⟩
/-- What an added one comes behind, of what waits. -/
abbrev lapW (p : Pat) (we : List We) : List Int := wnums ((we.map (·.1)).filter fun w => overB w.p p)
theorem lap_next (p : Pat) {we : List We} {k : Nat} {x : We} (hx : we[k]? = some x) : lapW p (we.take (k + 1)) = lapW p (we.take k) ++ (if overB x.1.p p then [(x.1.n : Int)] else []) := by
  unfold lapW wnums
  rw [List.take_add_one, hx, List.map_append, List.filter_append, List.map_append]
  congr 1
  cases h : overB x.1.p p <;> simp [h]
namespace Eng
/-- The engine behind some items more. -/
abbrev addK (E : Eng) (l : List It) : Eng := l.foldl (add1 E.next) E
theorem addK_m (E : Eng) : ∀ (f : Nat) (l : List It), (l.foldl (add1 f) E).m = E.m := fun f l => by
  induction l generalizing E with
  | nil => rfl
  | cons x l ih => exact ih (E.add1 f x)
theorem addK_s (E : Eng) : ∀ (f : Nat) (l : List It), (l.foldl (add1 f) E).s = E.s := fun f l => by
  induction l generalizing E with
  | nil => rfl
  | cons x l ih => exact ih (E.add1 f x)
theorem addK_next (E : Eng) : ∀ (f : Nat) (l : List It), (l.foldl (add1 f) E).next = E.next + l.length := fun f l => by
  induction l generalizing E with
  | nil => rfl
  | cons x l ih => rw [List.foldl_cons, ih (E.add1 f x), List.length_cons]; show E.next + 1 + l.length = _; omega
theorem addK_len (E : Eng) : ∀ (f : Nat) (l : List It), (l.foldl (add1 f) E).l.length = E.l.length + l.length := fun f l => by
  induction l generalizing E with
  | nil => rfl
  | cons x l ih => rw [List.foldl_cons, ih (E.add1 f x), List.length_cons]; show (E.l ++ [_]).length + l.length = _; rw [List.length_append, List.length_singleton]; omega
end Eng
/-- What is owned in the midst of Add: the new entry nx, its slice, the item, the engine laid open. -/
abbrev adL (gn gx be e d bs : Nat) (nx : Nat) (p : Pat) (vb : Value) (bl : List Int) (xv wv : Value) (fs : List (Int × Value)) (g : List RdI) (m : List Blk) (next : Nat) (L : List HP) : List HP :=
  pts gn (.cells #[.int .i64 nx, .int .i64 p.blk, .int .i64 p.off, .string p.dat, vb] 79) :: owns 3 1 vb bl.length (zs bl) :: pts gx (.cells #[.int .i64 p.blk, .int .i64 p.off, .string p.dat, xv] 36) :: pts be (.cells #[.pointer (some ⟨e, 0, none⟩)] 23) :: pts e (.cells #[.pointer (some ⟨d, 0, none⟩), wv, .map (some bs), .int .i64 next] 67) :: diskP d m :: mapP bs fs :: rdG g :: L
/-- The end of a round of Add: the entry is the engine's. -/
theorem add_close {w : World} {L : List HP} {gn gx be e d bs : Nat} {nx : Nat} {p : Pat} {BA : Option Addr} {bc : Nat} {bl : List Int} {xv : Value} {DA : Option Addr} {dc : Nat} {fs : List (Int × Value)} {g : List RdI} {m : List Blk} {we : List We} {wv : Value} {E : Eng} (hk : we.map (·.1) = E.l ∧ WOk we wv g ∧ SOk E.m.length E.s fs g) (hm : m = E.m)
    (hO : Own w (owns 79 5 (.slice DA (we.length + 1) dc) (we.length + 1) (cellsW we ++ We.cells (nWe ⟨nx, p, bl⟩ BA bc)) :: adL gn gx be e d bs nx p (.slice BA bl.length bc) bl xv (.slice DA (we.length + 1) dc) fs g m (E.next + 1) L)) :
    Own w (pts be (.cells #[.pointer (some ⟨e, 0, none⟩)] 23) :: engP e ⟨E.m, E.l ++ [⟨nx, p, bl⟩], E.s, E.next + 1⟩ :: L) := by
  subst hm
  have hcap : DA = none → dc = 0 := fun hA => owns_nilcap hO hA
  have h1 := own_order [8, 2] hO rfl
  have h2 : Own w (owns 3 1 (.slice BA bl.length bc) bl.length (zs bl) :: rdG g :: owns 79 5 (.slice DA (we.length + 1) dc) (we.length + 1) (cellsW we ++ We.cells (nWe ⟨nx, p, bl⟩ BA bc)) :: pts gn (.cells #[.int .i64 nx, .int .i64 p.blk, .int .i64 p.off, .string p.dat, (.slice BA bl.length bc)] 79) :: pts gx (.cells #[.int .i64 p.blk, .int .i64 p.off, .string p.dat, xv] 36) :: pts be (.cells #[.pointer (some ⟨e, 0, none⟩)] 23) :: pts e (.cells #[.pointer (some ⟨d, 0, none⟩), .slice DA (we.length + 1) dc, .map (some bs), .int .i64 (E.next + 1 : Nat)] 67) :: diskP d E.m :: mapP bs fs :: L) := own_swap h1
  have h3 := rdG_owns h2
  have h4 := own_order [1] h3 rfl
  have h5 := rdG_owns h4
  have el : (we ++ [nWe ⟨nx, p, bl⟩ BA bc]).length = we.length + 1 := by simp
  have ec : cellsW (we ++ [nWe ⟨nx, p, bl⟩ BA bc]) = cellsW we ++ We.cells (nWe ⟨nx, p, bl⟩ BA bc) := by rw [cellsW_app]; simp [cellsW]
  have hw := wok_add hk.2.1 ⟨nx, p, bl⟩ (A := DA) (B := BA) (c := dc) (cb := bc) hcap
  rw [el, ec] at hw
  have h6 := own_order [3, 3, 3, 3, 0] h5 rfl
  refine own_swap (eng_open.2 ⟨d, .slice DA (we.length + 1) dc, bs, fs, we ++ [nWe ⟨nx, p, bl⟩ BA bc], _, ⟨?_, hw, hk.2.2.mono fun x hx => List.mem_cons_of_mem _ (List.mem_cons_of_mem _ hx)⟩, ?_⟩)
  · rw [List.map_append, hk.1]; rfl
  · exact own_order [1, 1, 1, 1] (own_sub h6 (.cons_cons _ (.cons_cons _ (.cons_cons _ (.cons_cons _ (.cons_cons _ (.cons _ (.cons _ (List.Sublist.refl _)))))))) : Own w (_ :: _ :: _ :: _ :: _ :: L)) rfl
end Go.Proofs.Ytonohjhmnlfakaa.H
set_option linter.unusedVariables false
set_option linter.unusedSimpArgs false
set_option maxRecDepth 100000
namespace Go.Proofs.Ytonohjhmnlfakaa.H
open Go.RowKit
theorem run_not {P : Program} {w : World} {d : Int} (h1 : -9223372036854775808 ≤ d) (h2 : d < 0) : (Op.unary .xor (.int .i64 d)).run P w = .ok (.int .i64 (-d - 1)) w := by
  have e : IntKind.i64.wrap ((BitVec.ofInt 64 (-1) ^^^ BitVec.ofInt 64 d).toNat : Int) = -d - 1 := by
    have e1 : BitVec.ofInt 64 (-1) = BitVec.allOnes 64 := by decide
    rw [e1, BitVec.allOnes_xor, BitVec.toNat_not, BitVec.toNat_ofInt, IntKind.wrap_i64] <;> omega
  have h : Op.unary .xor (.int .i64 d) = Op.intBits .xor .i64 (-1) d := rfl
  rw [h]
  show (pure (Value.int .i64 (IntKind.i64.wrap ((BitVec.ofInt 64 (-1) ^^^ BitVec.ofInt 64 d).toNat : Int))) : Sem Value).run P w = _
  rw [e]
  rfl
theorem own_not {P : Program} {ops : Array Oper} {rest : List Oper} {o : Oper} {a : Act} {Q : Exit → Act → World → Prop} {w : World} {T : TypeId} {x : Operand} {d : Int} (hw : Region.wanted o (yielded ops a.tmps) = true) (ho : o.op = .unOp .xor T x) (hx : a.eval x = .int .i64 d) (h1 : -9223372036854775808 ≤ d) (h2 : d < 0) (h : wpList P ops Q rest (a.put o.dst (.int .i64 (-d - 1))) w) : wpList P ops Q (o :: rest) a w := by
  refine ev hw ?_ h
  simp only [execOp, ho, hx, Sem.run_bind, run_not h1 h2]
  rfl
theorem form_any (E : Eng) (is : List Iv) : (is.any fun x => E.formI x.1) = E.formB (is.map (·.1)) := by
  unfold Eng.formB
  rw [List.any_map]
  rfl
theorem range_no {E : Eng} {l : List It} (h : E.rangeB l = false) {k : Nat} {x : It} (hx : l[k]? = some x) : x.deps.any (E.depI k) = false := by
  unfold Eng.rangeB at h
  rw [List.any_eq_false] at h
  have h1 := h (x, k) (List.mem_iff_getElem?.2 ⟨k, by rw [List.getElem?_zipIdx, hx]; simp⟩)
  exact (Bool.not_eq_true _).mp h1
theorem range_yes {E : Eng} {l : List It} (h : E.rangeB l = true) : ∃ (k : Nat) (x : It), l[k]? = some x ∧ x.deps.any (E.depI k) = true := by
  unfold Eng.rangeB at h
  obtain ⟨⟨x, k⟩, hm, h1⟩ := List.any_eq_true.1 h
  obtain ⟨j, hj⟩ := List.mem_iff_getElem?.1 hm
  rw [List.getElem?_zipIdx] at hj
  obtain ⟨y, hy, e⟩ := Option.map_eq_some_iff.1 hj
  simp only [Nat.zero_add, Prod.mk.injEq] at e
  obtain ⟨rfl, rfl⟩ := e
  exact ⟨j, y, hy, h1⟩
theorem zero_item : (Try.prog.info? 36).map (·.zero) = some (some (.agg #[.int .i64 0, .int .i64 0, .string ⟨#[]⟩, .slice none 0 0])) := by kernel_rfl
theorem zero_i : (Try.prog.info? 3).map (·.zero) = some (some (.int .i64 0)) := by kernel_rfl
section
variable (w : World) (L : List HP) (e : Nat) (E : Eng)
set_option maxHeartbeats 12800000 in
theorem eadd_form (v : Value) (n : Nat) (is : List Iv) (hO : Own w (engP e E :: L)) (hk : E.Ok) (hn : n = is.length) (h6 : n ≤ 1000000) (hrd : ∀ w', Own w' L → Rd w' 4 v n (cellsI is)) (hdep : ∀ x ∈ is, ∃ A c, x.2 = .slice A x.1.deps.length c ∧ ∀ w', Own w' L → Rd w' 1 (.slice A x.1.deps.length c) x.1.deps.length (zs x.1.deps)) (hlo : ∀ x ∈ is, ∀ d ∈ x.1.deps, -9223372036854775808 ≤ d) (hform : E.formB (is.map (·.1)) = true) :
    Calls Try.prog 9 #[.pointer (some ⟨e, 0, none⟩), v] w (Ret w (.tuple #[.int .i64 0, .int .i64 3]) (engP e E :: L)) := by
  subst hn
  have HOK := Lib.hid hk
  have HRD := Lib.hid hrd
  have HDEP := Lib.hid hdep
  have HLO := Lib.hid hlo
  have H6 := Lib.hid h6
  have HN6 : Hid (E.next ≤ 1000000) := hk.lim
  have HSL : Hid (∀ x ∈ is, ∃ A n c, x.2 = .slice A n c) := Lib.hid fun x hx => by obtain ⟨A, c, e1, _⟩ := hdep x hx; exact ⟨A, _, c, e1⟩
  have hS := Same.refl w
  obtain ⟨VA, vc, rfl⟩ := (hrd w (own_drop hO)).slice
  have hmx := (hrd w (own_drop hO)).max
  have HFO : Hid ((is.any fun x => E.formI x.1) = true) := by show _ = _; rw [form_any]; exact hform
  clear hk hrd hdep hlo hform
  go_enter Try.func9, Try.ntmps9
  go_wp2_with (first | (refine own_box (x := .tmp 0) (cs := #[.pointer (some ⟨e, 0, none⟩)]) rfl rfl rfl rfl hO ?_; clear hO; intro be u hO hSn; replace hS := hS.trans hSn; clear hSn) | (refine own_load1 (b := be) (off := 0) (cs := #[.pointer (some ⟨e, 0, none⟩)]) (t := 23) (v := .pointer (some ⟨e, 0, none⟩)) rfl rfl rfl row_eptr (own_get 0 hO rfl) rfl ?_) | (go_at_call 34; (with_reducible refine Calls.mono (cf_form _ _ be e E (.slice VA is.length vc) is.length is (r := true) rfl HSL.out HFO.out hO (fun w' h => HRD.out w' (own_drop (own_drop h)))) ?_); clear hO; rintro e u ⟨rfl, hO, hSn⟩; replace hS := hS.trans hSn; clear hSn))
  go_ret2
  exact ⟨rfl, own_drop hO, hS⟩
set_option maxHeartbeats 12800000 in
theorem eadd_range (v : Value) (n : Nat) (is : List Iv) (hO : Own w (engP e E :: L)) (hk : E.Ok) (hn : n = is.length) (h6 : n ≤ 1000000) (hrd : ∀ w', Own w' L → Rd w' 4 v n (cellsI is)) (hdep : ∀ x ∈ is, ∃ A c, x.2 = .slice A x.1.deps.length c ∧ ∀ w', Own w' L → Rd w' 1 (.slice A x.1.deps.length c) x.1.deps.length (zs x.1.deps)) (hlo : ∀ x ∈ is, ∀ d ∈ x.1.deps, -9223372036854775808 ≤ d) (hform : E.formB (is.map (·.1)) = false) (hrange : E.rangeB (is.map (·.1)) = true) :
    Calls Try.prog 9 #[.pointer (some ⟨e, 0, none⟩), v] w (Ret w (.tuple #[.int .i64 0, .int .i64 2]) (engP e E :: L)) := by
  subst hn
  have HOK := Lib.hid hk
  have HRD := Lib.hid hrd
  have HDEP := Lib.hid hdep
  have HLO := Lib.hid hlo
  have H6 := Lib.hid h6
  have HN6 : Hid (E.next ≤ 1000000) := hk.lim
  have HSL : Hid (∀ x ∈ is, ∃ A n c, x.2 = .slice A n c) := Lib.hid fun x hx => by obtain ⟨A, c, e1, _⟩ := hdep x hx; exact ⟨A, _, c, e1⟩
  have hS := Same.refl w
  obtain ⟨VA, vc, rfl⟩ := (hrd w (own_drop hO)).slice
  have hmx := (hrd w (own_drop hO)).max
  have HRG := Lib.hid hrange
  clear hrange
  have HFO : Hid ((is.any fun x => E.formI x.1) = false) := by show _ = _; rw [form_any]; exact hform
  clear hk hrd hdep hlo hform
  go_enter Try.func9, Try.ntmps9
  go_wp2_with (first | (refine own_box (x := .tmp 0) (cs := #[.pointer (some ⟨e, 0, none⟩)]) rfl rfl rfl rfl hO ?_; clear hO; intro be u hO hSn; replace hS := hS.trans hSn; clear hSn) | (refine own_load1 (b := be) (off := 0) (cs := #[.pointer (some ⟨e, 0, none⟩)]) (t := 23) (v := .pointer (some ⟨e, 0, none⟩)) rfl rfl rfl row_eptr (own_get 0 hO rfl) rfl ?_) | (go_at_call 34; (with_reducible refine Calls.mono (cf_form _ _ be e E (.slice VA is.length vc) is.length is (r := false) rfl HSL.out HFO.out hO (fun w' h => HRD.out w' (own_drop (own_drop h)))) ?_); clear hO; rintro e u ⟨rfl, hO, hSn⟩; replace hS := hS.trans hSn; clear hSn))
  go_loopw [23] (fun iv wr => ∃ k : Nat, k ≤ is.length ∧ iv = .int .i64 k ∧ Hid (∀ (j : Nat) (x : It), j < k → (is.map (·.1))[j]? = some x → x.deps.any (E.depI j) = false) ∧ Own wr (beL be e E L) ∧ Same w wr) (fun iv _ => is.length - (intOf iv).toNat)
  case atStart => exact ⟨0, Nat.zero_le _, rfl, Lib.hid (fun j x h => by omega), hO, hS⟩
  case round =>
    clear hO hS
    obtain ⟨k, hk, rfl, HNO, hO, hS⟩ := hrel
    by_cases hlt : k < is.length
    · obtain ⟨⟨x, xv⟩, hx⟩ : ∃ y, is[k]? = some y := ⟨_, List.getElem?_eq_getElem hlt⟩
      obtain ⟨DA, dc, e2, hdr⟩ := HDEP.out _ (List.mem_of_getElem? hx)
      have e2 : xv = .slice DA x.deps.length dc := e2
      subst e2
      have HDR : Hid (∀ w', Own w' L → Rd w' 1 (.slice DA x.deps.length dc) x.deps.length (zs x.deps)) := hdr
      have HXL : Hid (∀ d ∈ x.deps, -9223372036854775808 ≤ d) := HLO.out _ (List.mem_of_getElem? hx)
      have HK6 : Hid (k ≤ 1000000) := by have := H6.out; show _ ≤ _; omega
      obtain ⟨ad, rfl⟩ := (HRD.out _ (own_drop (own_drop hO))).addr (by rw [cellsI_length]; omega)
      have HC := Lib.hid (item_cells (HRD.out _ (own_drop (own_drop hO))) hx)
      have hm1 : (k : Int) < is.length := by omega
      have HLX : Hid ((is.map (·.1))[k]? = some x) := by show _ = _; rw [List.getElem?_map, hx]; rfl
      clear hx hdr
      go_upto_region 8 with (first | (refine own_loadrow_at (ad := ad.add (k * 4)) (vs := [.int .i64 x.p.blk, .int .i64 x.p.off, .string x.p.dat, .slice DA x.deps.length dc]) rfl rfl rfl row_item sz_item rfl HC.out ?_) | (refine own_alloc (T := 3) (cs := #[.int .i64 0]) rfl rfl zero_i rfl hO ?_; clear hO; intro bi u hO hSn; replace hS := hS.trans hSn; clear hSn) | (refine own_alloc (T := 36) (cs := #[.int .i64 0, .int .i64 0, .string ⟨#[]⟩, .slice none 0 0]) rfl rfl zero_item rfl hO ?_; clear hO; intro gx u hO hSn; replace hS := hS.trans hSn; clear hSn) | (refine own_store1 (k := 1) (b := bi) (off := 0) (cs' := #[.int .i64 k]) rfl rfl rfl rfl sz_z hO rfl rfl (by simp) rfl ?_; clear hO; intro u hO hSn; replace hS := hS.trans hSn; clear hSn; simp only [List.set_cons_zero, List.set_cons_succ] at hO) | (refine own_store_all (k := 0) (b := gx) (vs := #[.int .i64 x.p.blk, .int .i64 x.p.off, .string x.p.dat, .slice DA x.deps.length dc]) rfl rfl rfl rfl sz_item hO rfl rfl rfl rfl ?_; clear hO; intro u hO hSn; replace hS := hS.trans hSn; clear hSn; simp only [List.set_cons_zero] at hO))
      have hO : Own u (pts bi (.cells #[.int .i64 k] 3) :: pts be (.cells #[.pointer (some ⟨e, 0, none⟩)] 23) :: engP e E :: pts gx (.cells #[.int .i64 x.p.blk, .int .i64 x.p.off, .string x.p.dat, .slice DA x.deps.length dc] 36) :: L) := own_order [1, 1, 1] hO rfl
      obtain ⟨r, hr⟩ : ∃ r, x.deps.any (E.depI k) = r := ⟨_, rfl⟩
      have HDB := Lib.hid hr
      clear hr
      cases r with
      | true =>
        go_wp2_with (first | (refine own_load1 (b := gx) (off := 3) (cs := #[.int .i64 x.p.blk, .int .i64 x.p.off, .string x.p.dat, .slice DA x.deps.length dc]) (t := 36) (v := .slice DA x.deps.length dc) rfl rfl rfl row_zs (own_get 3 hO rfl) rfl ?_) | (go_at_call 38; (with_reducible refine Calls.mono (cf_dep _ _ be e E bi k (.slice DA x.deps.length dc) x.deps.length x.deps (r := true) rfl HXL.out HN6.out HK6.out HDB.out hO (fun w' h => HDR.out w' (own_drop (own_drop (own_drop (own_drop h)))))) ?_); clear hO; rintro e u ⟨rfl, hO, hSn⟩; replace hS := hS.trans hSn; clear hSn))
        go_ret2
        exact ⟨rfl, own_sub hO (.cons _ (.cons _ (.cons_cons _ (.cons _ (List.Sublist.refl _))))), hS⟩
      | false =>
        have HNX : Hid (∀ (j : Nat) (x : It), j < k + 1 → (is.map (·.1))[j]? = some x → x.deps.any (E.depI j) = false) := Lib.hid fun j y hj hy => by
          rcases Nat.lt_or_ge j k with h | h
          · exact HNO.out j y h hy
          · have : j = k := by omega
            subst this
            rw [HLX.out] at hy
            cases hy
            exact HDB.out
        go_wp2_with (first | (refine own_load1 (b := gx) (off := 3) (cs := #[.int .i64 x.p.blk, .int .i64 x.p.off, .string x.p.dat, .slice DA x.deps.length dc]) (t := 36) (v := .slice DA x.deps.length dc) rfl rfl rfl row_zs (own_get 3 hO rfl) rfl ?_) | (go_at_call 38; (with_reducible refine Calls.mono (cf_dep _ _ be e E bi k (.slice DA x.deps.length dc) x.deps.length x.deps (r := false) rfl HXL.out HN6.out HK6.out HDB.out hO (fun w' h => HDR.out w' (own_drop (own_drop (own_drop (own_drop h)))))) ?_); clear hO; rintro e u ⟨rfl, hO, hSn⟩; replace hS := hS.trans hSn; clear hSn))
        go_roundw
        case rel => exact ⟨k + 1, by omega, by go_num, HNX, own_sub hO (.cons _ (.cons_cons _ (.cons_cons _ (.cons _ (List.Sublist.refl _))))), hS⟩
        case measure => simp [intOf]; omega
    · exfalso
      obtain ⟨j, x, h1, h2⟩ := range_yes HRG.out
      have h3 := (List.getElem?_eq_some_iff.1 h1).1
      rw [List.length_map] at h3
      have h4 := HNO.out j x (by omega) h1
      rw [h4] at h2
      cases h2
set_option maxHeartbeats 12800000 in
theorem eadd_full (v : Value) (n : Nat) (is : List Iv) (hO : Own w (engP e E :: L)) (hk : E.Ok) (hn : n = is.length) (h6 : n ≤ 1000000) (hrd : ∀ w', Own w' L → Rd w' 4 v n (cellsI is)) (hdep : ∀ x ∈ is, ∃ A c, x.2 = .slice A x.1.deps.length c ∧ ∀ w', Own w' L → Rd w' 1 (.slice A x.1.deps.length c) x.1.deps.length (zs x.1.deps)) (hlo : ∀ x ∈ is, ∀ d ∈ x.1.deps, -9223372036854775808 ≤ d) (hform : E.formB (is.map (·.1)) = false) (hrange : E.rangeB (is.map (·.1)) = false) (hfull : 200 < E.l.length + is.length) :
    Calls Try.prog 9 #[.pointer (some ⟨e, 0, none⟩), v] w (Ret w (.tuple #[.int .i64 0, .int .i64 11]) (engP e E :: L)) := by
  subst hn
  have HOK := Lib.hid hk
  have HRD := Lib.hid hrd
  have HDEP := Lib.hid hdep
  have HLO := Lib.hid hlo
  have H6 := Lib.hid h6
  have HN6 : Hid (E.next ≤ 1000000) := hk.lim
  have HSL : Hid (∀ x ∈ is, ∃ A n c, x.2 = .slice A n c) := Lib.hid fun x hx => by obtain ⟨A, c, e1, _⟩ := hdep x hx; exact ⟨A, _, c, e1⟩
  have hS := Same.refl w
  obtain ⟨VA, vc, rfl⟩ := (hrd w (own_drop hO)).slice
  have hmx := (hrd w (own_drop hO)).max
  have HFL := Lib.hid hfull
  have HLE : Hid (E.l.length ≤ 200) := hk.len
  clear hfull
  have HRG := Lib.hid hrange
  clear hrange
  have HFO : Hid ((is.any fun x => E.formI x.1) = false) := by show _ = _; rw [form_any]; exact hform
  clear hk hrd hdep hlo hform
  go_enter Try.func9, Try.ntmps9
  go_wp2_with (first | (refine own_box (x := .tmp 0) (cs := #[.pointer (some ⟨e, 0, none⟩)]) rfl rfl rfl rfl hO ?_; clear hO; intro be u hO hSn; replace hS := hS.trans hSn; clear hSn) | (refine own_load1 (b := be) (off := 0) (cs := #[.pointer (some ⟨e, 0, none⟩)]) (t := 23) (v := .pointer (some ⟨e, 0, none⟩)) rfl rfl rfl row_eptr (own_get 0 hO rfl) rfl ?_) | (go_at_call 34; (with_reducible refine Calls.mono (cf_form _ _ be e E (.slice VA is.length vc) is.length is (r := false) rfl HSL.out HFO.out hO (fun w' h => HRD.out w' (own_drop (own_drop h)))) ?_); clear hO; rintro e u ⟨rfl, hO, hSn⟩; replace hS := hS.trans hSn; clear hSn))
  go_loopw [23] (fun iv wr => ∃ k : Nat, k ≤ is.length ∧ iv = .int .i64 k ∧ Own wr (beL be e E L) ∧ Same w wr) (fun iv _ => is.length - (intOf iv).toNat)
  case atStart => exact ⟨0, Nat.zero_le _, rfl, hO, hS⟩
  case round =>
    clear hO hS
    obtain ⟨k, hk, rfl, hO, hS⟩ := hrel
    by_cases hlt : k < is.length
    · obtain ⟨⟨x, xv⟩, hx⟩ : ∃ y, is[k]? = some y := ⟨_, List.getElem?_eq_getElem hlt⟩
      obtain ⟨DA, dc, e2, hdr⟩ := HDEP.out _ (List.mem_of_getElem? hx)
      have e2 : xv = .slice DA x.deps.length dc := e2
      subst e2
      have HDR : Hid (∀ w', Own w' L → Rd w' 1 (.slice DA x.deps.length dc) x.deps.length (zs x.deps)) := hdr
      have HXL : Hid (∀ d ∈ x.deps, -9223372036854775808 ≤ d) := HLO.out _ (List.mem_of_getElem? hx)
      have HK6 : Hid (k ≤ 1000000) := by have := H6.out; show _ ≤ _; omega
      obtain ⟨ad, rfl⟩ := (HRD.out _ (own_drop (own_drop hO))).addr (by rw [cellsI_length]; omega)
      have HC := Lib.hid (item_cells (HRD.out _ (own_drop (own_drop hO))) hx)
      have hm1 : (k : Int) < is.length := by omega
      have HLX : Hid ((is.map (·.1))[k]? = some x) := by show _ = _; rw [List.getElem?_map, hx]; rfl
      clear hx hdr
      go_upto_region 8 with (first | (refine own_loadrow_at (ad := ad.add (k * 4)) (vs := [.int .i64 x.p.blk, .int .i64 x.p.off, .string x.p.dat, .slice DA x.deps.length dc]) rfl rfl rfl row_item sz_item rfl HC.out ?_) | (refine own_alloc (T := 3) (cs := #[.int .i64 0]) rfl rfl zero_i rfl hO ?_; clear hO; intro bi u hO hSn; replace hS := hS.trans hSn; clear hSn) | (refine own_alloc (T := 36) (cs := #[.int .i64 0, .int .i64 0, .string ⟨#[]⟩, .slice none 0 0]) rfl rfl zero_item rfl hO ?_; clear hO; intro gx u hO hSn; replace hS := hS.trans hSn; clear hSn) | (refine own_store1 (k := 1) (b := bi) (off := 0) (cs' := #[.int .i64 k]) rfl rfl rfl rfl sz_z hO rfl rfl (by simp) rfl ?_; clear hO; intro u hO hSn; replace hS := hS.trans hSn; clear hSn; simp only [List.set_cons_zero, List.set_cons_succ] at hO) | (refine own_store_all (k := 0) (b := gx) (vs := #[.int .i64 x.p.blk, .int .i64 x.p.off, .string x.p.dat, .slice DA x.deps.length dc]) rfl rfl rfl rfl sz_item hO rfl rfl rfl rfl ?_; clear hO; intro u hO hSn; replace hS := hS.trans hSn; clear hSn; simp only [List.set_cons_zero] at hO))
      have hO : Own u (pts bi (.cells #[.int .i64 k] 3) :: pts be (.cells #[.pointer (some ⟨e, 0, none⟩)] 23) :: engP e E :: pts gx (.cells #[.int .i64 x.p.blk, .int .i64 x.p.off, .string x.p.dat, .slice DA x.deps.length dc] 36) :: L) := own_order [1, 1, 1] hO rfl
      have HDB := Lib.hid (range_no HRG.out HLX.out)
      go_wp2_with (first | (refine own_load1 (b := gx) (off := 3) (cs := #[.int .i64 x.p.blk, .int .i64 x.p.off, .string x.p.dat, .slice DA x.deps.length dc]) (t := 36) (v := .slice DA x.deps.length dc) rfl rfl rfl row_zs (own_get 3 hO rfl) rfl ?_) | (go_at_call 38; (with_reducible refine Calls.mono (cf_dep _ _ be e E bi k (.slice DA x.deps.length dc) x.deps.length x.deps (r := false) rfl HXL.out HN6.out HK6.out HDB.out hO (fun w' h => HDR.out w' (own_drop (own_drop (own_drop (own_drop h)))))) ?_); clear hO; rintro e u ⟨rfl, hO, hSn⟩; replace hS := hS.trans hSn; clear hSn))
      go_roundw
      case rel => exact ⟨k + 1, by omega, by go_num, own_sub hO (.cons _ (.cons_cons _ (.cons_cons _ (.cons _ (List.Sublist.refl _))))), hS⟩
      case measure => simp [intOf]; omega
    · have hke : k = is.length := by omega
      subst hke
      obtain ⟨d, wv, bs, fs, we, g, hkk, hO⟩ := eng_open.1 (own_swap hO)
      have HK := Lib.hid hkk
      obtain ⟨WA, wc, rfl, hm⟩ := hkk.2.1.rd
      have hO := own_order [4] hO rfl
      simp only [List.eraseIdx_cons_succ, List.eraseIdx_zero, List.tail_cons] at hO
      have hwl : we.length = E.l.length := by rw [← hkk.1, List.length_map]
      have hf1 : 200 < (we.length : Int) + is.length := by have := HFL.out; omega
      have hw2 : we.length ≤ 200 := by have := HLE.out; omega
      have h66 := H6.out
      clear hkk hm hwl
      go_wp2_with (first | (refine own_load1 (b := be) (off := 0) (cs := #[.pointer (some ⟨e, 0, none⟩)]) (t := 23) (v := .pointer (some ⟨e, 0, none⟩)) rfl rfl rfl row_eptr (own_get 0 hO rfl) rfl ?_) | (apply own_load1 rfl rfl rfl; (first | exact row_ents | exact row_int); (first | exact own_get 0 hO rfl | exact own_get 1 hO rfl | exact own_get 2 hO rfl | exact own_get 3 hO rfl | exact own_get 4 hO rfl | exact own_get 5 hO rfl | exact own_get 6 hO rfl | exact own_get 7 hO rfl); (first | (simp only [List.getElem?_toArray, List.getElem?_cons_succ, List.getElem?_cons_zero]; rfl) | rfl)))
      go_ret2
      exact ⟨rfl, eng_open.2 ⟨_, _, _, _, _, _, HK.out, own_drop hO⟩, hS⟩
end
end Go.Proofs.Ytonohjhmnlfakaa.H
