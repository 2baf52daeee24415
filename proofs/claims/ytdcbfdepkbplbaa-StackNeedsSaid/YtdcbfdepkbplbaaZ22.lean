/- The reference's Squash. -/
import Derived.Test.YtdcbfdepkbplbaaZ20
import Derived.Test.YtdcbfdepkbplbaaZ21
set_option linter.unusedVariables false
set_option linter.unusedSimpArgs false
set_option maxRecDepth 100000
namespace Go.Proofs.Ytdcbfdepkbplbaa.H
open Go.RowKit
theorem zero_on : (Try.prog.info? 93).map (·.zero) = some (some (.agg #[.int .i64 0, .int .i64 0, .int .i64 0, .string ⟨#[]⟩])) := by kernel_rfl
/-- What is left of some when one is put into another. -/
def sqR (l : List On) (i n : Nat) (j : Pat) : List On := (l.filter fun x => decide (x.n ≠ n)).map fun x => if x.n = i then ⟨x.n, j⟩ else x
theorem sqR_step {l : List On} {i n : Nat} {j : Pat} {k : Nat} {d : On} (hd : l[k]? = some d) : sqR (l.take (k + 1)) i n j = sqR (l.take k) i n j ++ (if d.n = n then [] else [if d.n = i then ⟨d.n, j⟩ else d]) := by
  obtain ⟨h1, h2⟩ := List.getElem?_eq_some_iff.1 hd
  unfold sqR
  rw [List.take_succ_eq_append_getElem h1, h2, List.filter_append, List.map_append]
  congr 1
  by_cases h : d.n = n
  · simp [h]
  · simp [h, List.filter_cons]
theorem sqR_len (l : List On) (i n : Nat) (j : Pat) (k : Nat) : (sqR (l.take k) i n j).length ≤ l.length := by
  unfold sqR
  rw [List.length_map]
  exact Nat.le_trans (List.length_filter_le _ _) (by rw [List.length_take]; omega)
theorem filter_erase {l : List On} (h : l.Pairwise fun a b => a.n < b.n) {k : Nat} {b : On} (hk : l[k]? = some b) : l.filter (fun x => decide (x.n ≠ b.n)) = l.eraseIdx k := by
  induction l generalizing k with
  | nil => simp at hk
  | cons x l ih =>
    rw [List.pairwise_cons] at h
    cases k with
    | zero =>
      have e : x = b := by simpa using hk
      subst e
      have hx : ∀ y ∈ l, decide (y.n ≠ x.n) = true := fun y hy => by have := h.1 y hy; simp; omega
      simp only [ne_eq, decide_not, List.eraseIdx_cons_zero]
      rw [List.filter_cons, if_neg (by simp), List.filter_eq_self.2 (fun y hy => by simpa using hx y hy)]
    | succ k =>
      have hk2 : l[k]? = some b := by simpa using hk
      have := h.1 b (List.mem_of_getElem? hk2)
      rw [List.filter_cons, if_pos (by simp; omega), ih h.2 hk2]
      rfl
theorem sqR_eq {m : Stk} (hm : m.Ok) {i k : Nat} {a b : On} (hi : m.l[i]? = some a) (hk : m.l[k]? = some b) (j : Pat) : sqR m.l a.n b.n j = (m.l.set i ⟨a.n, j⟩).eraseIdx k := by
  have hasc := hm.asc
  have hmap : m.l.map (fun x => if x.n = a.n then (⟨x.n, j⟩ : On) else x) = m.l.set i ⟨a.n, j⟩ := by
    refine List.ext_getElem? (fun t => ?_)
    rw [List.getElem?_map, List.getElem?_set]
    cases ht : m.l[t]? with
    | none =>
      have h1 := List.getElem?_eq_none_iff.1 ht
      have h2 := (List.getElem?_eq_some_iff.1 hi).1
      rw [if_neg (by omega)]
      rfl
    | some x =>
      simp only [Option.map_some]
      by_cases e : x.n = a.n
      · obtain ⟨rfl, rfl⟩ := asc_at hasc ht hi e
        rw [if_pos rfl, if_pos rfl, if_pos (List.getElem?_eq_some_iff.1 hi).1]
      · have : i ≠ t := fun e2 => by subst e2; rw [hi] at ht; cases ht; exact e rfl
        rw [if_neg e, if_neg this]
  have hasc2 : (m.l.set i ⟨a.n, j⟩).Pairwise fun a b => a.n < b.n := by
    rw [← hmap]
    rw [List.pairwise_map]
    refine hasc.imp (fun {x y} h => ?_)
    split <;> split <;> exact h
  have hk2 : ∃ b' : On, (m.l.set i ⟨a.n, j⟩)[k]? = some b' ∧ b'.n = b.n := by
    rw [← hmap, List.getElem?_map, hk]
    exact ⟨_, rfl, by show (if b.n = a.n then (⟨b.n, j⟩ : On) else b).n = b.n; split <;> rfl⟩
  obtain ⟨b', hb1, hb2⟩ := hk2
  rw [← filter_erase hasc2 hb1, hb2, ← hmap, List.filter_map]
  unfold sqR
  congr 1
  refine List.filter_congr (fun x _ => ?_)
  simp only [Function.comp]
  split <;> rfl
theorem on_cases (l : List On) (n : Int) : (∃ (i : Nat) (o : On), l[i]? = some o ∧ (o.n : Int) = n) ∨ (∀ o ∈ l, (o.n : Int) ≠ n) := by
  by_cases h : ∃ o : On, o ∈ l ∧ (o.n : Int) = n
  · obtain ⟨o, ho, hn⟩ := h
    obtain ⟨i, hi⟩ := List.getElem?_of_mem ho
    exact .inl ⟨i, o, hi, hn⟩
  · exact .inr (fun o ho hn => h ⟨o, ho, hn⟩)
def SqBusy (l : List On) (i k : Nat) (a b : On) : Prop := ∃ t c, i < t ∧ t < k ∧ l[t]? = some c ∧ (meetB c.p a.p = true ∨ meetB c.p b.p = true)
def SqPost (w : World) (L : List HP) (q : Nat) (m : Stk) (i k : Nat) (a b : On) (e : Ending) (w' : World) : Prop :=
  (k ≤ i ∧ Ret w (.int .i64 2) (rstk q m :: L) e w') ∨ (i < k ∧ SqBusy m.l i k a b ∧ Ret w (.int .i64 12) (rstk q m :: L) e w') ∨
  (i < k ∧ ¬ SqBusy m.l i k a b ∧ joinB a.p ⟨a.p.blk, b.p.off, b.p.dat⟩ = false ∧ Ret w (.int .i64 3) (rstk q m :: L) e w') ∨
  (i < k ∧ ¬ SqBusy m.l i k a b ∧ joinB a.p ⟨a.p.blk, b.p.off, b.p.dat⟩ = true ∧ Ret w (.int .i64 0) (rstk q (m.squashed i k a.n (joinM a.p ⟨a.p.blk, b.p.off, b.p.dat⟩)) :: L) e w')
theorem asc_idx {l : List On} (h : l.Pairwise fun a b => a.n < b.n) {i k : Nat} {a b : On} (hi : l[i]? = some a) (hk : l[k]? = some b) (hlt : a.n < b.n) : i < k := by
  rcases Nat.lt_trichotomy i k with h1 | rfl | h1
  · exact h1
  · rw [hi] at hk; cases hk; omega
  · obtain ⟨a1, a2⟩ := List.getElem?_eq_some_iff.1 hi
    obtain ⟨b1, b2⟩ := List.getElem?_eq_some_iff.1 hk
    have := List.pairwise_iff_getElem.1 h k i b1 a1 h1
    rw [a2, b2] at this
    omega
theorem asc_num {l : List On} (h : l.Pairwise fun a b => a.n < b.n) {i k : Nat} {a b : On} (hi : l[i]? = some a) (hk : l[k]? = some b) (hlt : i < k) : a.n < b.n := by
  obtain ⟨a1, a2⟩ := List.getElem?_eq_some_iff.1 hi
  obtain ⟨b1, b2⟩ := List.getElem?_eq_some_iff.1 hk
  have := List.pairwise_iff_getElem.1 h i k a1 b1 hlt
  rwa [a2, b2] at this
theorem rmeet_w (w : World) (L : List HP) (a0 a1 b0 b1 : Int) (s t : ByteArray) {r : Bool} (hr : overB ⟨a0, a1, s⟩ ⟨a0, b1, t⟩ = r) (hO : Own w L) :
    Calls Try.prog 66 #[.agg #[.int .i64 a0, .int .i64 a1, .string s], .agg #[.int .i64 b0, .int .i64 b1, .string t]] w (Ret w (.bool r) L) := by
  rw [← hr]
  exact rmeet_c w L a0 a1 b0 b1 s t hO
theorem rjoin_y (w : World) (L : List HP) (a0 a1 b0 b1 : Int) (s t : ByteArray) (J : Pat) (hO : Own w L) (hj : joinB ⟨a0, a1, s⟩ ⟨b0, b1, t⟩ = true) (hJ : joinM ⟨a0, a1, s⟩ ⟨b0, b1, t⟩ = J) :
    Calls Try.prog 70 #[.agg #[.int .i64 a0, .int .i64 a1, .string s], .agg #[.int .i64 b0, .int .i64 b1, .string t]] w (Ret w (.tuple #[.agg #[.int .i64 J.blk, .int .i64 J.off, .string J.dat], .bool true]) L) := by
  have h := rjoin_c w L a0 a1 b0 b1 s t hO
  rw [joinV, if_pos hj, hJ] at h
  exact h
theorem rjoin_n (w : World) (L : List HP) (a0 a1 b0 b1 : Int) (s t : ByteArray) (hO : Own w L) (hj : joinB ⟨a0, a1, s⟩ ⟨b0, b1, t⟩ = false) :
    Calls Try.prog 70 #[.agg #[.int .i64 a0, .int .i64 a1, .string s], .agg #[.int .i64 b0, .int .i64 b1, .string t]] w (Ret w (.tuple #[.agg #[.int .i64 0, .int .i64 0, .string ⟨#[]⟩], .bool false]) L) := by
  have h := rjoin_c w L a0 a1 b0 b1 s t hO
  rw [joinV, if_neg (by rw [hj]; decide)] at h
  exact h
section
variable (w : World) (L : List HP) (q : Nat) (m : Stk)
theorem rsquash_noent (into n : Int) (hO : Own w (rstk q m :: L)) (hk : m.Ok) (h : (∀ o ∈ m.l, (o.n : Int) ≠ into) ∨ (∀ o ∈ m.l, (o.n : Int) ≠ n)) :
    Calls Try.prog 59 #[.pointer (some ⟨q, 0, none⟩), .int .i64 into, .int .i64 n] w (Ret w (.int .i64 5) (rstk q m :: L)) := by
  obtain ⟨vb, vl, hO⟩ := rstk_open.1 hO
  have hget : ∀ n : Int, ∃ (x0 x1 : Int) (x2 : ByteArray) (b : Bool), ((∀ o ∈ m.l, (o.n : Int) ≠ n) → b = false) ∧ ∀ (w : World) (S : List HP), Own w S → (∀ w', Own w' S → RAt w' q vb vl m) →
      Calls Try.prog 46 #[.pointer (some ⟨q, 0, none⟩), .int .i64 n] w (Ret w (.tuple #[.agg #[.int .i64 x0, .int .i64 x1, .string x2], .bool b]) S) := fun n => by
    rcases on_cases m.l n with ⟨i, o, ho, rfl⟩ | hno
    · exact ⟨_, _, _, true, fun h => absurd rfl (h o (List.mem_of_getElem? ho)), fun w S hS hr => rget_yes w S q vb vl m i o hS hr hk ho⟩
    · exact ⟨_, _, _, false, fun _ => rfl, fun w S hS hr => rget_no w S q vb vl m n hS hr hk hno⟩
  obtain ⟨a0, a1, a2, b1, hb1, hg1⟩ := hget into
  obtain ⟨c0, c1, c2, b2, hb2, hg2⟩ := hget n
  have HG1 := Lib.hid hg1
  have HG2 := Lib.hid hg2
  have HR : Hid (∀ w' S, Own w' (rstkL q vb vl m ++ S) → RAt w' q vb vl m) := fun w' S h => rAt_of h hk.base
  have key : b1 = false ∨ (b1 = true ∧ b2 = false) := by
    cases b1 with
    | false => exact .inl rfl
    | true =>
      rcases h with h | h
      · exact absurd (hb1 h) (by decide)
      · exact .inr ⟨rfl, hb2 h⟩
  clear hk h hget hb1 hb2 hg1 hg2
  have hS := Same.refl w
  rcases key with rfl | ⟨rfl, rfl⟩
  all_goals
    go_enter Try.func59, Try.ntmps59
    go_wp2_with (first | (go_at_call 46; (with_reducible refine Calls.mono (HG1.out _ _ hO (fun w' h => HR.out w' _ h)) ?_); clear hO; rintro e u ⟨rfl, hO, hSn⟩; replace hS := hS.trans hSn; clear hSn) | (go_at_call 46; (with_reducible refine Calls.mono (HG2.out _ _ hO (fun w' h => HR.out w' _ (own_drop h))) ?_); clear hO; rintro e u ⟨rfl, hO, hSn⟩; replace hS := hS.trans hSn; clear hSn) | (refine own_alloc (T := 33) rfl rfl zero_pat rfl hO ?_; clear hO; intro g u hO hSn; replace hS := hS.trans hSn; clear hSn) | (apply own_store_all (k := 0) rfl rfl rfl rfl sz_pat hO rfl; (focus rfl); (focus rfl); (focus rfl); clear hO; intro u hO hSn; replace hS := hS.trans hSn; clear hSn; simp only [List.set_cons_zero, List.set_cons_succ] at hO))
    go_ret
    exact ⟨rfl, rstk_open.2 ⟨vb, vl, own_drop (own_drop hO)⟩, hS⟩
set_option maxHeartbeats 12800000 in
theorem rsquash_yes (i k : Nat) (a b : On) (hO : Own w (rstk q m :: L)) (hk : m.Ok) (hi : m.l[i]? = some a) (hkb : m.l[k]? = some b) :
    Calls Try.prog 59 #[.pointer (some ⟨q, 0, none⟩), .int .i64 a.n, .int .i64 b.n] w (SqPost w L q m i k a b) := by
  obtain ⟨vb, vl, hO⟩ := rstk_open.1 hO
  obtain ⟨A, cap, rfl⟩ := (rAt_of hO hk.base).rd.slice
  have hmx := (rAt_of hO hk.base).rd.max
  have HK := Lib.hid hk
  have HI := Lib.hid hi
  have HKB := Lib.hid hkb
  have HR : Hid (∀ w' S, Own w' (pts q (.cells #[vb, .slice A m.l.length cap, .int .i64 m.next] 86) :: owns 5 1 vb 32 (bcs m.base) :: owns 93 4 (.slice A m.l.length cap) m.l.length (cellsO m.l) :: S) → RAt w' q vb (.slice A m.l.length cap) m) := fun w' S h => rAt_of h hk.base
  have hO : Own w (pts q (.cells #[vb, .slice A m.l.length cap, .int .i64 m.next] 86) :: owns 5 1 vb 32 (bcs m.base) :: owns 93 4 (.slice A m.l.length cap) m.l.length (cellsO m.l) :: L) := hO
  have hS := Same.refl w
  have HLN : Hid (m.l.length ≤ 200) := hk.len
  have HRA : Hid (rightB a.p = true) := hk.right a (List.mem_of_getElem? hi)
  have HRB : Hid (rightB b.p = true) := hk.right b (List.mem_of_getElem? hkb)
  clear hk hi hkb
  go_enter Try.func59, Try.ntmps59
  go_upto_region 2 with (first | (go_at_call 46; (with_reducible refine Calls.mono (rget_yes _ _ q vb _ m i a hO (fun w' h => HR.out w' _ h) HK.out HI.out) ?_); clear hO; rintro e u ⟨rfl, hO, hSn⟩; replace hS := hS.trans hSn; clear hSn) | (refine own_alloc (T := 33) rfl rfl zero_pat rfl hO ?_; clear hO; intro ga u hO hSn; replace hS := hS.trans hSn; clear hSn) | (apply own_store_all (k := 0) rfl rfl rfl rfl sz_pat hO rfl; (focus rfl); (focus rfl); (focus rfl); clear hO; intro u hO hSn; replace hS := hS.trans hSn; clear hSn; simp only [List.set_cons_zero, List.set_cons_succ] at hO))
  go_upto_region 7 with (first | (go_at_call 46; (with_reducible refine Calls.mono (rget_yes _ _ q vb _ m k b hO (fun w' h => HR.out w' _ (own_drop h)) HK.out HKB.out) ?_); clear hO; rintro e u ⟨rfl, hO, hSn⟩; replace hS := hS.trans hSn; clear hSn) | (refine own_alloc (T := 33) rfl rfl zero_pat rfl hO ?_; clear hO; intro gb u hO hSn; replace hS := hS.trans hSn; clear hSn) | (apply own_store_all (k := 0) rfl rfl rfl rfl sz_pat hO rfl; (focus rfl); (focus rfl); (focus rfl); clear hO; intro u hO hSn; replace hS := hS.trans hSn; clear hSn; simp only [List.set_cons_zero, List.set_cons_succ] at hO))
  by_cases hab : b.n ≤ a.n
  · have f1 : decide (b.n ≤ a.n) = true := by simpa using hab
    have HIK : Hid (k ≤ i) := by
      show k ≤ i
      rcases Nat.lt_or_ge i k with h | h
      · have := asc_num HK.out.asc HI.out HKB.out h
        omega
      · exact h
    go_wp2
    go_ret
    exact .inl ⟨HIK.out, rfl, rstk_open.2 ⟨vb, _, own_drop (own_drop hO)⟩, hS⟩
  · have f1 : decide (b.n ≤ a.n) = false := by simpa using hab
    have HIK : Hid (i < k) := asc_idx HK.out.asc HI.out HKB.out (by omega)
    have HAB : Hid (a.n < b.n) := by show a.n < b.n; omega
    clear hab
    go_wp2
    clear f1
    go_loopw [11] (fun j' wr => ∃ j : Nat, j ≤ m.l.length ∧ j' = .int .i64 j ∧ (∀ (t : Nat) (c : On), t < j → m.l[t]? = some c → a.n < c.n → c.n < b.n → meetB a.p c.p = false ∧ meetB c.p b.p = false) ∧ Own wr (pts gb (.cells #[.int .i64 b.p.blk, .int .i64 b.p.off, .string b.p.dat] 33) :: pts ga (.cells #[.int .i64 a.p.blk, .int .i64 a.p.off, .string a.p.dat] 33) :: pts q (.cells #[vb, .slice A m.l.length cap, .int .i64 m.next] 86) :: owns 5 1 vb 32 (bcs m.base) :: owns 93 4 (.slice A m.l.length cap) m.l.length (cellsO m.l) :: L) ∧ Same w wr) (fun j' _ => m.l.length - (intOf j').toNat)
    case atStart => exact ⟨0, Nat.zero_le _, rfl, fun t c h => absurd h (Nat.not_lt_zero _), hO, hS⟩
    case round =>
      clear hO hS
      obtain ⟨j, hj, rfl, hno, hO, hS⟩ := hrel
      have HNO := Lib.hid hno
      clear hno
      by_cases hlt : j < m.l.length
      · obtain ⟨d, hd⟩ : ∃ d, m.l[j]? = some d := ⟨_, List.getElem?_eq_getElem hlt⟩
        obtain ⟨ad, rfl⟩ := (owns_rd (own_drop (own_drop (own_drop (own_drop hO))))).addr (by rw [cellsO_length]; omega)
        have HC : Hid (∀ (w' : World) (X Y : HP), Own w' (X :: Y :: pts q (.cells #[vb, .slice (some ad) m.l.length cap, .int .i64 m.next] 86) :: owns 5 1 vb 32 (bcs m.base) :: owns 93 4 (.slice (some ad) m.l.length cap) m.l.length (cellsO m.l) :: L) → (∀ (t : Nat) (u : Value), d.cells[t]? = some u → w'.cell? ((ad.add (j * 4)).add t) = some u)) := fun w' X Y h => (on_cells (owns_rd (own_drop (own_drop (own_drop (own_drop h))))) hd).2.2
        have HRD : Hid (rightB d.p = true) := HK.out.right d (List.mem_of_getElem? hd)
        have HD := Lib.hid hd
        have hm1 : (j : Int) < m.l.length := by omega
        have HNX : Hid ((a.n < d.n → d.n < b.n → meetB a.p d.p = false ∧ meetB d.p b.p = false) → ∀ (t : Nat) (c : On), t < j + 1 → m.l[t]? = some c → a.n < c.n → c.n < b.n → meetB a.p c.p = false ∧ meetB c.p b.p = false) := fun hno t c ht hc h1 h2 => by
          rcases Nat.lt_or_ge t j with h | h
          · exact HNO.out t c h hc h1 h2
          · have e : t = j := by omega
            subst e
            rw [hd] at hc
            cases hc
            exact hno h1 h2
        clear hd
        rcases (show ((decide (a.n < d.n) = false) ∨ (decide (a.n < d.n) = true ∧ decide (d.n < b.n) = false)) ∨ (decide (a.n < d.n) = true ∧ decide (d.n < b.n) = true) from by
          cases h1 : decide (a.n < d.n) <;> cases h2 : decide (d.n < b.n) <;> simp) with (f1 | ⟨f1, f2⟩) | ⟨f1, f2⟩
        · have HF : Hid (¬ a.n < d.n) := by show ¬ _; simpa using f1
          have HM1 : Hid (meetB a.p d.p = meetB a.p d.p) := rfl
          have HM2 : Hid (meetB d.p b.p = meetB d.p b.p) := rfl
          have g1 : (a.n < d.n) = False := eq_false HF.out
          have HQ1 : Hid (overB ⟨a.p.blk, a.p.off, a.p.dat⟩ ⟨a.p.blk, d.p.off, d.p.dat⟩ = _) := (over_meet HRA.out HRD.out).trans HM1.out
          have HQ2 : Hid (overB ⟨d.p.blk, d.p.off, d.p.dat⟩ ⟨d.p.blk, b.p.off, b.p.dat⟩ = _) := (over_meet HRD.out HRB.out).trans HM2.out
          go_upto_region 13 with (first | (refine own_load1 (b := q) (off := 1) (cs := #[vb, .slice (some ad) m.l.length cap, .int .i64 m.next]) (t := 86) (v := .slice (some ad) m.l.length cap) rfl rfl rfl row_ons (own_get 2 hO rfl) rfl ?_) | (refine own_alloc (T := 93) rfl rfl zero_on rfl hO ?_; clear hO; intro gx u hO hSn; replace hS := hS.trans hSn; clear hSn) | (apply own_store_all (k := 0) rfl rfl rfl rfl sz_on hO rfl; (focus rfl); (focus rfl); (focus rfl); clear hO; intro u hO hSn; replace hS := hS.trans hSn; clear hSn; simp only [List.set_cons_zero, List.set_cons_succ] at hO) | (refine own_loadrow_at (ad := ad.add (j * 4)) (vs := [.int .i64 d.n, .int .i64 d.p.blk, .int .i64 d.p.off, .string d.p.dat]) rfl rfl rfl row_on sz_on rfl (HC.out _ _ _ hO) ?_))
          refine wp_plain_seq (Cls u (_)) 22 (cls_here hO) ?_
          simp only [List.append_eq, List.cons_append, List.nil_append, List.take_succ_cons, List.take_zero]
          repeat (first
            | (apply wv_skip rfl; simp only [Act.put, List.setIfInBounds_toArray, List.set_cons_zero, List.set_cons_succ])
            | (apply wv_load1 rfl rfl rfl; (first | exact row_int | exact row_str | exact row_bool | exact row_u8 | exact row_bys | exact row_pats | exact row_err); (intro w h; (first | exact own_get 0 h.1 rfl | exact own_get 1 h.1 rfl | exact own_get 2 h.1 rfl | exact own_get 3 h.1 rfl | exact own_get 4 h.1 rfl | exact own_get 5 h.1 rfl | exact own_get 6 h.1 rfl | exact own_get 7 h.1 rfl)); (first | (simp only [List.getElem?_toArray, List.getElem?_cons_succ, List.getElem?_cons_zero]; rfl) | rfl); simp only [Act.put, List.setIfInBounds_toArray, List.set_cons_zero, List.set_cons_succ])
            | (apply wv_loadrow rfl rfl rfl; (first | exact row_pat); exact sz_pat; (intro w h; (first | exact own_get 0 h.1 rfl | exact own_get 1 h.1 rfl | exact own_get 2 h.1 rfl | exact own_get 3 h.1 rfl | exact own_get 4 h.1 rfl | exact own_get 5 h.1 rfl | exact own_get 6 h.1 rfl | exact own_get 7 h.1 rfl)); (focus (simp; done)); (first | (simp only [List.drop_zero, List.drop_succ_cons, List.take_succ_cons, List.take_zero]; rfl) | rfl); simp only [Act.put, List.setIfInBounds_toArray, List.set_cons_zero, List.set_cons_succ])
            | (apply wv_run rfl; (focus (intro w h; go_simp; first | done | rfl)); simp only [Act.put, List.setIfInBounds_toArray, List.set_cons_zero, List.set_cons_succ])
            | (apply wv_call rfl; (focus (intro w; go_simp; first | done | exact ⟨rfl, rfl⟩)); (focus (intro w h; apply cls_call h; exact rmeet_w _ _ _ _ _ _ _ _ (by first | (with_reducible exact HQ1.out) | (with_reducible exact HQ2.out)) h.1)); simp only [Act.put, List.setIfInBounds_toArray, List.set_cons_zero, List.set_cons_succ]))
          refine wv_nil ?_
          simp only [List.drop_succ_cons, List.drop_zero]
          intro u2 ⟨hO2, hSn⟩
          clear hO
          have hO := hO2
          clear hO2
          replace hS := hS.trans hSn; clear hSn
          go_wp2
          go_roundw
          case rel => exact ⟨j + 1, by omega, by go_num, fun t c ht hc h1 h2 => HNX.out (fun h _ => absurd h HF.out) t c ht hc h1 h2, own_drop hO, hS⟩
          case measure => simp [intOf]; omega
        · have HF : Hid (¬ d.n < b.n) := by show ¬ _; simpa using f2
          have HM1 : Hid (meetB a.p d.p = meetB a.p d.p) := rfl
          have HM2 : Hid (meetB d.p b.p = meetB d.p b.p) := rfl
          have g1 : (a.n < d.n) = True := eq_true (by simpa using f1)
          have g2 : (d.n < b.n) = False := eq_false HF.out
          have HQ1 : Hid (overB ⟨a.p.blk, a.p.off, a.p.dat⟩ ⟨a.p.blk, d.p.off, d.p.dat⟩ = _) := (over_meet HRA.out HRD.out).trans HM1.out
          have HQ2 : Hid (overB ⟨d.p.blk, d.p.off, d.p.dat⟩ ⟨d.p.blk, b.p.off, b.p.dat⟩ = _) := (over_meet HRD.out HRB.out).trans HM2.out
          go_upto_region 13 with (first | (refine own_load1 (b := q) (off := 1) (cs := #[vb, .slice (some ad) m.l.length cap, .int .i64 m.next]) (t := 86) (v := .slice (some ad) m.l.length cap) rfl rfl rfl row_ons (own_get 2 hO rfl) rfl ?_) | (refine own_alloc (T := 93) rfl rfl zero_on rfl hO ?_; clear hO; intro gx u hO hSn; replace hS := hS.trans hSn; clear hSn) | (apply own_store_all (k := 0) rfl rfl rfl rfl sz_on hO rfl; (focus rfl); (focus rfl); (focus rfl); clear hO; intro u hO hSn; replace hS := hS.trans hSn; clear hSn; simp only [List.set_cons_zero, List.set_cons_succ] at hO) | (refine own_loadrow_at (ad := ad.add (j * 4)) (vs := [.int .i64 d.n, .int .i64 d.p.blk, .int .i64 d.p.off, .string d.p.dat]) rfl rfl rfl row_on sz_on rfl (HC.out _ _ _ hO) ?_))
          refine wp_plain_seq (Cls u (_)) 22 (cls_here hO) ?_
          simp only [List.append_eq, List.cons_append, List.nil_append, List.take_succ_cons, List.take_zero]
          repeat (first
            | (apply wv_skip rfl; simp only [Act.put, List.setIfInBounds_toArray, List.set_cons_zero, List.set_cons_succ])
            | (apply wv_load1 rfl rfl rfl; (first | exact row_int | exact row_str | exact row_bool | exact row_u8 | exact row_bys | exact row_pats | exact row_err); (intro w h; (first | exact own_get 0 h.1 rfl | exact own_get 1 h.1 rfl | exact own_get 2 h.1 rfl | exact own_get 3 h.1 rfl | exact own_get 4 h.1 rfl | exact own_get 5 h.1 rfl | exact own_get 6 h.1 rfl | exact own_get 7 h.1 rfl)); (first | (simp only [List.getElem?_toArray, List.getElem?_cons_succ, List.getElem?_cons_zero]; rfl) | rfl); simp only [Act.put, List.setIfInBounds_toArray, List.set_cons_zero, List.set_cons_succ])
            | (apply wv_loadrow rfl rfl rfl; (first | exact row_pat); exact sz_pat; (intro w h; (first | exact own_get 0 h.1 rfl | exact own_get 1 h.1 rfl | exact own_get 2 h.1 rfl | exact own_get 3 h.1 rfl | exact own_get 4 h.1 rfl | exact own_get 5 h.1 rfl | exact own_get 6 h.1 rfl | exact own_get 7 h.1 rfl)); (focus (simp; done)); (first | (simp only [List.drop_zero, List.drop_succ_cons, List.take_succ_cons, List.take_zero]; rfl) | rfl); simp only [Act.put, List.setIfInBounds_toArray, List.set_cons_zero, List.set_cons_succ])
            | (apply wv_run rfl; (focus (intro w h; go_simp; first | done | rfl)); simp only [Act.put, List.setIfInBounds_toArray, List.set_cons_zero, List.set_cons_succ])
            | (apply wv_call rfl; (focus (intro w; go_simp; first | done | exact ⟨rfl, rfl⟩)); (focus (intro w h; apply cls_call h; exact rmeet_w _ _ _ _ _ _ _ _ (by first | (with_reducible exact HQ1.out) | (with_reducible exact HQ2.out)) h.1)); simp only [Act.put, List.setIfInBounds_toArray, List.set_cons_zero, List.set_cons_succ]))
          refine wv_nil ?_
          simp only [List.drop_succ_cons, List.drop_zero]
          intro u2 ⟨hO2, hSn⟩
          clear hO
          have hO := hO2
          clear hO2
          replace hS := hS.trans hSn; clear hSn
          go_wp2
          go_roundw
          case rel => exact ⟨j + 1, by omega, by go_num, fun t c ht hc h1 h2 => HNX.out (fun _ h => absurd h HF.out) t c ht hc h1 h2, own_drop hO, hS⟩
          case measure => simp [intOf]; omega
        · have HF : Hid (j < m.l.length ∧ a.n < d.n ∧ d.n < b.n) := ⟨hlt, by simpa using f1, by simpa using f2⟩
          have g1 : (a.n < d.n) = True := eq_true HF.out.2.1
          have g2 : (d.n < b.n) = True := eq_true HF.out.2.2
          cases hm : meetB a.p d.p with
          | true =>
            have HM1 := Lib.hid hm
            have HM2 : Hid (meetB d.p b.p = meetB d.p b.p) := rfl
            clear hm
            have HQ1 : Hid (overB ⟨a.p.blk, a.p.off, a.p.dat⟩ ⟨a.p.blk, d.p.off, d.p.dat⟩ = _) := (over_meet HRA.out HRD.out).trans HM1.out
            have HQ2 : Hid (overB ⟨d.p.blk, d.p.off, d.p.dat⟩ ⟨d.p.blk, b.p.off, b.p.dat⟩ = _) := (over_meet HRD.out HRB.out).trans HM2.out
            go_upto_region 13 with (first | (refine own_load1 (b := q) (off := 1) (cs := #[vb, .slice (some ad) m.l.length cap, .int .i64 m.next]) (t := 86) (v := .slice (some ad) m.l.length cap) rfl rfl rfl row_ons (own_get 2 hO rfl) rfl ?_) | (refine own_alloc (T := 93) rfl rfl zero_on rfl hO ?_; clear hO; intro gx u hO hSn; replace hS := hS.trans hSn; clear hSn) | (apply own_store_all (k := 0) rfl rfl rfl rfl sz_on hO rfl; (focus rfl); (focus rfl); (focus rfl); clear hO; intro u hO hSn; replace hS := hS.trans hSn; clear hSn; simp only [List.set_cons_zero, List.set_cons_succ] at hO) | (refine own_loadrow_at (ad := ad.add (j * 4)) (vs := [.int .i64 d.n, .int .i64 d.p.blk, .int .i64 d.p.off, .string d.p.dat]) rfl rfl rfl row_on sz_on rfl (HC.out _ _ _ hO) ?_))
            refine wp_plain_seq (Cls u (_)) 22 (cls_here hO) ?_
            simp only [List.append_eq, List.cons_append, List.nil_append, List.take_succ_cons, List.take_zero]
            repeat (first
              | (apply wv_skip rfl; simp only [Act.put, List.setIfInBounds_toArray, List.set_cons_zero, List.set_cons_succ])
              | (apply wv_load1 rfl rfl rfl; (first | exact row_int | exact row_str | exact row_bool | exact row_u8 | exact row_bys | exact row_pats | exact row_err); (intro w h; (first | exact own_get 0 h.1 rfl | exact own_get 1 h.1 rfl | exact own_get 2 h.1 rfl | exact own_get 3 h.1 rfl | exact own_get 4 h.1 rfl | exact own_get 5 h.1 rfl | exact own_get 6 h.1 rfl | exact own_get 7 h.1 rfl)); (first | (simp only [List.getElem?_toArray, List.getElem?_cons_succ, List.getElem?_cons_zero]; rfl) | rfl); simp only [Act.put, List.setIfInBounds_toArray, List.set_cons_zero, List.set_cons_succ])
              | (apply wv_loadrow rfl rfl rfl; (first | exact row_pat); exact sz_pat; (intro w h; (first | exact own_get 0 h.1 rfl | exact own_get 1 h.1 rfl | exact own_get 2 h.1 rfl | exact own_get 3 h.1 rfl | exact own_get 4 h.1 rfl | exact own_get 5 h.1 rfl | exact own_get 6 h.1 rfl | exact own_get 7 h.1 rfl)); (focus (simp; done)); (first | (simp only [List.drop_zero, List.drop_succ_cons, List.take_succ_cons, List.take_zero]; rfl) | rfl); simp only [Act.put, List.setIfInBounds_toArray, List.set_cons_zero, List.set_cons_succ])
              | (apply wv_run rfl; (focus (intro w h; go_simp; first | done | rfl)); simp only [Act.put, List.setIfInBounds_toArray, List.set_cons_zero, List.set_cons_succ])
              | (apply wv_call rfl; (focus (intro w; go_simp; first | done | exact ⟨rfl, rfl⟩)); (focus (intro w h; apply cls_call h; exact rmeet_w _ _ _ _ _ _ _ _ (by first | (with_reducible exact HQ1.out) | (with_reducible exact HQ2.out)) h.1)); simp only [Act.put, List.setIfInBounds_toArray, List.set_cons_zero, List.set_cons_succ]))
            refine wv_nil ?_
            simp only [List.drop_succ_cons, List.drop_zero]
            intro u2 ⟨hO2, hSn⟩
            clear hO
            have hO := hO2
            clear hO2
            replace hS := hS.trans hSn; clear hSn
            go_wp2
            go_ret
            exact .inr (.inl ⟨HIK.out, ⟨j, d, asc_idx HK.out.asc HI.out HD.out HF.out.2.1, asc_idx HK.out.asc HD.out HKB.out HF.out.2.2, HD.out, .inl (by rw [meet_sym]; exact HM1.out)⟩, rfl, rstk_open.2 ⟨vb, _, own_drop (own_drop (own_drop hO))⟩, hS⟩)
          | false =>
            have HM1 := Lib.hid hm
            clear hm
            cases hm : meetB d.p b.p with
            | true =>
              have HM2 := Lib.hid hm
              clear hm
              have HQ1 : Hid (overB ⟨a.p.blk, a.p.off, a.p.dat⟩ ⟨a.p.blk, d.p.off, d.p.dat⟩ = _) := (over_meet HRA.out HRD.out).trans HM1.out
              have HQ2 : Hid (overB ⟨d.p.blk, d.p.off, d.p.dat⟩ ⟨d.p.blk, b.p.off, b.p.dat⟩ = _) := (over_meet HRD.out HRB.out).trans HM2.out
              go_upto_region 13 with (first | (refine own_load1 (b := q) (off := 1) (cs := #[vb, .slice (some ad) m.l.length cap, .int .i64 m.next]) (t := 86) (v := .slice (some ad) m.l.length cap) rfl rfl rfl row_ons (own_get 2 hO rfl) rfl ?_) | (refine own_alloc (T := 93) rfl rfl zero_on rfl hO ?_; clear hO; intro gx u hO hSn; replace hS := hS.trans hSn; clear hSn) | (apply own_store_all (k := 0) rfl rfl rfl rfl sz_on hO rfl; (focus rfl); (focus rfl); (focus rfl); clear hO; intro u hO hSn; replace hS := hS.trans hSn; clear hSn; simp only [List.set_cons_zero, List.set_cons_succ] at hO) | (refine own_loadrow_at (ad := ad.add (j * 4)) (vs := [.int .i64 d.n, .int .i64 d.p.blk, .int .i64 d.p.off, .string d.p.dat]) rfl rfl rfl row_on sz_on rfl (HC.out _ _ _ hO) ?_))
              refine wp_plain_seq (Cls u (_)) 22 (cls_here hO) ?_
              simp only [List.append_eq, List.cons_append, List.nil_append, List.take_succ_cons, List.take_zero]
              repeat (first
                | (apply wv_skip rfl; simp only [Act.put, List.setIfInBounds_toArray, List.set_cons_zero, List.set_cons_succ])
                | (apply wv_load1 rfl rfl rfl; (first | exact row_int | exact row_str | exact row_bool | exact row_u8 | exact row_bys | exact row_pats | exact row_err); (intro w h; (first | exact own_get 0 h.1 rfl | exact own_get 1 h.1 rfl | exact own_get 2 h.1 rfl | exact own_get 3 h.1 rfl | exact own_get 4 h.1 rfl | exact own_get 5 h.1 rfl | exact own_get 6 h.1 rfl | exact own_get 7 h.1 rfl)); (first | (simp only [List.getElem?_toArray, List.getElem?_cons_succ, List.getElem?_cons_zero]; rfl) | rfl); simp only [Act.put, List.setIfInBounds_toArray, List.set_cons_zero, List.set_cons_succ])
                | (apply wv_loadrow rfl rfl rfl; (first | exact row_pat); exact sz_pat; (intro w h; (first | exact own_get 0 h.1 rfl | exact own_get 1 h.1 rfl | exact own_get 2 h.1 rfl | exact own_get 3 h.1 rfl | exact own_get 4 h.1 rfl | exact own_get 5 h.1 rfl | exact own_get 6 h.1 rfl | exact own_get 7 h.1 rfl)); (focus (simp; done)); (first | (simp only [List.drop_zero, List.drop_succ_cons, List.take_succ_cons, List.take_zero]; rfl) | rfl); simp only [Act.put, List.setIfInBounds_toArray, List.set_cons_zero, List.set_cons_succ])
                | (apply wv_run rfl; (focus (intro w h; go_simp; first | done | rfl)); simp only [Act.put, List.setIfInBounds_toArray, List.set_cons_zero, List.set_cons_succ])
                | (apply wv_call rfl; (focus (intro w; go_simp; first | done | exact ⟨rfl, rfl⟩)); (focus (intro w h; apply cls_call h; exact rmeet_w _ _ _ _ _ _ _ _ (by first | (with_reducible exact HQ1.out) | (with_reducible exact HQ2.out)) h.1)); simp only [Act.put, List.setIfInBounds_toArray, List.set_cons_zero, List.set_cons_succ]))
              refine wv_nil ?_
              simp only [List.drop_succ_cons, List.drop_zero]
              intro u2 ⟨hO2, hSn⟩
              clear hO
              have hO := hO2
              clear hO2
              replace hS := hS.trans hSn; clear hSn
              go_wp2
              go_ret
              exact .inr (.inl ⟨HIK.out, ⟨j, d, asc_idx HK.out.asc HI.out HD.out HF.out.2.1, asc_idx HK.out.asc HD.out HKB.out HF.out.2.2, HD.out, .inr HM2.out⟩, rfl, rstk_open.2 ⟨vb, _, own_drop (own_drop (own_drop hO))⟩, hS⟩)
            | false =>
              have HM2 := Lib.hid hm
              clear hm
              have HQ1 : Hid (overB ⟨a.p.blk, a.p.off, a.p.dat⟩ ⟨a.p.blk, d.p.off, d.p.dat⟩ = _) := (over_meet HRA.out HRD.out).trans HM1.out
              have HQ2 : Hid (overB ⟨d.p.blk, d.p.off, d.p.dat⟩ ⟨d.p.blk, b.p.off, b.p.dat⟩ = _) := (over_meet HRD.out HRB.out).trans HM2.out
              go_upto_region 13 with (first | (refine own_load1 (b := q) (off := 1) (cs := #[vb, .slice (some ad) m.l.length cap, .int .i64 m.next]) (t := 86) (v := .slice (some ad) m.l.length cap) rfl rfl rfl row_ons (own_get 2 hO rfl) rfl ?_) | (refine own_alloc (T := 93) rfl rfl zero_on rfl hO ?_; clear hO; intro gx u hO hSn; replace hS := hS.trans hSn; clear hSn) | (apply own_store_all (k := 0) rfl rfl rfl rfl sz_on hO rfl; (focus rfl); (focus rfl); (focus rfl); clear hO; intro u hO hSn; replace hS := hS.trans hSn; clear hSn; simp only [List.set_cons_zero, List.set_cons_succ] at hO) | (refine own_loadrow_at (ad := ad.add (j * 4)) (vs := [.int .i64 d.n, .int .i64 d.p.blk, .int .i64 d.p.off, .string d.p.dat]) rfl rfl rfl row_on sz_on rfl (HC.out _ _ _ hO) ?_))
              refine wp_plain_seq (Cls u (_)) 22 (cls_here hO) ?_
              simp only [List.append_eq, List.cons_append, List.nil_append, List.take_succ_cons, List.take_zero]
              repeat (first
                | (apply wv_skip rfl; simp only [Act.put, List.setIfInBounds_toArray, List.set_cons_zero, List.set_cons_succ])
                | (apply wv_load1 rfl rfl rfl; (first | exact row_int | exact row_str | exact row_bool | exact row_u8 | exact row_bys | exact row_pats | exact row_err); (intro w h; (first | exact own_get 0 h.1 rfl | exact own_get 1 h.1 rfl | exact own_get 2 h.1 rfl | exact own_get 3 h.1 rfl | exact own_get 4 h.1 rfl | exact own_get 5 h.1 rfl | exact own_get 6 h.1 rfl | exact own_get 7 h.1 rfl)); (first | (simp only [List.getElem?_toArray, List.getElem?_cons_succ, List.getElem?_cons_zero]; rfl) | rfl); simp only [Act.put, List.setIfInBounds_toArray, List.set_cons_zero, List.set_cons_succ])
                | (apply wv_loadrow rfl rfl rfl; (first | exact row_pat); exact sz_pat; (intro w h; (first | exact own_get 0 h.1 rfl | exact own_get 1 h.1 rfl | exact own_get 2 h.1 rfl | exact own_get 3 h.1 rfl | exact own_get 4 h.1 rfl | exact own_get 5 h.1 rfl | exact own_get 6 h.1 rfl | exact own_get 7 h.1 rfl)); (focus (simp; done)); (first | (simp only [List.drop_zero, List.drop_succ_cons, List.take_succ_cons, List.take_zero]; rfl) | rfl); simp only [Act.put, List.setIfInBounds_toArray, List.set_cons_zero, List.set_cons_succ])
                | (apply wv_run rfl; (focus (intro w h; go_simp; first | done | rfl)); simp only [Act.put, List.setIfInBounds_toArray, List.set_cons_zero, List.set_cons_succ])
                | (apply wv_call rfl; (focus (intro w; go_simp; first | done | exact ⟨rfl, rfl⟩)); (focus (intro w h; apply cls_call h; exact rmeet_w _ _ _ _ _ _ _ _ (by first | (with_reducible exact HQ1.out) | (with_reducible exact HQ2.out)) h.1)); simp only [Act.put, List.setIfInBounds_toArray, List.set_cons_zero, List.set_cons_succ]))
              refine wv_nil ?_
              simp only [List.drop_succ_cons, List.drop_zero]
              intro u2 ⟨hO2, hSn⟩
              clear hO
              have hO := hO2
              clear hO2
              replace hS := hS.trans hSn; clear hSn
              go_wp2
              go_roundw
              case rel => exact ⟨j + 1, by omega, by go_num, fun t c ht hc h1 h2 => HNX.out (fun _ _ => ⟨HM1.out, HM2.out⟩) t c ht hc h1 h2, own_drop hO, hS⟩
              case measure => simp [intOf]; omega
      · have hje : j = m.l.length := by omega
        subst hje
        have HNB : Hid (¬ SqBusy m.l i k a b) := fun ⟨t, c, h1, h2, hc, h3⟩ => by
          have h4 := HNO.out t c (List.getElem?_eq_some_iff.1 hc).1 hc (asc_num HK.out.asc HI.out hc h1) (asc_num HK.out.asc hc HKB.out h2)
          rw [meet_sym] at h4
          rcases h3 with h3 | h3
          · rw [h4.1] at h3; cases h3
          · rw [h4.2] at h3; cases h3
        cases hjn : joinB a.p ⟨a.p.blk, b.p.off, b.p.dat⟩ with
        | false =>
          have HJ : Hid (joinB ⟨a.p.blk, a.p.off, a.p.dat⟩ ⟨a.p.blk, b.p.off, b.p.dat⟩ = false) := hjn
          clear hjn
          go_upto_region 17 with (first | (apply own_load1 rfl rfl rfl; (first | exact row_int | exact row_str | exact row_bool | exact row_u8 | exact row_bys | exact row_pats | exact row_err); (first | exact own_get 0 hO rfl | exact own_get 1 hO rfl | exact own_get 2 hO rfl | exact own_get 3 hO rfl | exact own_get 4 hO rfl | exact own_get 5 hO rfl | exact own_get 6 hO rfl | exact own_get 7 hO rfl); (first | (simp only [List.getElem?_toArray, List.getElem?_cons_succ, List.getElem?_cons_zero]; rfl) | rfl)) | (refine own_store1 (k := 0) (b := gb) (off := 0) (cs' := #[.int .i64 a.p.blk, .int .i64 b.p.off, .string b.p.dat]) rfl rfl rfl rfl sz_i64 hO rfl rfl (by simp) rfl ?_; clear hO; intro u hO hSn; replace hS := hS.trans hSn; clear hSn; simp only [List.set_cons_zero, List.set_cons_succ] at hO) | (apply own_loadrow rfl rfl rfl; (first | exact row_pat); exact sz_pat; (first | exact own_get 0 hO rfl | exact own_get 1 hO rfl | exact own_get 2 hO rfl | exact own_get 3 hO rfl | exact own_get 4 hO rfl | exact own_get 5 hO rfl | exact own_get 6 hO rfl | exact own_get 7 hO rfl); (focus (simp; done)); (first | (simp only [List.drop_zero, List.drop_succ_cons, List.take_succ_cons, List.take_zero]; rfl) | rfl)) | (go_at_call 70; (with_reducible refine Calls.mono (rjoin_n _ _ _ _ _ _ _ _ hO HJ.out) ?_); clear hO; rintro e u ⟨rfl, hO, hSn⟩; replace hS := hS.trans hSn; clear hSn) | (refine own_alloc (T := 33) rfl rfl zero_pat rfl hO ?_; clear hO; intro gj u hO hSn; replace hS := hS.trans hSn; clear hSn) | (apply own_store_all (k := 0) rfl rfl rfl rfl sz_pat hO rfl; (focus rfl); (focus rfl); (focus rfl); clear hO; intro u hO hSn; replace hS := hS.trans hSn; clear hSn; simp only [List.set_cons_zero, List.set_cons_succ] at hO))
          go_wp2
          go_ret
          exact .inr (.inr (.inl ⟨HIK.out, HNB.out, HJ.out, rfl, rstk_open.2 ⟨vb, _, own_drop (own_drop (own_drop hO))⟩, hS⟩))
        | true =>
          have HJ : Hid (joinB ⟨a.p.blk, a.p.off, a.p.dat⟩ ⟨a.p.blk, b.p.off, b.p.dat⟩ = true) := hjn
          clear hjn
          obtain ⟨J, hJ⟩ : ∃ J, joinM ⟨a.p.blk, a.p.off, a.p.dat⟩ ⟨a.p.blk, b.p.off, b.p.dat⟩ = J := ⟨_, rfl⟩
          have HJM := Lib.hid hJ
          clear hJ
          go_upto_region 17 with (first | (apply own_load1 rfl rfl rfl; (first | exact row_int | exact row_str | exact row_bool | exact row_u8 | exact row_bys | exact row_pats | exact row_err); (first | exact own_get 0 hO rfl | exact own_get 1 hO rfl | exact own_get 2 hO rfl | exact own_get 3 hO rfl | exact own_get 4 hO rfl | exact own_get 5 hO rfl | exact own_get 6 hO rfl | exact own_get 7 hO rfl); (first | (simp only [List.getElem?_toArray, List.getElem?_cons_succ, List.getElem?_cons_zero]; rfl) | rfl)) | (refine own_store1 (k := 0) (b := gb) (off := 0) (cs' := #[.int .i64 a.p.blk, .int .i64 b.p.off, .string b.p.dat]) rfl rfl rfl rfl sz_i64 hO rfl rfl (by simp) rfl ?_; clear hO; intro u hO hSn; replace hS := hS.trans hSn; clear hSn; simp only [List.set_cons_zero, List.set_cons_succ] at hO) | (apply own_loadrow rfl rfl rfl; (first | exact row_pat); exact sz_pat; (first | exact own_get 0 hO rfl | exact own_get 1 hO rfl | exact own_get 2 hO rfl | exact own_get 3 hO rfl | exact own_get 4 hO rfl | exact own_get 5 hO rfl | exact own_get 6 hO rfl | exact own_get 7 hO rfl); (focus (simp; done)); (first | (simp only [List.drop_zero, List.drop_succ_cons, List.take_succ_cons, List.take_zero]; rfl) | rfl)) | (go_at_call 70; (with_reducible refine Calls.mono (rjoin_y _ _ _ _ _ _ _ _ J hO HJ.out HJM.out) ?_); clear hO; rintro e u ⟨rfl, hO, hSn⟩; replace hS := hS.trans hSn; clear hSn) | (refine own_alloc (T := 33) rfl rfl zero_pat rfl hO ?_; clear hO; intro gj u hO hSn; replace hS := hS.trans hSn; clear hSn) | (apply own_store_all (k := 0) rfl rfl rfl rfl sz_pat hO rfl; (focus rfl); (focus rfl); (focus rfl); clear hO; intro u hO hSn; replace hS := hS.trans hSn; clear hSn; simp only [List.set_cons_zero, List.set_cons_succ] at hO))
          go_wp2
          go_loopw [15, 16] (fun v j' wr => ∃ j : Nat, j ≤ m.l.length ∧ j' = .int .i64 j ∧ Own wr (owns 93 4 v (sqR (m.l.take j) a.n b.n J).length (cellsO (sqR (m.l.take j) a.n b.n J)) :: pts gj (.cells #[.int .i64 J.blk, .int .i64 J.off, .string J.dat] 33) :: pts gb (.cells #[.int .i64 a.p.blk, .int .i64 b.p.off, .string b.p.dat] 33) :: pts ga (.cells #[.int .i64 a.p.blk, .int .i64 a.p.off, .string a.p.dat] 33) :: pts q (.cells #[vb, .slice A m.l.length cap, .int .i64 m.next] 86) :: owns 5 1 vb 32 (bcs m.base) :: owns 93 4 (.slice A m.l.length cap) m.l.length (cellsO m.l) :: L) ∧ Same w wr) (fun _ j' _ => m.l.length - (intOf j').toNat)
          case atStart => exact ⟨0, Nat.zero_le _, rfl, owns_nil hO, hS⟩
          case round =>
            clear hO hS
            obtain ⟨j, hj, rfl, hO, hS⟩ := hrel
            by_cases hlt : j < m.l.length
            · obtain ⟨d, hd⟩ : ∃ d, m.l[j]? = some d := ⟨_, List.getElem?_eq_getElem hlt⟩
              obtain ⟨ad, rfl⟩ := (owns_rd (own_drop (own_drop (own_drop (own_drop (own_drop (own_drop hO))))))).addr (by rw [cellsO_length]; omega)
              have HC : Hid (∀ (w' : World) (X Y Z W : HP), Own w' (X :: Y :: Z :: W :: pts q (.cells #[vb, .slice (some ad) m.l.length cap, .int .i64 m.next] 86) :: owns 5 1 vb 32 (bcs m.base) :: owns 93 4 (.slice (some ad) m.l.length cap) m.l.length (cellsO m.l) :: L) → (∀ (t : Nat) (u : Value), d.cells[t]? = some u → w'.cell? ((ad.add (j * 4)).add t) = some u)) := fun w' X Y Z W h => (on_cells (owns_rd (own_drop (own_drop (own_drop (own_drop (own_drop (own_drop h))))))) hd).2.2
              have hm1 : (j : Int) < m.l.length := by omega
              have HST := Lib.hid (sqR_step (i := a.n) (n := b.n) (j := J) hd)
              have HLE : Hid ((sqR (m.l.take j) a.n b.n J).length ≤ 200) := Nat.le_trans (sqR_len _ _ _ _ _) HLN.out
              clear hd
              rcases (show (decide (d.n = a.n) = true ∨ (decide (d.n = a.n) = false ∧ decide (d.n = b.n) = true)) ∨ (decide (d.n = a.n) = false ∧ decide (d.n = b.n) = false) from by
                cases h1 : decide (d.n = a.n) <;> cases h2 : decide (d.n = b.n) <;> simp) with (f1 | ⟨f1, f2⟩) | ⟨f1, f2⟩
              · have HF : Hid (d.n = a.n) := by show _ = _; simpa using f1
                have HF2 : Hid (¬ d.n = b.n) := by show ¬ _; have := HF.out; have := HAB.out; omega
                have g1 : ((d.n : Int) == a.n) = true := by simp [HF.out]
                have g2 : ((d.n : Int) != b.n) = true := by have := HF2.out; simp; omega
                clear f1
                go_wp2_with (first | (refine own_load1 (b := q) (off := 1) (cs := #[vb, .slice (some ad) m.l.length cap, .int .i64 m.next]) (t := 86) (v := .slice (some ad) m.l.length cap) rfl rfl rfl row_ons (own_get 4 hO rfl) rfl ?_) | (refine own_alloc (T := 93) rfl rfl zero_on rfl hO ?_; clear hO; intro gx u hO hSn; replace hS := hS.trans hSn; clear hSn) | (apply own_store_all (k := 0) rfl rfl rfl rfl sz_on hO rfl; (focus rfl); (focus rfl); (focus rfl); clear hO; intro u hO hSn; replace hS := hS.trans hSn; clear hSn; simp only [List.set_cons_zero, List.set_cons_succ] at hO) | (refine own_loadrow_at (ad := ad.add (j * 4)) (vs := [.int .i64 d.n, .int .i64 d.p.blk, .int .i64 d.p.off, .string d.p.dat]) rfl rfl rfl row_on sz_on rfl (HC.out _ _ _ _ _ hO) ?_) | (refine own_load1 (b := gx) (off := 0) (cs := #[.int .i64 d.n, .int .i64 d.p.blk, .int .i64 d.p.off, .string d.p.dat]) (t := 93) (v := .int .i64 d.n) rfl rfl rfl row_int (own_get 0 hO rfl) rfl ?_) | (refine own_loadrow (b := gj) (off := 0) (cs := #[.int .i64 J.blk, .int .i64 J.off, .string J.dat]) (t := 33) (vs := [.int .i64 J.blk, .int .i64 J.off, .string J.dat]) rfl rfl rfl row_pat sz_pat (own_get 2 hO rfl) (by simp) rfl ?_) | (refine own_store (k := 0) (b := gx) (off := 1) (vs := [.int .i64 J.blk, .int .i64 J.off, .string J.dat]) (new := [.int .i64 d.n, .int .i64 J.blk, .int .i64 J.off, .string J.dat]) rfl rfl rfl rfl sz_pat hO rfl rfl rfl (by simp [Value.oneCell']) (by simp) rfl ?_; clear hO; intro u hO hSn; replace hS := hS.trans hSn; clear hSn; simp only [List.set_cons_zero] at hO) | (refine own_load1 (b := gx) (off := 0) (cs := #[.int .i64 d.n, .int .i64 J.blk, .int .i64 J.off, .string J.dat]) (t := 93) (v := .int .i64 d.n) rfl rfl rfl row_int (own_get 0 hO rfl) rfl ?_) | (refine own_loadrow (b := gx) (off := 0) (cs := #[.int .i64 d.n, .int .i64 J.blk, .int .i64 J.off, .string J.dat]) (t := 93) (vs := [.int .i64 d.n, .int .i64 J.blk, .int .i64 J.off, .string J.dat]) rfl rfl rfl row_on sz_on (own_get 0 hO rfl) (by simp) rfl ?_; replace hO := own_drop hO) | (refine own_append (m := 1) (n := (sqR (m.l.take j) a.n b.n J).length) (xs := (cellsO (sqR (m.l.take j) a.n b.n J))) (news := [.int .i64 d.n, .int .i64 J.blk, .int .i64 J.off, .string J.dat]) rfl rfl rfl rfl Try.underlying84 info_on3 rfl (by decide) (own_perm (own_alloc_new hO (.cells #[.int .i64 d.n, .int .i64 J.blk, .int .i64 J.off, .string J.dat] 93)) (List.Perm.swap _ _ _)) ?_ (on_one ⟨d.n, J⟩) ?_ ?_ ?_; (exact rd_block (own_get 1 (own_perm (own_alloc_new hO (.cells #[.int .i64 d.n, .int .i64 J.blk, .int .i64 J.off, .string J.dat] 93)) (List.Perm.swap _ _ _)) rfl) rfl (by simp) (by simp) (by simp)); (have := HLE.out; unfold maxLen; omega); (have := HLE.out; omega); clear hO; intro v' w9 hO hS9 hv'))
                go_roundw
                case rel =>
                  refine ⟨j + 1, by omega, by go_num, ?_, hS.trans ((Same.alloc _ _).trans hS9)⟩
                  rw [HST.out, if_neg HF2.out, if_pos HF.out, List.length_append, cellsO_append]
                  exact own_skip hO
                case measure => simp [intOf]; omega
              · have HF : Hid (d.n = b.n) := by show _ = _; simpa using f2
                have g1 : ((d.n : Int) == a.n) = false := by have := HF.out; have := HAB.out; simp; omega
                have g2 : ((d.n : Int) != b.n) = false := by have := HF.out; simp [this]
                clear f1 f2
                go_wp2_with (first | (refine own_load1 (b := q) (off := 1) (cs := #[vb, .slice (some ad) m.l.length cap, .int .i64 m.next]) (t := 86) (v := .slice (some ad) m.l.length cap) rfl rfl rfl row_ons (own_get 4 hO rfl) rfl ?_) | (refine own_alloc (T := 93) rfl rfl zero_on rfl hO ?_; clear hO; intro gx u hO hSn; replace hS := hS.trans hSn; clear hSn) | (apply own_store_all (k := 0) rfl rfl rfl rfl sz_on hO rfl; (focus rfl); (focus rfl); (focus rfl); clear hO; intro u hO hSn; replace hS := hS.trans hSn; clear hSn; simp only [List.set_cons_zero, List.set_cons_succ] at hO) | (refine own_loadrow_at (ad := ad.add (j * 4)) (vs := [.int .i64 d.n, .int .i64 d.p.blk, .int .i64 d.p.off, .string d.p.dat]) rfl rfl rfl row_on sz_on rfl (HC.out _ _ _ _ _ hO) ?_) | (refine own_load1 (b := gx) (off := 0) (cs := #[.int .i64 d.n, .int .i64 d.p.blk, .int .i64 d.p.off, .string d.p.dat]) (t := 93) (v := .int .i64 d.n) rfl rfl rfl row_int (own_get 0 hO rfl) rfl ?_))
                go_roundw
                case rel =>
                  refine ⟨j + 1, by omega, by go_num, ?_, hS⟩
                  rw [HST.out, if_pos HF.out, List.append_nil]
                  exact own_drop hO
                case measure => simp [intOf]; omega
              · have HF : Hid (¬ d.n = a.n ∧ ¬ d.n = b.n) := ⟨by simpa using f1, by simpa using f2⟩
                have g1 : ((d.n : Int) == a.n) = false := by have := HF.out.1; simp; omega
                have g2 : ((d.n : Int) != b.n) = true := by have := HF.out.2; simp; omega
                clear f1 f2
                go_wp2_with (first | (refine own_load1 (b := q) (off := 1) (cs := #[vb, .slice (some ad) m.l.length cap, .int .i64 m.next]) (t := 86) (v := .slice (some ad) m.l.length cap) rfl rfl rfl row_ons (own_get 4 hO rfl) rfl ?_) | (refine own_alloc (T := 93) rfl rfl zero_on rfl hO ?_; clear hO; intro gx u hO hSn; replace hS := hS.trans hSn; clear hSn) | (apply own_store_all (k := 0) rfl rfl rfl rfl sz_on hO rfl; (focus rfl); (focus rfl); (focus rfl); clear hO; intro u hO hSn; replace hS := hS.trans hSn; clear hSn; simp only [List.set_cons_zero, List.set_cons_succ] at hO) | (refine own_loadrow_at (ad := ad.add (j * 4)) (vs := [.int .i64 d.n, .int .i64 d.p.blk, .int .i64 d.p.off, .string d.p.dat]) rfl rfl rfl row_on sz_on rfl (HC.out _ _ _ _ _ hO) ?_) | (refine own_load1 (b := gx) (off := 0) (cs := #[.int .i64 d.n, .int .i64 d.p.blk, .int .i64 d.p.off, .string d.p.dat]) (t := 93) (v := .int .i64 d.n) rfl rfl rfl row_int (own_get 0 hO rfl) rfl ?_) | (refine own_loadrow (b := gx) (off := 0) (cs := #[.int .i64 d.n, .int .i64 d.p.blk, .int .i64 d.p.off, .string d.p.dat]) (t := 93) (vs := [.int .i64 d.n, .int .i64 d.p.blk, .int .i64 d.p.off, .string d.p.dat]) rfl rfl rfl row_on sz_on (own_get 0 hO rfl) (by simp) rfl ?_; replace hO := own_drop hO) | (refine own_append (m := 1) (n := (sqR (m.l.take j) a.n b.n J).length) (xs := (cellsO (sqR (m.l.take j) a.n b.n J))) (news := [.int .i64 d.n, .int .i64 d.p.blk, .int .i64 d.p.off, .string d.p.dat]) rfl rfl rfl rfl Try.underlying84 info_on3 rfl (by decide) (own_perm (own_alloc_new hO (.cells #[.int .i64 d.n, .int .i64 d.p.blk, .int .i64 d.p.off, .string d.p.dat] 93)) (List.Perm.swap _ _ _)) ?_ (on_one d) ?_ ?_ ?_; (exact rd_block (own_get 1 (own_perm (own_alloc_new hO (.cells #[.int .i64 d.n, .int .i64 d.p.blk, .int .i64 d.p.off, .string d.p.dat] 93)) (List.Perm.swap _ _ _)) rfl) rfl (by simp) (by simp) (by simp)); (have := HLE.out; unfold maxLen; omega); (have := HLE.out; omega); clear hO; intro v' w9 hO hS9 hv'))
                go_roundw
                case rel =>
                  refine ⟨j + 1, by omega, by go_num, ?_, hS.trans ((Same.alloc _ _).trans hS9)⟩
                  rw [HST.out, if_neg HF.out.2, if_neg HF.out.1, List.length_append, cellsO_append]
                  exact own_skip hO
                case measure => simp [intOf]; omega
            · have hje : j = m.l.length := by omega
              subst hje
              rw [List.take_length] at hO
              obtain ⟨A3, c3, e3⟩ := (owns_rd hO).slice
              have HE3 := Lib.hid e3
              have HSQ : Hid (sqR m.l a.n b.n J = (m.squashed i k a.n J).l) := sqR_eq HK.out HI.out HKB.out J
              clear e3
              go_wp2_with (first | (refine own_load1 (b := q) (off := 1) (cs := #[vb, .slice A m.l.length cap, .int .i64 m.next]) (t := 86) (v := .slice A m.l.length cap) rfl rfl rfl row_ons (own_get 4 hO rfl) rfl ?_) | (refine own_store1 (k := 4) (b := q) (off := 1) (v := u15) (cs := #[vb, .slice A m.l.length cap, .int .i64 m.next]) (cs' := #[vb, u15, .int .i64 m.next]) rfl rfl rfl rfl sz_ons hO rfl (by rw [HE3.out]; rfl) (by simp) rfl ?_; clear hO; intro u hO hSn; replace hS := hS.trans hSn; clear hSn; simp only [List.set_cons_zero, List.set_cons_succ] at hO))
              go_ret
              have hJJ : joinM a.p ⟨a.p.blk, b.p.off, b.p.dat⟩ = J := HJM.out
              refine .inr (.inr (.inr ⟨HIK.out, HNB.out, HJ.out, rfl, ?_, hS⟩))
              rw [hJJ]
              refine rstk_open.2 ⟨vb, u15, ?_⟩
              unfold rstkL
              rw [← HSQ.out]
              exact own_sub (own_perm hO (perm_count (l' := [pts q (.cells #[vb, u15, .int .i64 m.next] 86), owns 5 1 vb 32 (bcs m.base), owns 93 4 u15 (sqR m.l a.n b.n J).length (cellsO (sqR m.l a.n b.n J))] ++ (pts gj (.cells #[.int .i64 J.blk, .int .i64 J.off, .string J.dat] 33) :: pts gb (.cells #[.int .i64 a.p.blk, .int .i64 b.p.off, .string b.p.dat] 33) :: pts ga (.cells #[.int .i64 a.p.blk, .int .i64 a.p.off, .string a.p.dat] 33) :: owns 93 4 (.slice A m.l.length cap) m.l.length (cellsO m.l) :: L)) fun x => by simp only [List.count_append, List.count_cons, List.count_nil]; omega)) (List.Sublist.append (List.Sublist.refl _) (.cons _ (.cons _ (.cons _ (.cons _ (List.Sublist.refl _))))))
end
end Go.Proofs.Ytdcbfdepkbplbaa.H
