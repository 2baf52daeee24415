/- The plain law behind EngineSyncs: without bad blocks a Sync lets all last. Opening a law's argument: deeds on an engine. Both engines do the same; the law's do. The contracts of sorts, keys and clones at this program, laid in plain words. -/
import Derived.Test.YtlmkcnkidkoilaaGreatZ32
import Derived.Test.YtlmkcnkidkoilaaGreatZ23
import Derived.Test.YtlmkcnkidkoilaaGreatZ34
import Derived.Test.YtlmkcnkidkoilaaGreatZ35
import Derived.Test.YtlmkcnkidkoilaaGreatChecked
import Derived.Shelf.Slices.CompactI
set_option linter.unusedVariables false
set_option linter.unusedSimpArgs false
namespace Go.Proofs.YtlmkcnkidkoilaaGreat.H
open Go.RowKit
/-- A block that has versions was written. -/
def Sne (E : Eng) : Prop := ∀ (i : Nat) (b : Blk), E.m[i]? = some b → b.vs ≠ [] → E.s i ≠ []
/-- No block is bad. -/
def Hale (E : Eng) : Prop := ∀ b ∈ E.m, b.bad = false
theorem Sne.write {E : Eng} (h : Sne E) (i : Nat) : Sne (E.writeM i).2 := by
  rcases write_cases E i with e | ⟨b, hb, _, hr, _, e⟩
  · rw [e]; exact h
  · rw [e]
    intro j c hc hv
    show (if j = i then readyL E.l i else E.s j) ≠ []
    by_cases ej : j = i
    · rw [if_pos ej]; exact hr
    · rw [if_neg ej]
      have hc : (E.m.set i (b.wr (E.bytes i b fun x => (readyL E.l i).contains (x.n : Int))))[j]? = some c := hc
      rw [List.getElem?_set, if_neg (fun h => ej h.symm)] at hc
      exact h j c hc hv
theorem flushed_vs {E : Eng} : ∀ b ∈ E.flushed.m, b.vs = [] := fun b hb => by
  have hb : b ∈ crashL allV 0 E.m := hb
  rw [crashL_all] at hb
  obtain ⟨c, _, rfl⟩ := List.mem_map.1 hb
  rfl
theorem Sne.flushed {E : Eng} : Sne E.flushed := fun i b hb hv => absurd (flushed_vs b (List.mem_of_getElem? hb)) hv
theorem addM_s (E : Eng) (l : List It) : (E.addM l).2.s = E.s := by
  unfold Eng.addM
  split
  · rfl
  · split
    · rfl
    · split
      · rfl
      · exact Eng.addK_s E E.next l
theorem Sne.add {E : Eng} (h : Sne E) (l : List It) : Sne (E.addM l).2 := by
  unfold Sne
  rw [addM_m, addM_s]
  exact h
theorem Sne.spoil {E : Eng} (h : Sne E) {i : Nat} {b : Blk} (bad : Bool) (hb : E.m[i]? = some b) : Sne ⟨E.m.set i ⟨b.s, b.vs, bad⟩, E.l, E.s, E.next⟩ := by
  intro j c hc hv
  have hc : (E.m.set i ⟨b.s, b.vs, bad⟩)[j]? = some c := hc
  by_cases e : i = j
  · subst e
    rw [List.getElem?_set, if_pos rfl, if_pos (List.getElem?_eq_some_iff.1 hb).1] at hc
    cases hc
    exact h i b hb hv
  · rw [List.getElem?_set, if_neg e] at hc
    exact h j c hc hv
theorem Sne.fresh (n : Nat) : Sne (eng0 n) := fun i b hb hv => by
  have hb := List.mem_of_getElem? hb
  have hb : b ∈ crashL allV 0 _ := hb
  rw [crashL_all] at hb
  obtain ⟨c, _, rfl⟩ := List.mem_map.1 hb
  exact absurd rfl hv
theorem writes_keep {P : Eng → Prop} (hw : ∀ F i, P F → P (F.writeM i).2) {E : Eng} (h : P E) : ∀ k, P (E.writes k)
  | 0 => h
  | k + 1 => by rw [writes_next]; exact hw _ _ (writes_keep hw h k)
theorem syncGo_keep {P : Eng → Prop} (hr : ∀ F, P F → P F.round) : ∀ (k : Nat) (E : Eng), P E → P (Eng.syncGo k E).2
  | 0, E, h => h
  | k + 1, E, h => by
    rw [syncGo_succ]
    split
    · exact h
    · split
      · exact hr E h
      · exact syncGo_keep hr k E.round (hr E h)
theorem sync_keep {P : Eng → Prop} (hr : ∀ F, P F → P F.round) {E : Eng} (h : P E) : P E.sync.2 := syncGo_keep hr _ E h
theorem sync_ok {E : Eng} (h : E.Ok) (hI : E.Inv) : E.sync.2.Ok ∧ E.sync.2.Inv := sync_keep (P := fun F => F.Ok ∧ F.Inv) (fun F h => ⟨round_ok h.1, round_inv h.2 h.1⟩) ⟨h, hI⟩
theorem Sne.sync {E : Eng} (h : Sne E) : Sne E.sync.2 := sync_keep (P := Sne) (fun F h => Sne.flushed) h
theorem sync_vl {n : Nat} {E : Eng} (h : Vl n E) : Vl n E.sync.2 := sync_keep (P := Vl n) (fun F h => Vl.flushed n) h
theorem sync_m (E : Eng) : E.sync.2.m.length = E.m.length := sync_keep (P := fun F => F.m.length = E.m.length) (fun F h => by rw [round_m]; exact h) rfl
theorem sync_nx (E : Eng) : E.sync.2.next = E.next := sync_keep (P := fun F => F.next = E.next) (fun F h => by show (F.writes F.m.length).next = E.next; rw [writes_nx]; exact h) rfl
theorem Hale.write {E : Eng} (h : Hale E) (i : Nat) : Hale (E.writeM i).2 := by
  rcases write_cases E i with e | ⟨b, hb, hbad, hr, _, e⟩
  · rw [e]; exact h
  · rw [e]
    intro c hc
    rcases List.mem_or_eq_of_mem_set hc with hc | rfl
    · exact h c hc
    · exact hbad
theorem Hale.flushed {E : Eng} (h : Hale E) : Hale E.flushed := fun b hb => by
  have hb : b ∈ crashL allV 0 E.m := hb
  rw [crashL_all] at hb
  obtain ⟨c, hc, rfl⟩ := List.mem_map.1 hb
  exact h c hc
theorem Hale.round {E : Eng} (h : Hale E) : Hale E.round := (writes_keep (P := Hale) (fun F i h => h.write i) h _).flushed
/-- The first one that waits could be written. -/
theorem ready_first {E : Eng} (hA : E.Ok) {x : Wt} {r : List Wt} (hl : E.l = x :: r) : (x.n : Int) ∈ readyL E.l x.p.blk := by
  have hx : x ∈ E.l := by rw [hl]; exact List.mem_cons_self ..
  refine (ready_iff hA.asc hx).2 ⟨rfl, fun d hd hw => ?_⟩
  exfalso
  have h1 := hA.asc.beh x hx d hd
  obtain ⟨y, hy, e⟩ := List.mem_map.1 hw
  have e : ((y.n : Nat) : Int) = d := e
  have h2 := hA.asc.asc
  rw [hl] at hy h2
  rcases List.mem_cons.1 hy with rfl | hy
  · omega
  · have := (List.pairwise_cons.1 h2).1 y hy
    omega
theorem write_s {E : Eng} {i : Nat} (j : Nat) (h : j ≠ i) : (E.writeM i).2.s j = E.s j := by
  rcases write_cases E i with e | ⟨b, hb, _, hr, _, e⟩
  · rw [e]
  · rw [e]
    show (if j = i then readyL E.l i else E.s j) = _
    rw [if_neg h]
theorem write_at {E : Eng} {i : Nat} {b : Blk} (hb : E.m[i]? = some b) (hbad : b.bad = false) (hr : readyL E.l i ≠ []) : (E.writeM i).2.s i = readyL E.l i := by
  unfold Eng.writeM
  rw [hb]
  simp only
  by_cases h2 : readyL E.l i = E.s i
  · rw [if_pos (.inr h2)]; exact h2.symm
  · rw [if_neg (fun h => h.elim hr h2), if_neg (by rw [hbad]; decide)]
    show (if i = i then readyL E.l i else E.s i) = _
    rw [if_pos rfl]
theorem writes_at {E : Eng} (hH : Hale E) {i : Nat} (hi : i < E.m.length) (hr : readyL E.l i ≠ []) : ∀ k, i < k → (E.writes k).s i = readyL E.l i
  | 0, h => by omega
  | k + 1, h => by
    rw [writes_next]
    by_cases e : i = k
    · subst e
      obtain ⟨b, hb⟩ : ∃ b, (E.writes i).m[i]? = some b := ⟨_, List.getElem?_eq_getElem (by rw [writes_len]; exact hi)⟩
      have h1 := write_at hb (writes_keep (P := Hale) (fun F i h => h.write i) hH i b (List.mem_of_getElem? hb)) (by rw [writes_l]; exact hr)
      rw [h1, writes_l]
    · rw [write_s i e]
      exact writes_at hH hi hr k (by omega)
theorem round_less {E : Eng} (hA : E.Ok) (hH : Hale E) (h0 : E.l ≠ []) : E.round.l.length < E.l.length := by
  obtain ⟨x, r, hl⟩ : ∃ x r, E.l = x :: r := by
    cases h : E.l with
    | nil => exact absurd h h0
    | cons x r => exact ⟨x, r, rfl⟩
  have hx : x ∈ E.l := by rw [hl]; exact List.mem_cons_self ..
  have hf := ready_first hA hl
  obtain ⟨hr1, hr2⟩ := hA.right x hx
  obtain ⟨p1, p2, p3, p4, p5, p6⟩ := rightB_iff.1 hr1
  obtain ⟨i, hi⟩ : ∃ i : Nat, x.p.blk = (i : Int) := ⟨x.p.blk.toNat, by omega⟩
  rw [hi] at hf hr2
  have h1 := writes_at hH (i := i) (by omega) (List.ne_nil_of_mem hf) E.m.length (by omega)
  show ((E.writes E.m.length).l.filter _).length < _
  rw [writes_l]
  rw [List.length_filter_lt_length_iff_exists]
  refine ⟨x, hx, ?_⟩
  have : inAny (E.writes E.m.length).m.length (E.writes E.m.length).s (x.n : Int) = true := by
    unfold inAny
    rw [List.any_eq_true]
    refine ⟨i, List.mem_range.2 (by rw [writes_len]; omega), ?_⟩
    rw [h1]
    simpa using hf
  rw [this]
  decide
/-- Without bad blocks a Sync lets all last. -/
theorem sync_all : ∀ (n : Nat) (E : Eng), E.l.length = n → E.Ok → Hale E → E.sync.1 = 0 ∧ E.sync.2.l = [] := by
  intro n
  induction n using Nat.strongRecOn with
  | _ n ih =>
    intro E hn hA hH
    by_cases h0 : E.l.length = 0
    · rw [sync_none h0]
      exact ⟨rfl, List.eq_nil_of_length_eq_zero h0⟩
    · have h1 := round_less hA hH (fun h => h0 (by rw [h]; rfl))
      rw [sync_on h0 (by omega)]
      exact ih _ (by omega) E.round rfl (round_ok hA) hH.round
/-- Where nothing waits, no block has versions. -/
theorem none_vs {E : Eng} (hI : E.Inv) (hs : Sne E) (hl : E.l = []) : ∀ b ∈ E.m, b.vs = [] := fun b hb => by
  obtain ⟨i, hi⟩ := List.getElem?_of_mem hb
  rcases hI.vers i b hi with h | ⟨h, _⟩
  · exact h.1
  · exfalso
    have h1 := hs i b hi h
    cases h2 : E.s i with
    | nil => exact h1 h2
    | cons d t =>
      obtain ⟨x, hx, _⟩ := hI.blk i d (by rw [h2]; exact List.mem_cons_self ..)
      rw [hl] at hx
      cases hx
theorem crashL_no (pk : Nat → Nat → Int) : ∀ (m : List Blk) (k : Nat), (∀ b ∈ m, b.vs = []) → crashL pk k m = m
  | [], k, h => rfl
  | b :: r, k, h => by
    unfold crashL
    rw [if_pos (h b (List.mem_cons_self ..)), crashL_no pk r k (fun c hc => h c (List.mem_cons_of_mem _ hc))]
theorem bytes_none {E : Eng} (hl : E.l = []) (i : Nat) (b : Blk) (f : Wt → Bool) : E.bytes i b f = b.s := by
  unfold Eng.bytes
  rw [hl]
  rfl
end Go.Proofs.YtlmkcnkidkoilaaGreat.H
set_option linter.unusedVariables false
set_option linter.unusedSimpArgs false
set_option maxRecDepth 100000
namespace Go.Proofs.YtlmkcnkidkoilaaGreat.H
open Go.ChangeShapes Go.WideShapes Go.ChangeAt Go.RowKit Go.Deep Go.Joins
section
variable {H : Type} {enc : TypeId × Value → H} {w : World} {base : Nat} {spare : Nat → Bool} {held : Bool}
def cellsY (ds : List EDeed) : List Value := ds.flatMap EDeed.cells
theorem cellsY_length (ds : List EDeed) : (cellsY ds).length = ds.length * 4 := by
  induction ds with
  | nil => rfl
  | cons d ds ih => simp only [cellsY, List.flatMap_cons, List.length_append, List.length_cons] at ih ⊢; rw [ih]; simp [EDeed.cells]; omega
theorem cellsY_at (ds : List EDeed) (k : Nat) (d : EDeed) (hk : ds[k]? = some d) (j : Nat) (u : Value) (hu : d.cells[j]? = some u) : (cellsY ds)[k * 4 + j]? = some u := by
  induction ds generalizing k with
  | nil => simp at hk
  | cons e ds ih =>
    have h4 : e.cells.length = 4 := rfl
    cases k with
    | zero =>
      simp at hk
      subst hk
      have hj := (List.getElem?_eq_some_iff.1 hu).1
      simp only [cellsY, List.flatMap_cons]
      rw [List.getElem?_append_left (by omega), ← hu]
      congr 1
      omega
    | succ k =>
      simp only [List.getElem?_cons_succ] at hk
      have := ih k hk
      simp only [cellsY, List.flatMap_cons] at this ⊢
      rw [List.getElem?_append_right (by omega), ← this]
      congr 1
      omega
theorem open_edeeds {r : Reach} {b0 : Nat} {v : Value} {d : DataW H} {p : List MemPlace} (hv : Value.okWide Tryz.prog w r b0 22 v) (h : DataW.Trod enc Tryz.prog w base spare held 22 v d p) :
    ∃ (A : Option Addr) (n c : Nat) (ds : List EDeed), v = .slice A n c ∧ n = ds.length ∧ Rd w 4 (.slice A n c) n (cellsY ds) ∧ ∀ d ∈ ds, d.At w := by
  obtain ⟨A, n, c, rfl⟩ := okWide_slice Tryz.underlying22 hv
  obtain ⟨fuel, hf⟩ := h
  rcases open_slice Tryz.underlying22 hf with ⟨hcs, _⟩ | ⟨a, len, cap, m, k, D, Pl, hcs, _, hl, hm, hmm, _, hi⟩
  · simp [Value.cells] at hcs
    obtain ⟨rfl, rfl, rfl⟩ := hcs
    exact ⟨_, _, _, [], rfl, rfl, rd_nil _ _, fun d hd => by cases hd⟩
  · simp [Value.cells] at hcs
    obtain ⟨rfl, rfl, rfl⟩ := hcs
    have hml : n ≤ m := by rw [hmm]; split <;> omega
    have hc4 : Tryz.prog.cellsOf 56 = 4 := by kernel_rfl
    have key : ∀ i, i < n → ∃ d : EDeed, d.At w ∧ ∀ j u, d.cells[j]? = some u → w.cell? (a.add (i * 4 + j)) = some u := by
      intro i hin
      obtain ⟨cs', hc, ht⟩ := hi i (by omega)
      rw [hc4] at hc
      obtain ⟨_, hcl, hat⟩ := World.cells?_some hc
      obtain ⟨d, rfl, hd⟩ := open_edeed_at ht
      refine ⟨d, hd, fun j u hu => ?_⟩
      have hj : j < 4 := (List.getElem?_eq_some_iff.1 hu).1
      rw [← addr_add, hat j hj, hu]
    have build : ∀ m, m ≤ n → ∃ ds : List EDeed, ds.length = m ∧ (∀ d ∈ ds, d.At w) ∧ ∀ j u, (cellsY ds)[j]? = some u → w.cell? (a.add j) = some u := by
      intro m
      induction m with
      | zero => exact fun _ => ⟨[], rfl, (fun d hd => by cases hd), (fun j u hu => by simp [cellsY] at hu)⟩
      | succ m ih =>
        intro hm
        obtain ⟨ds, hl, had, hps⟩ := ih (by omega)
        obtain ⟨d, hd, hcell⟩ := key m (by omega)
        refine ⟨ds ++ [d], by simp [hl], fun x hx => ?_, fun j u hu => ?_⟩
        · rcases List.mem_append.1 hx with hx | hx
          · exact had x hx
          · simp at hx; subst hx; exact hd
        have e : cellsY (ds ++ [d]) = cellsY ds ++ d.cells := by simp [cellsY]
        rw [e] at hu
        rcases Nat.lt_or_ge j (cellsY ds).length with hj | hj
        · rw [List.getElem?_append_left hj] at hu
          exact hps j u hu
        · rw [List.getElem?_append_right hj] at hu
          have := hcell _ u hu
          rw [cellsY_length, hl] at hj this
          rwa [show m * 4 + (j - m * 4) = j by omega] at this
    obtain ⟨ds, h1, h2, h3⟩ := build n (Nat.le_refl _)
    exact ⟨_, _, _, ds, rfl, h1.symm, ⟨by rw [cellsY_length, h1], _, _, rfl, hl, by unfold maxLen at hm; omega, fun j u hu => ⟨a, rfl, h3 j u hu⟩⟩, h2⟩
end
end Go.Proofs.YtlmkcnkidkoilaaGreat.H
set_option linter.unusedVariables false
set_option linter.unusedSimpArgs false
set_option maxRecDepth 100000
namespace Go.Proofs.YtlmkcnkidkoilaaGreat.H
open Go.RowKit
theorem inI_lo {d : Int} (h : inI d) : -9223372036854775808 ≤ d := by
  unfold inI at h
  have e1 : IntKind.i64.signed = true := rfl
  have e2 : IntKind.i64.bits = 64 := rfl
  simp only [Lit.wf, IntKind.min, IntKind.max, e1, e2, if_true, Bool.and_eq_true, decide_eq_true_eq] at h
  omega
/-- What stays true of an engine behind k deeds. -/
structure Pk (k : Nat) (E : Eng) : Prop where
  ok : E.Ok
  inv : E.Inv
  sne : Sne E
  vl : Vl k E
  m5 : E.m.length = 5
  next : E.next ≤ 12 * k
theorem Pk.start : Pk 0 (eng0 5) := ⟨eng0_ok 5 (by decide), eng0_inv 5, Sne.fresh 5, Vl.fresh0 0 5, by show (crashL allV 0 _).length = 5; rw [crashL_len]; simp [fresh], Nat.zero_le _⟩
theorem Pk.mono {k k' : Nat} {E : Eng} (h : Pk k E) (hk : k ≤ k') : Pk k' E := ⟨h.ok, h.inv, h.sne, h.vl.mono hk, h.m5, by have := h.next; omega⟩
theorem Pk.write {k : Nat} {E : Eng} (h : Pk k E) (i : Nat) : Pk (k + 1) (E.writeM i).2 := ⟨h.ok.write i, h.inv.write h.ok i, h.sne.write i, h.vl.write i, by rw [write_len]; exact h.m5, by rw [write_next]; have := h.next; omega⟩
theorem Pk.flushed {k : Nat} {E : Eng} (h : Pk k E) : Pk k E.flushed := ⟨h.ok.flushed, h.inv.flushed h.ok, Sne.flushed, Vl.flushed k, by rw [flushed_len]; exact h.m5, h.next⟩
theorem Pk.sync {k : Nat} {E : Eng} (h : Pk k E) : Pk k E.sync.2 := ⟨(sync_ok h.ok h.inv).1, (sync_ok h.ok h.inv).2, h.sne.sync, sync_vl h.vl, by rw [sync_m]; exact h.m5, by rw [sync_nx]; exact h.next⟩
theorem Pk.spoil {k : Nat} {E : Eng} (h : Pk k E) {i : Nat} {b : Blk} (bad : Bool) (hb : E.m[i]? = some b) : Pk k ⟨E.m.set i ⟨b.s, b.vs, bad⟩, E.l, E.s, E.next⟩ :=
  ⟨h.ok.spoil _ (by simp), h.inv.spoil bad hb, h.sne.spoil bad hb, fun c hc => by
    rcases List.mem_or_eq_of_mem_set hc with hc | rfl
    · exact h.vl c hc
    · exact h.vl b (List.mem_of_getElem? hb), by simpa using h.m5, h.next⟩
theorem addM_nx (E : Eng) (l : List It) : (E.addM l).2.next ≤ E.next + l.length := by
  unfold Eng.addM
  split
  · exact Nat.le_add_right _ _
  · split
    · exact Nat.le_add_right _ _
    · split
      · exact Nat.le_add_right _ _
      · exact Nat.le_of_eq (Eng.addK_next E E.next l)
theorem Pk.add {k : Nat} {E : Eng} (h : Pk k E) (hk : k ≤ 1000) (l : List It) (hl : l.length ≤ 12) (hd : ∀ x ∈ l, x.deps.length ≤ 12) : Pk (k + 1) (E.addM l).2 := by
  have h1 := h.next
  have h2 := addM_ok h.ok h.inv (l := l) (fun x hx => by have := hd x hx; omega) (by omega)
  have h3 := addM_nx E l
  exact ⟨h2.1, h2.2, h.sne.add l, (h.vl.add l).mono (Nat.le_succ _), by rw [addM_m]; exact h.m5, by omega⟩
/-- Both do the same with an engine. -/
structure BothE (f g : FuncId) (E E' : Eng) (args : Value → Array Value) (v : Value) : Prop where
  a : ∀ (w : World) (L : List HP) (e : Nat), Own w (engP e E :: L) → Calls Tryz.prog f (args (.pointer (some ⟨e, 0, none⟩))) w (Ret w v (engP e E' :: L))
  b : ∀ (w : World) (L : List HP) (r : Nat), Own w (rengP r E :: L) → Calls Tryz.prog g (args (.pointer (some ⟨r, 0, none⟩))) w (Ret w v (rengP r E' :: L))
theorem icases (n : Nat) (i : Int) : (∃ k : Nat, i = (k : Int) ∧ k < n) ∨ (i < 0 ∨ (n : Int) ≤ i) := by
  rcases Int.lt_or_le i 0 with h | h
  · exact .inr (.inl h)
  · rcases Int.lt_or_le i (n : Int) with h2 | h2
    · exact .inl ⟨i.toNat, by omega, by omega⟩
    · exact .inr (.inr h2)
section
variable {k : Nat} {E : Eng}
theorem write_bothE (h : Pk k E) (hk : k ≤ 1000) (i : Int) : ∃ (n x : Int) (E' : Eng), BothE 11 68 E E' (fun y => #[y, .int .i64 i]) (.tuple #[.int .i64 n, .int .i64 x]) ∧ Pk (k + 1) E' := by
  have hlim : ∀ b ∈ E.m, b.vs.length ≤ 1000000 := fun b hb => by have := h.vl b hb; omega
  rcases icases E.m.length i with ⟨j, rfl, hj⟩ | hi
  · exact ⟨_, _, _, ⟨fun w L e hO => ewrite_c w L e E j hO h.ok hj hlim, fun w L r hO => rwrite_e w L r E j hO h.ok hj hlim⟩, h.write j⟩
  · exact ⟨0, 2, E, ⟨fun w L e hO => ewrite_no w L e E i hO hi, fun w L r hO => rwrite_eno w L r E i hO hi⟩, h.mono (Nat.le_succ _)⟩
theorem flush_bothE (h : Pk k E) (hk : k ≤ 1000) : BothE 12 69 E E.flushed (fun y => #[y]) (.int .i64 0) :=
  ⟨fun w L e hO => eflush_c w L e E hO h.ok (fun b hb => by have := h.vl b hb; omega), fun w L r hO => rflush_e w L r E hO h.ok.len⟩
theorem sync_bothE (h : Pk k E) (hk : k ≤ 1000) : BothE 16 70 E E.sync.2 (fun y => #[y]) (.int .i64 E.sync.1) :=
  ⟨fun w L e hO => esync_c w L e E hO h.ok (h.vl.mono (by omega)) (by have := h.m5; omega), fun w L r hO => rsync_e w L r E hO h.ok (h.vl.mono (by omega)) (by have := h.m5; omega)⟩
theorem spoil_bothE (h : Pk k E) (i : Int) (bad : Bool) : ∃ (x : Int) (E' : Eng), BothE 15 71 E E' (fun y => #[y, .int .i64 i, .bool bad]) (.int .i64 x) ∧ Pk k E' := by
  rcases icases E.m.length i with ⟨j, rfl, hj⟩ | hi
  · obtain ⟨b, hb⟩ : ∃ b, E.m[j]? = some b := ⟨_, List.getElem?_eq_getElem hj⟩
    exact ⟨0, ⟨E.m.set j ⟨b.s, b.vs, bad⟩, E.l, E.s, E.next⟩, ⟨fun w L e hO => espoil_c w L e E j bad 0 (E.m.set j ⟨b.s, b.vs, bad⟩) hO (by simp) (fun w L d hO => spoil_ok w L d E.m j b bad hO hb), fun w L r hO => rspoil_e w L r E j bad 0 (E.m.set j ⟨b.s, b.vs, bad⟩) hO (by simp) (fun w L d hO => rspoil_ok w L d E.m j b bad hO hb)⟩, h.spoil bad hb⟩
  · exact ⟨2, ⟨E.m, E.l, E.s, E.next⟩, ⟨fun w L e hO => espoil_c w L e E i bad 2 E.m hO rfl (fun w L d hO => spoil_no w L d E.m i bad hO hi), fun w L r hO => rspoil_e w L r E i bad 2 E.m hO rfl (fun w L d hO => rspoil_no w L d E.m i bad hO hi)⟩, h⟩
end
/-- One item that reads so in some worlds: its deps' slice. -/
theorem iv_dep {C : World → Prop} {w0 : World} {x : Iv} (h0 : C w0) (h : ∀ w, C w → Iv.At w x) : ∃ A c, x.2 = .slice A x.1.deps.length c ∧ ∀ w, C w → Rd w 1 (.slice A x.1.deps.length c) x.1.deps.length (zs x.1.deps) := by
  obtain ⟨A, c, e, _⟩ := (h w0 h0).rd
  refine ⟨A, c, e, fun w hw => ?_⟩
  obtain ⟨A', c', e', h'⟩ := (h w hw).rd
  rw [e] at e'
  injection e' with e1 _ e3
  rw [e1, e3]
  exact h'
theorem few_dep {C : World → Prop} {w0 : World} {l : List Iv} (h0 : C w0) (h : ∀ w, C w → ∀ x ∈ l, Iv.At w x) : ∀ x ∈ fewI l, ∃ A c, x.2 = .slice A x.1.deps.length c ∧ ∀ w, C w → Rd w 1 (.slice A x.1.deps.length c) x.1.deps.length (zs x.1.deps) := by
  intro x hx
  obtain ⟨y, hy, rfl⟩ := List.mem_map.1 hx
  have hy := List.mem_of_mem_take hy
  obtain ⟨A0, c0, e0, h1⟩ := iv_dep h0 (fun w hw => h w hw y hy)
  obtain ⟨A, c, e, _⟩ := cut_rd ⟨A0, c0, e0, h1 w0 h0⟩
  refine ⟨A, c, e, fun w hw => ?_⟩
  obtain ⟨A', c', e', h'⟩ := cut_rd ⟨A0, c0, e0, h1 w hw⟩
  rw [e] at e'
  injection e' with e1 _ e3
  rw [e1, e3]
  exact h'
theorem few_lo {w : World} {l : List Iv} (h : ∀ x ∈ l, Iv.At w x) : ∀ x ∈ fewI l, ∀ d ∈ x.1.deps, -9223372036854775808 ≤ d := by
  intro x hx d hd
  obtain ⟨y, hy, rfl⟩ := List.mem_map.1 hx
  exact inI_lo ((h y (List.mem_of_mem_take hy)).inl d (List.mem_of_mem_take hd))
theorem few_dl (l : List Iv) : ∀ x ∈ fewI l, x.1.deps.length ≤ 12 := by
  intro x hx
  refine few_deps (l := l.map (·.1)) ?_
  rw [← few_map]
  exact List.mem_map_of_mem hx
def DoE (w : World) (L : List HP) (p q k : Nat) (e : Ending) (w' : World) : Prop := ∃ E', Pk (k + 1) E' ∧ Ret w (.bool true) (engP p E' :: rengP q E' :: L) e w'
section
variable (w : World) (L : List HP) (p q k : Nat) (E : Eng)
theorem row_items7 : isRowB Tryz.prog 49 = some false := by kernel_rfl
set_option maxHeartbeats 1600000 in
theorem doe_write (kd di : Int) (dv : Value) (db : Bool) (hO : Own w (engP p E :: rengP q E :: L)) (h : Pk k E) (hk : k ≤ 1000) (hd : kd = 1) :
    Calls Tryz.prog 26 #[.pointer (some ⟨p, 0, none⟩), .pointer (some ⟨q, 0, none⟩), .agg #[.int .i64 kd, .int .i64 di, dv, .bool db]] w (DoE w L p q k) := by
  subst hd
  obtain ⟨n, x, E', hB, hg⟩ := write_bothE h hk di
  have HB := Lib.hid hB
  have HG := Lib.hid hg
  have hS := Same.refl w
  clear hB hg h
  go_enter Tryz.func26, Tryz.ntmps26
  go_wp2_with (first | (refine own_box_agg (x := .tmp 2) rfl rfl rfl hO ?_; clear hO; intro b u hO hSn; replace hS := hS.trans hSn; clear hSn) | (refine own_load1 (b := b) (off := 0) (cs := #[.int .i64 1, .int .i64 di, dv, .bool db]) (t := 56) (v := .int .i64 1) rfl rfl rfl row_int (own_get 0 hO rfl) rfl ?_) | (refine own_load1 (b := b) (off := 1) (cs := #[.int .i64 1, .int .i64 di, dv, .bool db]) (t := 56) (v := .int .i64 di) rfl rfl rfl row_int (own_get 0 hO rfl) rfl ?_) | (go_at_call 11; (with_reducible refine Calls.mono (call_at 1 (fun L' h => HB.out.a _ L' p h) rfl hO) ?_); clear hO; rintro e u ⟨rfl, hO, hSn⟩; replace hS := hS.trans hSn; clear hSn; simp only [List.set_cons_zero, List.set_cons_succ] at hO) | (go_at_call 68; (with_reducible refine Calls.mono (call_at 2 (fun L' h => HB.out.b _ L' q h) rfl hO) ?_); clear hO; rintro e u ⟨rfl, hO, hSn⟩; replace hS := hS.trans hSn; clear hSn; simp only [List.set_cons_zero, List.set_cons_succ] at hO))
  go_ret
  exact ⟨E', HG.out, rfl, own_drop hO, hS⟩
set_option maxHeartbeats 1600000 in
theorem doe_flush (kd di : Int) (dv : Value) (db : Bool) (hO : Own w (engP p E :: rengP q E :: L)) (h : Pk k E) (hk : k ≤ 1000) (hd : kd = 2) :
    Calls Tryz.prog 26 #[.pointer (some ⟨p, 0, none⟩), .pointer (some ⟨q, 0, none⟩), .agg #[.int .i64 kd, .int .i64 di, dv, .bool db]] w (DoE w L p q k) := by
  subst hd
  have HB := Lib.hid (flush_bothE h hk)
  have HG := Lib.hid (h.flushed.mono (Nat.le_succ k))
  have hS := Same.refl w
  clear h
  go_enter Tryz.func26, Tryz.ntmps26
  go_wp2_with (first | (refine own_box_agg (x := .tmp 2) rfl rfl rfl hO ?_; clear hO; intro b u hO hSn; replace hS := hS.trans hSn; clear hSn) | (refine own_load1 (b := b) (off := 0) (cs := #[.int .i64 2, .int .i64 di, dv, .bool db]) (t := 56) (v := .int .i64 2) rfl rfl rfl row_int (own_get 0 hO rfl) rfl ?_) | (go_at_call 12; (with_reducible refine Calls.mono (call_at 1 (fun L' h => HB.out.a _ L' p h) rfl hO) ?_); clear hO; rintro e u ⟨rfl, hO, hSn⟩; replace hS := hS.trans hSn; clear hSn; simp only [List.set_cons_zero, List.set_cons_succ] at hO) | (go_at_call 69; (with_reducible refine Calls.mono (call_at 2 (fun L' h => HB.out.b _ L' q h) rfl hO) ?_); clear hO; rintro e u ⟨rfl, hO, hSn⟩; replace hS := hS.trans hSn; clear hSn; simp only [List.set_cons_zero, List.set_cons_succ] at hO))
  go_ret
  exact ⟨_, HG.out, rfl, own_drop hO, hS⟩
set_option maxHeartbeats 1600000 in
theorem doe_sync (kd di : Int) (dv : Value) (db : Bool) (hO : Own w (engP p E :: rengP q E :: L)) (h : Pk k E) (hk : k ≤ 1000) (hd : kd = 3) :
    Calls Tryz.prog 26 #[.pointer (some ⟨p, 0, none⟩), .pointer (some ⟨q, 0, none⟩), .agg #[.int .i64 kd, .int .i64 di, dv, .bool db]] w (DoE w L p q k) := by
  subst hd
  obtain ⟨n, hn⟩ : ∃ n, n = E.sync.1 := ⟨_, rfl⟩
  have HB := Lib.hid (sync_bothE h hk)
  rw [← hn] at HB
  have HG := Lib.hid (h.sync.mono (Nat.le_succ k))
  have hS := Same.refl w
  clear h hn
  go_enter Tryz.func26, Tryz.ntmps26
  go_wp2_with (first | (refine own_box_agg (x := .tmp 2) rfl rfl rfl hO ?_; clear hO; intro b u hO hSn; replace hS := hS.trans hSn; clear hSn) | (refine own_load1 (b := b) (off := 0) (cs := #[.int .i64 3, .int .i64 di, dv, .bool db]) (t := 56) (v := .int .i64 3) rfl rfl rfl row_int (own_get 0 hO rfl) rfl ?_) | (go_at_call 16; (with_reducible refine Calls.mono (call_at 1 (fun L' h => HB.out.a _ L' p h) rfl hO) ?_); clear hO; rintro e u ⟨rfl, hO, hSn⟩; replace hS := hS.trans hSn; clear hSn; simp only [List.set_cons_zero, List.set_cons_succ] at hO) | (go_at_call 70; (with_reducible refine Calls.mono (call_at 2 (fun L' h => HB.out.b _ L' q h) rfl hO) ?_); clear hO; rintro e u ⟨rfl, hO, hSn⟩; replace hS := hS.trans hSn; clear hSn; simp only [List.set_cons_zero, List.set_cons_succ] at hO))
  go_ret
  exact ⟨_, HG.out, rfl, own_drop hO, hS⟩
set_option maxHeartbeats 1600000 in
theorem doe_spoil (kd di : Int) (dv : Value) (db : Bool) (hO : Own w (engP p E :: rengP q E :: L)) (h : Pk k E) (hd : kd = 4) :
    Calls Tryz.prog 26 #[.pointer (some ⟨p, 0, none⟩), .pointer (some ⟨q, 0, none⟩), .agg #[.int .i64 kd, .int .i64 di, dv, .bool db]] w (DoE w L p q k) := by
  subst hd
  obtain ⟨x0, E', hB, hg⟩ := spoil_bothE h di db
  have HB := Lib.hid hB
  have HG := Lib.hid (hg.mono (Nat.le_succ k))
  have hS := Same.refl w
  clear hB hg h
  go_enter Tryz.func26, Tryz.ntmps26
  go_upto_region 15 with (first | (refine own_box_agg (x := .tmp 2) rfl rfl rfl hO ?_; clear hO; intro b u hO hSn; replace hS := hS.trans hSn; clear hSn) | (refine own_load1 (b := b) (off := 0) (cs := #[.int .i64 4, .int .i64 di, dv, .bool db]) (t := 56) (v := .int .i64 4) rfl rfl rfl row_int (own_get 0 hO rfl) rfl ?_))
  refine wp_region_own (α := Nat → Value) (fun x => [.pointer (some ⟨p, 0, none⟩), .pointer (some ⟨b, 1, none⟩), .int .i64 di, .pointer (some ⟨b, 3, none⟩), .bool db, .int .i64 x0, .pointer (some ⟨q, 0, none⟩), .pointer (some ⟨b, 1, none⟩), .int .i64 di, .pointer (some ⟨b, 3, none⟩), .bool db, .int .i64 x0, .bool true, .bool true]) (fun D x => engP p (if D 5 then E' else E) :: rengP q (if D 11 then E' else E) :: pts b (.cells #[.int .i64 4, .int .i64 di, dv, .bool db] 56) :: L) u (fun _ => undef) 96 (fun _ => rfl) mixed (by kernel_rfl) rfl (by exact own_heap (own_perm hO (List.Perm.trans (List.Perm.swap _ _ _) (List.Perm.cons _ (List.Perm.swap _ _ _)))) (fun _ _ h => h)) (Same.drew _) (fun _ _ _ _ hd h => ⟨hd ▸ h.1, h.2⟩) ?_ ?_
  · refine ⟨?_, ?_, ?_, ?_, ?_, ?_, ?_, ?_, ?_, ?_, ?_, ?_, ?_, ?_, trivial⟩
    · (refine fs_pure (fun _ _ => rfl) (fun D x hD hcl hp => ?_); simp only [putO]; simp only [Act.put, List.setIfInBounds_toArray, List.set_cons_zero, List.set_cons_succ]; first | exact y_skip rfl | exact y_run rfl (by intro w h; go_simp; first | done | rfl))
    · (refine fs_pure (fun _ _ => rfl) (fun D x hD hcl hp => ?_); simp only [putO]; simp only [Act.put, List.setIfInBounds_toArray, List.set_cons_zero, List.set_cons_succ]; first | exact y_skip rfl | exact y_run rfl (by intro w h; go_simp; first | done | rfl))
    · (refine fs_pure (fun _ _ => rfl) (fun D x hD hcl hp => ?_); simp only [putO]; simp only [Act.put, List.setIfInBounds_toArray, List.set_cons_zero, List.set_cons_succ]; first | exact y_skip rfl | exact (y_load1 (b := b) (off := 1) (cs := #[.int .i64 4, .int .i64 di, dv, .bool db]) (t := 56) (v := .int .i64 di) rfl rfl rfl row_int (fun w h => own_get 2 h.1 rfl) rfl) | exact y_run rfl (by intro w h; go_simp; first | done | rfl))
    · (refine fs_pure (fun _ _ => rfl) (fun D x hD hcl hp => ?_); simp only [putO]; simp only [Act.put, List.setIfInBounds_toArray, List.set_cons_zero, List.set_cons_succ]; first | exact y_skip rfl | exact y_run rfl (by intro w h; go_simp; first | done | rfl))
    · (refine fs_pure (fun _ _ => rfl) (fun D x hD hcl hp => ?_); simp only [putO]; simp only [Act.put, List.setIfInBounds_toArray, List.set_cons_zero, List.set_cons_succ]; first | exact y_skip rfl | exact (y_load1 (b := b) (off := 3) (cs := #[.int .i64 4, .int .i64 di, dv, .bool db]) (t := 56) (v := .bool db) rfl rfl rfl row_boolD (fun w h => own_get 2 h.1 rfl) rfl) | exact y_run rfl (by intro w h; go_simp; first | done | rfl))
    · intro D x w5 hD hcl hp hO5 hS5
      simp only [putO]
      simp only [Act.put, List.setIfInBounds_toArray, List.set_cons_zero, List.set_cons_succ]
      refine ev_call rfl (by go_simp; first | done | exact ⟨rfl, rfl⟩) ?_
      simp only [hD, Bool.false_eq_true, if_false] at hO5
      refine Calls.mono (HB.out.a _ _ p hO5) ?_
      rintro e2 w6 ⟨rfl, hO6, hS6⟩
      exact ⟨_, rfl, wpList_nil ⟨rfl, x, (by intros; first | trivial | rfl), fun d hd _ => by cases hd; rfl, hO6, hS5.trans hS6⟩⟩
    · (refine fs_pure (fun _ _ => rfl) (fun D x hD hcl hp => ?_); simp only [putO]; simp only [Act.put, List.setIfInBounds_toArray, List.set_cons_zero, List.set_cons_succ]; first | exact y_skip rfl | exact y_run rfl (by intro w h; go_simp; first | done | rfl))
    · (refine fs_pure (fun _ _ => rfl) (fun D x hD hcl hp => ?_); simp only [putO]; simp only [Act.put, List.setIfInBounds_toArray, List.set_cons_zero, List.set_cons_succ]; first | exact y_skip rfl | exact y_run rfl (by intro w h; go_simp; first | done | rfl))
    · (refine fs_pure (fun _ _ => rfl) (fun D x hD hcl hp => ?_); simp only [putO]; simp only [Act.put, List.setIfInBounds_toArray, List.set_cons_zero, List.set_cons_succ]; first | exact y_skip rfl | exact (y_load1 (b := b) (off := 1) (cs := #[.int .i64 4, .int .i64 di, dv, .bool db]) (t := 56) (v := .int .i64 di) rfl rfl rfl row_int (fun w h => own_get 2 h.1 rfl) rfl) | exact y_run rfl (by intro w h; go_simp; first | done | rfl))
    · (refine fs_pure (fun _ _ => rfl) (fun D x hD hcl hp => ?_); simp only [putO]; simp only [Act.put, List.setIfInBounds_toArray, List.set_cons_zero, List.set_cons_succ]; first | exact y_skip rfl | exact y_run rfl (by intro w h; go_simp; first | done | rfl))
    · (refine fs_pure (fun _ _ => rfl) (fun D x hD hcl hp => ?_); simp only [putO]; simp only [Act.put, List.setIfInBounds_toArray, List.set_cons_zero, List.set_cons_succ]; first | exact y_skip rfl | exact (y_load1 (b := b) (off := 3) (cs := #[.int .i64 4, .int .i64 di, dv, .bool db]) (t := 56) (v := .bool db) rfl rfl rfl row_boolD (fun w h => own_get 2 h.1 rfl) rfl) | exact y_run rfl (by intro w h; go_simp; first | done | rfl))
    · intro D x w5 hD hcl hp hO5 hS5
      simp only [putO]
      simp only [Act.put, List.setIfInBounds_toArray, List.set_cons_zero, List.set_cons_succ]
      refine ev_call rfl (by go_simp; first | done | exact ⟨rfl, rfl⟩) ?_
      simp only [hD, Bool.false_eq_true, if_false] at hO5
      refine Calls.mono (HB.out.b _ _ q (own_perm hO5 (List.Perm.swap _ _ _))) ?_
      rintro e2 w6 ⟨rfl, hO6, hS6⟩
      exact ⟨_, rfl, wpList_nil ⟨rfl, x, (by intros; first | trivial | rfl), fun d hd _ => by cases hd; rfl, own_perm hO6 (List.Perm.swap _ _ _), hS5.trans hS6⟩⟩
    · (refine fs_pure (fun _ _ => rfl) (fun D x hD hcl hp => ?_); simp only [putO]; simp only [Act.put, List.setIfInBounds_toArray, List.set_cons_zero, List.set_cons_succ]; first | exact y_skip rfl | exact y_run rfl (by intro w h; go_simp; first | done | rfl))
    · (refine fs_pure (fun _ _ => rfl) (fun D x hD hcl hp => ?_); simp only [putO]; simp only [Act.put, List.setIfInBounds_toArray, List.set_cons_zero, List.set_cons_succ]; first | exact y_skip rfl | exact y_run rfl (by intro w h; go_simp; first | done | rfl))
  intro x w10 D hD hO hS10
  simp only [hD 5 (by decide), hD 11 (by decide), if_true] at hO
  simp only [putO]
  simp only [Act.put, List.setIfInBounds_toArray, List.set_cons_zero, List.set_cons_succ]
  simp only [Exit.then]
  clear hD
  go_wp2
  go_ret
  exact ⟨E', HG.out, rfl, own_drop (own_perm hO (List.Perm.trans (List.Perm.cons _ (List.Perm.swap _ _ _)) (List.Perm.swap _ _ _))), hS.trans hS10⟩
theorem doe_idle (kd di : Int) (dv : Value) (db : Bool) (hO : Own w (engP p E :: rengP q E :: L)) (h : Pk k E) (hd : kd ≠ 0 ∧ kd ≠ 1 ∧ kd ≠ 2 ∧ kd ≠ 3 ∧ kd ≠ 4) :
    Calls Tryz.prog 26 #[.pointer (some ⟨p, 0, none⟩), .pointer (some ⟨q, 0, none⟩), .agg #[.int .i64 kd, .int .i64 di, dv, .bool db]] w (DoE w L p q k) := by
  have HG := Lib.hid (h.mono (Nat.le_succ k))
  have g0 : (kd == 0) = false := by simpa using hd.1
  have g1 : (kd == 1) = false := by simpa using hd.2.1
  have g2 : (kd == 2) = false := by simpa using hd.2.2.1
  have g3 : (kd == 3) = false := by simpa using hd.2.2.2.1
  have g4 : (kd == 4) = false := by simpa using hd.2.2.2.2
  have hS := Same.refl w
  clear h hd
  go_enter Tryz.func26, Tryz.ntmps26
  go_wp2_with (first | (refine own_box_agg (x := .tmp 2) rfl rfl rfl hO ?_; clear hO; intro b u hO hSn; replace hS := hS.trans hSn; clear hSn) | (refine own_load1 (b := b) (off := 0) (cs := #[.int .i64 kd, .int .i64 di, dv, .bool db]) (t := 56) (v := .int .i64 kd) rfl rfl rfl row_int (own_get 0 hO rfl) rfl ?_))
  go_ret
  exact ⟨E, HG.out, rfl, own_drop hO, hS⟩
set_option maxHeartbeats 1600000 in
theorem doe_add (kd di : Int) (A : Option Addr) (c : Nat) (il : List Iv) (db : Bool) (hO : Own w (engP p E :: rengP q E :: L)) (h : Pk k E) (hk : k ≤ 1000) (hd : kd = 0) (hr : ∀ w', Own w' L → Rd w' 4 (.slice A il.length c) il.length (cellsI il)) (hi : ∀ w', Own w' L → ∀ x ∈ il, Iv.At w' x) :
    Calls Tryz.prog 26 #[.pointer (some ⟨p, 0, none⟩), .pointer (some ⟨q, 0, none⟩), .agg #[.int .i64 kd, .int .i64 di, .slice A il.length c, .bool db]] w (DoE w L p q k) := by
  subst hd
  have hO0 : Own w L := own_drop (own_drop hO)
  obtain ⟨P, hP⟩ : ∃ P, P = E.addM ((fewI il).map (·.1)) := ⟨_, rfl⟩
  have hlen := few_len il
  have HF : Hid (∀ (w' : World) (L' : List HP), (∀ w2, Own w2 L' → Own w2 L) → Own w' L' → Calls Tryz.prog 23 #[.slice A il.length c] w' (RetX w' (fun v : Value => v) (fun v => owns 66 4 v (fewI il).length (cellsI (fewI il)) :: L'))) := Lib.hid fun w' L' hs h' =>
    few_c w' L' A il.length c il h' rfl (fun w2 h2 => hr w2 (hs w2 h2)) (fun x hx => by
      obtain ⟨A1, c1, e1, h1⟩ := iv_dep (C := fun w2 => Own w2 L) hO0 (fun w2 h2 => hi w2 h2 x hx)
      exact ⟨A1, c1, e1, fun w2 h2 => h1 w2 (hs w2 h2)⟩)
  have HA : Hid (∀ (w' : World) (v : Value) (L' : List HP), (∀ w2, Own w2 L' → Own w2 L) → Own w' (engP p E :: owns 66 4 v (fewI il).length (cellsI (fewI il)) :: L') → Calls Tryz.prog 22 #[.pointer (some ⟨p, 0, none⟩), v] w' (Ret w' (.tuple #[.int .i64 P.1.1, .int .i64 P.1.2]) (engP p P.2 :: owns 66 4 v (fewI il).length (cellsI (fewI il)) :: L'))) := Lib.hid fun w' v L' hs h' => by
    rw [hP]
    refine eadd_c w' _ p E v (fewI il).length (fewI il) h' h.ok rfl (by omega) (fun w2 h2 => owns_rd h2) (fun x hx => ?_) (few_lo (hi w hO0)) (fun x hx => by have := few_dl il x hx; omega)
    obtain ⟨A1, c1, e1, h1⟩ := few_dep (C := fun w2 => Own w2 L) hO0 hi x hx
    exact ⟨A1, c1, e1, fun w2 h2 => h1 w2 (hs w2 (own_drop h2))⟩
  have HR : Hid (∀ (w' : World) (v : Value) (L' : List HP), (∀ w2, Own w2 L' → Own w2 L) → Own w' (rengP q E :: owns 66 4 v (fewI il).length (cellsI (fewI il)) :: L') → Calls Tryz.prog 67 #[.pointer (some ⟨q, 0, none⟩), v] w' (Ret w' (.tuple #[.int .i64 P.1.1, .int .i64 P.1.2]) (rengP q P.2 :: owns 66 4 v (fewI il).length (cellsI (fewI il)) :: L'))) := Lib.hid fun w' v L' hs h' => by
    rw [hP]
    refine radd_e w' _ q E v (fewI il).length (fewI il) h' h.ok rfl (by omega) (fun w2 h2 => owns_rd h2) (fun x hx => ?_) (fun x hx => by have := few_dl il x hx; omega)
    obtain ⟨A1, c1, e1, h1⟩ := few_dep (C := fun w2 => Own w2 L) hO0 hi x hx
    exact ⟨A1, c1, e1, fun w2 h2 => h1 w2 (hs w2 (own_drop h2))⟩
  have HG : Hid (Pk (k + 1) P.2) := by
    show Pk _ _
    rw [hP]
    exact h.add hk _ (by rw [List.length_map]; exact hlen) (fun x hx => by
      obtain ⟨y, hy, rfl⟩ := List.mem_map.1 hx
      exact few_dl il y hy)
  obtain ⟨⟨a, f⟩, E'⟩ := P
  have hS := Same.refl w
  clear h hr hi hP hlen hO0
  go_enter Tryz.func26, Tryz.ntmps26
  go_wp2_with (first | (refine own_box_agg (x := .tmp 2) rfl rfl rfl hO ?_; clear hO; intro b u hO hSn; replace hS := hS.trans hSn; clear hSn) | (refine own_load1 (b := b) (off := 0) (cs := #[.int .i64 0, .int .i64 di, .slice A il.length c, .bool db]) (t := 56) (v := .int .i64 0) rfl rfl rfl row_int (own_get 0 hO rfl) rfl ?_) | (refine own_load1 (b := b) (off := 2) (cs := #[.int .i64 0, .int .i64 di, .slice A il.length c, .bool db]) (t := 56) (v := .slice A il.length c) rfl rfl rfl row_items7 (own_get 0 hO rfl) rfl ?_) | (go_at_call 23; (with_reducible refine Calls.mono (HF.out _ _ (fun w2 h => own_drop (own_drop (own_drop h))) hO) ?_); clear hO; rintro e u ⟨v, rfl, hO, hSn⟩; replace hS := hS.trans hSn; clear hSn) | (go_at_call 22; (with_reducible refine Calls.mono (HA.out _ _ _ (fun w2 h => own_drop (own_drop h)) (own_order [2, 0] hO rfl)) ?_); clear hO; rintro e u ⟨rfl, hO, hSn⟩; replace hS := hS.trans hSn; clear hSn; replace hO := own_drop (own_order [1, 1, 0] hO rfl)) | (go_at_call 67; (with_reducible refine Calls.mono (HR.out _ _ _ (fun w2 h => own_drop (own_drop h)) (own_order [3, 0] hO rfl)) ?_); clear hO; rintro e u ⟨rfl, hO, hSn⟩; replace hS := hS.trans hSn; clear hSn; replace hO := own_drop (own_order [1, 1, 1] hO rfl)))
  go_ret
  exact ⟨E', HG.out, rfl, own_drop hO, hS⟩
/-- The law's do. -/
theorem do_e (x : EDeed) (hO : Own w (engP p E :: rengP q E :: L)) (h : Pk k E) (hk : k ≤ 1000) (hat : ∀ w', Own w' L → x.At w') :
    Calls Tryz.prog 26 #[.pointer (some ⟨p, 0, none⟩), .pointer (some ⟨q, 0, none⟩), .agg x.cells.toArray] w (DoE w L p q k) := by
  obtain ⟨kd, di, dv, il, db⟩ := x
  by_cases h0 : kd = 0
  · have hO0 : Own w L := own_drop (own_drop hO)
    obtain ⟨A, c, e, _⟩ := (hat w hO0).rd
    have e : dv = .slice A il.length c := e
    subst e
    exact doe_add w L p q k E kd di A c il db hO h hk h0 (fun w' h' => by
      obtain ⟨A', c', e', h2⟩ := (hat w' h').rd
      have e' : Value.slice A il.length c = .slice A' il.length c' := e'
      injection e' with e1 _ e3
      rw [e1, e3]
      exact h2) (fun w' h' x hx => (hat w' h').inl x hx)
  · by_cases h1 : kd = 1
    · exact doe_write w L p q k E kd di dv db hO h hk h1
    · by_cases h2 : kd = 2
      · exact doe_flush w L p q k E kd di dv db hO h hk h2
      · by_cases h3 : kd = 3
        · exact doe_sync w L p q k E kd di dv db hO h hk h3
        · by_cases h4 : kd = 4
          · exact doe_spoil w L p q k E kd di dv db hO h h4
          · exact doe_idle w L p q k E kd di dv db hO h ⟨h0, h1, h2, h3, h4⟩
end
end Go.Proofs.YtlmkcnkidkoilaaGreat.H
namespace Go.Proofs
open Go.Shelf
def Tryz.laysCompact_ren : Go.Shelf.Ren := ⟨fun | 20 => 49 | n => n, fun | 22 => 38 | 3 => 3 | 4 => 4 | 0 => 0 | n => n, fun | n => n⟩
theorem Tryz.laysCompact : Go.Proofs.Lays2.n20 Tryz.prog Tryz.laysCompact_ren := {
  mixed := by kernel_rfl
  f20 := Tryz.func49.trans (congrArg some (by kernel_rfl))
  t0 := Tryz.underlying0
  a0 := Tryz.isAgg0
  z0 := Tryz.sizeOf0
  v0 := Tryz.zeroValue0
  t3 := Tryz.underlying3
  a3 := Tryz.isAgg3
  z3 := Tryz.sizeOf3
  v3 := Tryz.zeroValue3
  t4 := Tryz.underlying4
  a4 := Tryz.isAgg4
  z4 := Tryz.sizeOf4
  v4 := Tryz.zeroValue4
  t22 := Tryz.underlying38
  a22 := Tryz.isAgg38
  z22 := Tryz.sizeOf38
  v22 := Tryz.zeroValue38
  i3 := by kernel_rfl }
end Go.Proofs
