/- Contracts of Roll and Base. -/
import Derived.Test.YtdcbfdepkbplbaaS9
set_option linter.unusedVariables false
set_option linter.unusedSimpArgs false
set_option maxRecDepth 100000
namespace Go.Proofs.Ytdcbfdepkbplbaa.H
open Go.RowKit
theorem results_cell1_tmp {P : Program} {fn : Func} {p u : Tmp} {T : TypeId} (h : fn.results = #[.cell p T, .tmp u]) {tmps : Array Value} {w : World} {g : Nat} {t : TypeId} {cs : Array Value} {fr : Nat × Nat} {v : Value} (hp : tmps.getD p undef = .pointer (some ⟨g, 0, none⟩)) (hg : w.heap[g]? = some (.cells cs t fr))
    (hT : isRowB P T = some false) (hv : cs[0]? = some v) : (results fn tmps).run P w = .ok (.tuple #[v, tmps.getD u undef]) w := by
  have hp' : tmps[p]?.getD undef = .pointer (some ⟨g, 0, none⟩) := by simpa using hp
  obtain ⟨d, hd, hr⟩ := underlying_row hT
  have hc : w.cell? ⟨g, 0, none⟩ = some v := by rw [cell_of_row w g 0 cs t fr hg, hv]
  have hagg : (isAgg T).run P w = .ok false w := by
    unfold isAgg
    rw [Sem.run_bind, run_underlying hd w]
    cases d <;> simp_all
  have hl : (loadVar T ⟨g, 0, none⟩).run P w = .ok v w := by
    simp [loadVar, Sem.run_bind, hagg, load]
    simp only [Sem.run, hc]
  simp [results, h, hp', asAddr, hl]
/-- Some that are not on. -/
def OutL (l : List On) (s : List Int) : Prop := ∃ x ∈ s, ∀ o ∈ l, (o.n : Int) ≠ x
/-- One is among some, and needs one that is not. -/
def BusyL (l : List On) (s : List Int) : Prop := ∃ i k : Nat, k < i ∧ ∃ c d : On, l[i]? = some c ∧ l[k]? = some d ∧ s.contains (c.n : Int) = true ∧ s.contains (d.n : Int) = false ∧ meetB c.p d.p = true
/-- The patches of those that are among some. -/
def selL (l : List On) (s : List Int) : List Pat := (l.filter fun o => s.contains (o.n : Int)).map On.p
theorem out_iff {cs : List Cl} {l : List On} {s : List Int} (h : cs.map Cl.on = l) : OutOf cs s ↔ OutL l s := by
  subst h
  constructor
  · rintro ⟨x, hx, hn⟩
    refine ⟨x, hx, fun o ho => ?_⟩
    obtain ⟨c, hc, rfl⟩ := List.mem_map.1 ho
    exact hn c hc
  · rintro ⟨x, hx, hn⟩
    exact ⟨x, hx, fun c hc => hn c.on (List.mem_map_of_mem hc)⟩
theorem busy_iff {cs : List Cl} {l : List On} {s : List Int} (h : cs.map Cl.on = l) : Busy cs s ↔ BusyL l s := by
  subst h
  constructor
  · rintro ⟨i, k, hik, c, d, hc, hd, r⟩
    exact ⟨i, k, hik, c.on, d.on, by rw [List.getElem?_map, hc]; rfl, by rw [List.getElem?_map, hd]; rfl, r⟩
  · rintro ⟨i, k, hik, c, d, hc, hd, r⟩
    rw [List.getElem?_map, Option.map_eq_some_iff] at hc hd
    obtain ⟨c', hc', rfl⟩ := hc
    obtain ⟨d', hd', rfl⟩ := hd
    exact ⟨i, k, hik, c', d', hc', hd', r⟩
theorem sel_eq {cs : List Cl} {l : List On} {s : List Int} (h : cs.map Cl.on = l) : selP cs s = selL l s := by
  subst h
  unfold selP selL
  rw [List.filter_map, List.map_map]
  rfl
theorem Reps.csok {m : Stk} {cs : List Cl} (h : Reps m cs) (hm : m.Ok) : CsOk cs m.bytes := by
  have key : ∀ c ∈ cs, c.on ∈ m.l := fun c hc => by rw [← h.on]; exact List.mem_map_of_mem hc
  refine ⟨?_, fun c hc => ?_, ?_, ?_, fun c hc => hm.right _ (key c hc)⟩
  · have := hm.asc
    rw [← h.on, List.pairwise_map] at this
    exact this
  · have := hm.lt _ (key c hc)
    have := hm.lim
    simp only [Cl.on] at *
    omega
  · rw [h.length]; exact hm.len
  · exact appAll_length _ _ hm.base (fun p hp => by
      obtain ⟨o, ho, rfl⟩ := List.mem_map.1 hp
      exact hm.right o ho)
theorem Reps.piled {m : Stk} {cs : List Cl} (h : Reps m cs) (hm : m.Ok) : Piled m.base cs :=
  ⟨hm.base, by rw [h.und, h.pats], (h.csok hm).right, (h.csok hm).len⟩
theorem Reps.bytes {m : Stk} {cs : List Cl} (h : Reps m cs) : m.bytes = appAll m.base (cs.map Cl.p) := by unfold Stk.bytes; rw [h.pats]
theorem relaid_all {byt : List UInt8} {n : Nat} {cs cs' : List Cl} (h : Relaid byt 0 n cs cs') (hn : n = cs.length) : cs'.map Cl.on = cs.map Cl.on ∧ cs'.map Cl.und = unders byt (cs.map Cl.p) := by
  have h1 := h.und
  have hl := h.length
  simp only [List.drop_zero] at h1
  rw [List.take_of_length_le (by omega), List.take_of_length_le (by omega)] at h1
  exact ⟨h.on, h1⟩
theorem pats_of_on {cs cs' : List Cl} (h : cs'.map Cl.on = cs.map Cl.on) : cs'.map Cl.p = cs.map Cl.p := by
  have e : Cl.p = On.p ∘ Cl.on := rfl
  rw [e, ← List.map_map, ← List.map_map, h]
section
variable (w : World) (L : List HP) (p : Nat) (v : Value) (cs : List Cl) (byt : List UInt8) (next : Nat) (sv : Value) (l : List Int)
theorem chosen_out (hO : Own w L) (hr : ∀ w', Own w' L → StkAt w' p v cs byt next) (hk : CsOk cs byt) (hs : ∀ w', Own w' L → Rd w' 1 sv l.length (ints l)) (hl : ∀ x ∈ l, i64 x) (h : OutOf cs l) :
    Calls Try.prog 36 #[.pointer (some ⟨p, 0, none⟩), sv] w (Ret w (.tuple #[.slice none 0 0, .int .i64 2]) L) :=
  (chosen_c w L p v cs byt next sv l hO hr hk hs hl).mono fun e w' h' => by
    rcases h' with ⟨_, h'⟩ | ⟨h1, _⟩ | ⟨h1, _⟩
    · exact h'
    · exact absurd h h1
    · exact absurd h h1
theorem chosen_busy (hO : Own w L) (hr : ∀ w', Own w' L → StkAt w' p v cs byt next) (hk : CsOk cs byt) (hs : ∀ w', Own w' L → Rd w' 1 sv l.length (ints l)) (hl : ∀ x ∈ l, i64 x) (h : ¬ OutOf cs l) (hb : Busy cs l) :
    Calls Try.prog 36 #[.pointer (some ⟨p, 0, none⟩), sv] w (Ret w (.tuple #[.slice none 0 0, .int .i64 12]) L) :=
  (chosen_c w L p v cs byt next sv l hO hr hk hs hl).mono fun e w' h' => by
    rcases h' with ⟨h1, h'⟩ | ⟨h1, _, h'⟩ | ⟨h1, h2, _⟩
    · exact absurd h1 h
    · exact h'
    · exact absurd hb h2
theorem chosen_ok (hO : Own w L) (hr : ∀ w', Own w' L → StkAt w' p v cs byt next) (hk : CsOk cs byt) (hs : ∀ w', Own w' L → Rd w' 1 sv l.length (ints l)) (hl : ∀ x ∈ l, i64 x) (h : ¬ OutOf cs l) (hb : ¬ Busy cs l) :
    Calls Try.prog 36 #[.pointer (some ⟨p, 0, none⟩), sv] w (RetX w (fun g => .tuple #[.slice (some ⟨g, 0, none⟩) cs.length cs.length, .int .i64 0]) (fun g => pts g (.cells (bls (inOf cs l)).toArray 4) :: L)) :=
  (chosen_c w L p v cs byt next sv l hO hr hk hs hl).mono fun e w' h' => by
    rcases h' with ⟨h1, h'⟩ | ⟨h1, h2, h'⟩ | ⟨h1, h2, h'⟩
    · exact absurd h1 h
    · exact absurd h2 hb
    · exact h'
end
end Go.Proofs.Ytdcbfdepkbplbaa.H
