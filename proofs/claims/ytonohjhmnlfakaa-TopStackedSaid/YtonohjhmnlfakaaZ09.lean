/- Regions of open order whose first operations, calls among them, may come late, whatever the tail has brought by then. A list of operations under way, its next n walked by what they yield. Regions of open order, any order: what holds is told by which operations are done, and by ghosts. -/
import Derived.Test.YtonohjhmnlfakaaZ04
set_option linter.unusedVariables false
set_option linter.unusedSimpArgs false
namespace Go.Proofs.Ytonohjhmnlfakaa.H
open Go.RowKit
section
variable {P : Program} {ops : Array Oper} {Q : Exit → Act → World → Prop} {C K : World → Prop} {n : Nat} {ds : List Tmp} {F : List Nat}
/-- The tail, one operation after the other: S k x holds behind k of them. -/
def wpS {α : Type} (P : Program) (ops : Array Oper) (Q : Exit → Act → World → Prop) (S : Nat → α → World → Prop) : Nat → α → List Oper → Act → Prop
  | k, x, [], a => ∀ w, S k x w → Q .normal a w
  | k, x, o :: rest, a => ∀ w, S k x w → wpList P ops (Exit.then (fun a' w' => ∃ x', S (k + 1) x' w' ∧ wpS P ops Q S (k + 1) x' rest a') Q) [o] a w
/-- A region, whatever the order: what stands between is as the walk in order says. -/
theorem mixS_all {α : Type} {S : Nat → α → World → Prop} {l : List Oper} {vals : List Value} (aF : Act) (x0 : α) (hB : MixOk l.toArray n ds F)
    (hQ : ∀ ch (a a' : Act) w, a.defers = a'.defers → Q (.panic ch) a w → Q (.panic ch) a' w)
    (hlen : vals.length = n) (hF : ∀ (i : Nat) d v, ds[i]? = some d → vals[i]? = some v → aF.tmps[d]? = some v) (hds : ∀ d ∈ ds, d < aF.tmps.size)
    (hy : ∀ i o v, i < n → l.toArray[i]? = some o → vals[i]? = some v → F.contains i = false → YieldsIn P l.toArray (S 0 x0) o v aF)
    (hp : ∀ i o v, i < n → l.toArray[i]? = some o → vals[i]? = some v → F.contains i = true → ∀ k x, YieldsIn P l.toArray (S k x) o v aF)
    (htail : wpS P l.toArray Q S 0 x0 (l.drop n) aF) :
    ∀ (m : Nat) (k : Nat) (listed : Array Bool) (a ak : Act) (w : World), unl l.toArray.size listed = m → Sim l.toArray n ds F aF k listed a ak →
      (k = 0 → S 0 x0 w ∧ ak = aF) → (0 < k → ∃ x, S k x w ∧ wpS P l.toArray Q S k x (l.drop (n + k)) ak) → wpAny P .any l.toArray Q m listed a w := by
  intro m
  induction m with
  | zero =>
    intro k listed a ak w hu h h0 h1
    have hall := unl_zero hu
    have hkN : n + k = l.toArray.size := by
      rcases Nat.lt_or_ge (n + k) l.toArray.size with hlt | hge
      · have := h.tl (n + k) (Nat.le_refl _) hlt
        rw [hall _ hlt] at this; cases this
      · have := h.nk; omega
    have ha : a = ak := by
      have ht : a.tmps = ak.tmps := by
        apply Array.ext_getElem?
        intro t
        exact h.agree t (fun j hj _ => hall j (by have := hB.hn; omega))
      have hd := h.defers
      cases a; cases ak; simp_all
    subst ha
    have hr : Region.ready .any l.toArray listed = [] := by
      rw [List.eq_nil_iff_forall_not_mem]
      intro i hi
      obtain ⟨g1, o, ho, _⟩ := mem_ready.1 hi
      have := hall i (Array.getElem?_eq_some_iff.1 ho).1
      rw [getD_both g1] at this; cases this
    have hdrop : l.drop (n + k) = [] := by rw [List.drop_eq_nil_iff]; simp at hkN; omega
    refine ⟨hr, ?_⟩
    by_cases hk : 0 < k
    · obtain ⟨x, hx, hw⟩ := h1 hk
      rw [hdrop] at hw
      exact hw w hx
    · obtain rfl : k = 0 := by omega
      obtain ⟨hC, rfl⟩ := h0 rfl
      rw [Nat.add_zero] at hdrop
      rw [hdrop] at htail
      exact htail w hC
  | succ m ih =>
    intro k listed a ak w hu h h0 h1
    have hex : ∃ i, i < l.toArray.size ∧ listed.getD i false = false := by
      have : ((List.range l.toArray.size).filter fun i => !listed.getD i false) ≠ [] := fun e => by unfold unl at hu; rw [e] at hu; simp at hu
      obtain ⟨i, hi⟩ := List.exists_mem_of_ne_nil _ this
      rw [List.mem_filter, List.mem_range] at hi
      exact ⟨i, hi.1, by simpa using hi.2⟩
    have hne : Region.ready .any l.toArray listed ≠ [] := by
      have hmin : ∀ k, (∃ i, i ≤ k ∧ i < l.toArray.size ∧ listed.getD i false = false) → ∃ i, i < l.toArray.size ∧ listed.getD i false = false ∧ ∀ j, j < i → listed.getD j false = true := by
        intro k
        induction k with
        | zero =>
          rintro ⟨i, hi, h1, h2⟩
          exact ⟨i, h1, h2, fun j hj => by omega⟩
        | succ k ihk =>
          rintro ⟨i, hi, h1, h2⟩
          by_cases hlow : ∃ j, j ≤ k ∧ j < l.toArray.size ∧ listed.getD j false = false
          · exact ihk hlow
          · refine ⟨i, h1, h2, fun j hj => ?_⟩
            cases hb : listed.getD j false with
            | true => rfl
            | false => exact absurd ⟨j, by omega, by omega, hb⟩ hlow
      obtain ⟨i0, g1, g2⟩ := hex
      obtain ⟨i, hin, hb, hlow⟩ := hmin i0 ⟨i0, Nat.le_refl _, g1, g2⟩
      obtain ⟨o, ho, hback, _⟩ := hB.op i hin
      have : i ∈ Region.ready .any l.toArray listed := mem_ready.2 ⟨getD_in (by rw [h.size]; omega) hb, o, ho, fun e he hbd => hlow _ (hback e he hbd)⟩
      intro e
      rw [e] at this
      cases this
    refine ⟨fun hr => absurd hr hne, fun i hi => ?_⟩
    obtain ⟨hun, o, ho, hready⟩ := mem_ready.1 hi
    have hil : i < l.toArray.size := (Array.getElem?_eq_some_iff.1 ho).1
    have his : i < listed.size := by rw [h.size]; exact hil
    have hus := unl_set (n := l.toArray.size) hil his (getD_both hun)
    obtain ⟨o', ho', hback, hlook⟩ := hB.op i hil
    have : o' = o := Option.some.inj (ho'.symm.trans ho)
    subst this
    have hsel := fun cs b => Region.noSelect_spec hB.sel i o' cs b ho
    have hag : ∀ t ∈ o'.looksAt l.toArray, a.tmps[t]? = ak.tmps[t]? := fun t ht => h.agree t (fun j hj hd => by
      obtain ⟨e, he, hb, hon⟩ := hlook t ht j hj hd
      exact hon ▸ hready e he hb)
    have hclosed : ∀ (j : Nat) oj, l.toArray[j]? = some oj → (listed.setIfInBounds i true).getD j false = true → ∀ e ∈ oj.after, Region.binds .any e = true → (listed.setIfInBounds i true).getD e.on false = true := fun j oj hj hl e he hb => by
      by_cases hij : i = j
      · subst hij
        have : oj = o' := Option.some.inj (hj.symm.trans ho)
        subst this
        exact getD_set_true (hready e he hb)
      · rw [getD_set_ne false hij] at hl
        exact getD_set_true (h.closed j oj hj hl e he hb)
    rcases Nat.lt_or_ge i n with hin | hin
    · -- one of the head
      have hdst := hB.head i o' hin ho
      obtain ⟨d, hd⟩ := getElem?_lt_of (l := ds) (i := i) (by rw [hB.len]; exact hin)
      obtain ⟨v, hv⟩ := getElem?_lt_of (l := vals) (i := i) (by omega)
      have hFv := hF i d v hd hv
      have hsim : Sim l.toArray n ds F aF k (listed.setIfInBounds i true) (a.put o'.dst v) ak := by
        refine ⟨by simp [h.size], hclosed, fun t ht ht2 => by rw [getD_set_ne false (by omega)]; exact h.tl t ht ht2, fun t ht ht2 => getD_set_true (h.td t ht ht2), fun hk j hj hl => h.free hk j hj (set_getD hl).1, h.nk, by rw [put_defers', h.defers], by rw [put_size', h.asize], fun t hall => ?_, h.vals, h.look⟩
        rw [hdst, hd]
        by_cases e : t = d
        · subst e
          rw [put_at, if_pos ⟨rfl, by rw [h.asize]; exact (by
            have h2 : ak.tmps[t]? = some v := (h.vals i t hin hd).trans hFv
            exact (Array.getElem?_eq_some_iff.1 h2).1)⟩, h.vals i t hin hd, hFv]
        · rw [put_at, if_neg (fun h2 => e h2.1)]
          refine h.agree t (fun j hj hdj => ?_)
          have := hall j hj hdj
          by_cases e2 : i = j
          · subst e2; rw [hd] at hdj; exact absurd (Option.some.inj hdj).symm e
          · rwa [getD_set_ne false e2] at this
      unfold wpOp
      rw [ho]
      simp only
      by_cases hk : 0 < k
      · have hFi := h.free hk i hin (getD_both hun)
        have hlt : n + k < l.toArray.size := by
          rcases Nat.lt_or_ge (n + k) l.toArray.size with hlt | hge
          · exact hlt
          · exfalso
            have := all_done hB h (by have := h.nk; omega) hk _ i rfl hil
            rw [getD_both hun] at this; cases this
        obtain ⟨x, hx, hwx⟩ := h1 hk
        have hyi := yieldsIn_agree (ops := l.toArray) hsel (fun t ht => (hag t ht).trans (h.look hk i o' hin hFi ho t ht)) (hp i o' v hin ho hv hFi k x)
        have hnext : ∀ w', S k x w' → wpAny P .any l.toArray Q m (listed.setIfInBounds i true) (a.put o'.dst v) w' := fun w' hw' => ih k _ _ ak w' (by omega) hsim (fun e => by omega) (fun _ => ⟨x, hw', hwx⟩)
        rcases hyi with ⟨hw, hq⟩ | ⟨hw, rfl⟩
        · rw [if_pos hw]
          exact .inl (Oper.wp_of_quiet (C := S k x) (K := fun a' => a' = a.put o'.dst v) hx (fun a' w' hC' ha => by rw [ha]; exact hnext w' hC') ⟨v, hq, rfl⟩)
        · rw [if_neg (by rw [hw]; simp)]
          exact hnext w hx
      · obtain rfl : k = 0 := by omega
        obtain ⟨hC, rfl⟩ := h0 rfl
        have hnext : ∀ w', S 0 x0 w' → wpAny P .any l.toArray Q m (listed.setIfInBounds i true) (a.put o'.dst v) w' := fun w' hC' => ih 0 _ _ ak w' (by omega) hsim (fun _ => ⟨hC', rfl⟩) (fun e => by omega)
        cases hFi : F.contains i with
        | true =>
          have hyi := yieldsIn_agree (ops := l.toArray) hsel hag (hp i o' v hin ho hv hFi 0 x0)
          rcases hyi with ⟨hw, hq⟩ | ⟨hw, rfl⟩
          · rw [if_pos hw]
            exact .inl (Oper.wp_of_quiet (C := S 0 x0) (K := fun a' => a' = a.put o'.dst v) hC (fun a' w' hC' ha => by rw [ha]; exact hnext w' hC') ⟨v, hq, rfl⟩)
          · rw [if_neg (by rw [hw]; simp)]
            exact hnext w hC
        | false =>
          have hyi := yieldsIn_agree (ops := l.toArray) hsel hag (hy i o' v hin ho hv hFi)
          rcases hyi with ⟨hw, hq⟩ | ⟨hw, rfl⟩
          · rw [if_pos hw]
            exact .inl (Oper.wp_of_quiet (C := S 0 x0) (K := fun a' => a' = a.put o'.dst v) hC (fun a' w' hC' ha => by rw [ha]; exact hnext w' hC') ⟨v, hq, rfl⟩)
          · rw [if_neg (by rw [hw]; simp)]
            exact hnext w hC
    · -- the next of the tail
      have hik := tail_next hB h hi hin
      have hwl : ∃ x, S k x w ∧ wpS P l.toArray Q S k x (l.drop (n + k)) ak := by
        by_cases hk : 0 < k
        · exact h1 hk
        · obtain rfl : k = 0 := by omega
          obtain ⟨hC, rfl⟩ := h0 rfl
          exact ⟨x0, hC, htail⟩
      have hlt : n + k < l.length := by rw [← hik]; simpa using hil
      have hdr : l.drop (n + k) = l[n + k] :: l.drop (n + k + 1) := List.drop_eq_getElem_cons hlt
      have hoe : l[n + k] = o' := by
        have : l.toArray[n + k]? = some o' := hik ▸ ho
        simpa [List.getElem?_eq_getElem hlt] using this
      obtain ⟨x, hx, hwl⟩ := hwl
      rw [hdr, hoe] at hwl
      have hw1 := hwl w hx
      have htl := hB.tail i o' hin ho
      have hfree : ∀ j, j < n → (listed.setIfInBounds i true).getD j false = false → F.contains j = true := fun j hj hl => by
        by_cases hk : 0 < k
        · exact h.free hk j hj (set_getD hl).1
        · obtain rfl : k = 0 := by omega
          rw [Nat.add_zero] at hik
          exact tail_first hB h (hik ▸ hi) _ j rfl hj (set_getD hl).1
      have hstep : ∀ (b b' : Act) u w', b.tmps = ak.tmps → b'.tmps = a.tmps → b.defers = b'.defers → (∃ x', S (k + 1) x' w' ∧ wpS P l.toArray Q S (k + 1) x' (l.drop (n + k + 1)) (b.put o'.dst u)) → wpAny P .any l.toArray Q m (listed.setIfInBounds i true) (b'.put o'.dst u) w' := fun b b' u w' hb hb' hdf hwp => by
        refine ih (k + 1) _ _ (b.put o'.dst u) w' (by omega) ⟨by simp [h.size], hclosed, fun t ht ht2 => by rw [getD_set_ne false (by omega)]; exact h.tl t (by omega) ht2, fun t ht ht2 => ?_, fun _ => hfree, by omega, by rw [put_defers', put_defers', hdf], by rw [put_size', put_size', hb, hb', h.asize], fun t hall => ?_, fun j d hj hd => ?_, fun _ j oj hj hFj hoj t ht => ?_⟩ (fun e => by omega) (fun _ => by rw [show n + (k + 1) = n + k + 1 by omega]; exact hwp)
        · by_cases e : i = t
          · subst e; exact getD_set_self his
          · rw [getD_set_ne false e]; exact h.td t ht (by omega)
        · refine put_both b' b o'.dst u t (by rw [hb, hb', h.asize]) (fun hne => ?_)
          rw [hb, hb']
          refine h.agree t (fun j hj hdj => ?_)
          have := hall j hj hdj
          rwa [getD_set_ne false (by omega)] at this
        · rw [put_ne' b o'.dst u d ((htl j hj).1 d hd), hb]
          exact h.vals j d hj hd
        · rw [put_ne' b o'.dst u t ((htl j hj).2 hFj oj hoj t ht), hb]
          by_cases hk : 0 < k
          · exact h.look hk j oj hj hFj hoj t ht
          · obtain rfl : k = 0 := by omega
            obtain ⟨_, rfl⟩ := h0 rfl
            rfl
      unfold wpOp
      rw [ho]
      simp only
      have hwant := wanted_agree (ops := l.toArray) (o := o') hag
      have hex := exec_agree (ops := l.toArray) hsel hag
      unfold wpList at hw1
      by_cases hw : Region.wanted o' (yielded l.toArray ak.tmps) = true
      · rw [if_pos hw] at hw1
        rw [hwant, if_pos hw]
        have conv : ∀ r, o'.upon P ak (wpList P l.toArray (Exit.then (fun a' w' => ∃ x', S (k + 1) x' w' ∧ wpS P l.toArray Q S (k + 1) x' (l.drop (n + k + 1)) a') Q) []) (Exit.then (fun a' w' => ∃ x', S (k + 1) x' w' ∧ wpS P l.toArray Q S (k + 1) x' (l.drop (n + k + 1)) a') Q) r → o'.upon P a (wpAny P .any l.toArray Q m (listed.setIfInBounds i true)) Q r := fun r hr => by
          refine upon_agree (Q := Q) h.defers.symm hQ (N := fun a' w' => ∃ x', S (k + 1) x' w' ∧ wpS P l.toArray Q S (k + 1) x' (l.drop (n + k + 1)) a') (fun b b' u w' hb hb' hdf hn => hstep b b' u w' hb hb' hdf hn) r ?_
          cases r with
          | ok mm w' => cases mm <;> exact hr
          | halt x w' => cases x <;> exact hr
        rcases hw1 with hw1 | ⟨hw1, hw2⟩
        · left
          unfold Oper.wp at hw1 ⊢
          rw [hex]
          exact conv _ hw1
        · right
          refine ⟨?_, hw2⟩
          unfold Oper.asks at *
          rw [hex]
          exact hw1
      · rw [if_neg hw] at hw1
        rw [hwant, if_neg hw]
        exact hstep ak a undef w rfl rfl h.defers.symm hw1
def wpMixS {α : Type} (P : Program) (ops : Array Oper) (S : Nat → α → World → Prop) (x0 : α) (F : List Nat) (N : Act → Prop) : Nat → List Oper → Act → Prop
  | _, [], a => N a
  | i, o :: ol, a => ∃ v, (if F.contains i = true then ∀ k x, YieldsIn P ops (S k x) o v a else YieldsIn P ops (S 0 x0) o v a) ∧ wpMixS P ops S x0 F N (i + 1) ol (a.put o.dst v)
theorem wpMixS_out {α : Type} {S : Nat → α → World → Prop} {x0 : α} {N : Act → Prop} : ∀ {ol : List Oper} {i0 : Nat} {a : Act}, wpMixS P ops S x0 F N i0 ol a → ∃ vl : List Value, vl.length = ol.length ∧ N (putO a ol vl) ∧ ∀ (i : Nat) (o : Oper) (v : Value), ol[i]? = some o → vl[i]? = some v → (if F.contains (i0 + i) = true then ∀ k x, YieldsIn P ops (S k x) o v (putO a (ol.take i) (vl.take i)) else YieldsIn P ops (S 0 x0) o v (putO a (ol.take i) (vl.take i)))
  | [], i0, a, h => ⟨[], rfl, h, fun i o v ho => by simp at ho⟩
  | o :: ol, i0, a, h => by
    obtain ⟨v, hy, hn⟩ := h
    obtain ⟨vl, h1, h2, h3⟩ := wpMixS_out hn
    refine ⟨v :: vl, by simp [h1], h2, fun i o' v' ho hv => ?_⟩
    cases i with
    | zero => simp at ho hv; subst ho; subst hv; exact hy
    | succ i =>
      have := h3 i o' v' (by simpa using ho) (by simpa using hv)
      rw [show i0 + (i + 1) = i0 + 1 + i by omega]
      exact this
theorem wp_region_mixS {α : Type} {id : Nat} {l : List Oper} {a : Act} {w : World} (S : Nat → α → World → Prop) (x0 : α) (n k : Nat) (F : List Nat) (hm : P.follows .mixedOrders = true) (hB : mixOk2 l n k F = true) (hk : a.tmps.size = k) (hC : S 0 x0 w.drew)
    (hQ : ∀ ch (a a' : Act) w, a.defers = a'.defers → Q (.panic ch) a w → Q (.panic ch) a' w)
    (h : wpMixS P l.toArray S x0 F (fun aF => wpS P l.toArray Q S 0 x0 (l.drop n) aF) 0 (l.take n) a) : (Code.region id l.toArray true).wp P Q a w := by
  obtain ⟨vl, h1, h2, h3⟩ := wpMixS_out h
  simp only [mixOk2, Bool.and_eq_true] at hB
  obtain ⟨⟨b1, b2⟩, b3⟩ := hB
  have hM := mix_of b1
  have hn : n ≤ l.length := by simpa using hM.hn
  have hl : (l.take n).length = n := by simp; omega
  have hdl := hM.len
  have hzip : ((dstsOf (l.take n)).zip vl).map (·.1) = dstsOf (l.take n) := by
    rw [List.map_fst_zip]
    omega
  have haF : putO a (l.take n) vl = putL a ((dstsOf (l.take n)).zip vl) := putO_eq _ _ _ (fun o ho => List.all_eq_true.1 b2 o ho)
  have hsz : (putO a (l.take n) vl).tmps.size = k := by rw [haF, putL_size, hk]
  have hFin : ∀ (i : Nat) d v, (dstsOf (l.take n))[i]? = some d → vl[i]? = some v → (putO a (l.take n) vl).tmps[d]? = some v := fun i d v hd hv => by
    rw [haF]
    exact putL_in _ a i (d, v) (by rw [hzip]; exact hM.nd) (by rw [List.getElem?_zip_eq_some]; exact ⟨hd, hv⟩) (by rw [hk]; simpa using List.all_eq_true.1 b3 d (List.mem_of_getElem? hd))
  have hop : ∀ i o, i < n → l.toArray[i]? = some o → (l.take n)[i]? = some o := fun i o hi ho => by
    rw [List.getElem?_take, if_pos hi]
    simpa using ho
  have hag : ∀ i o, i < n → l.toArray[i]? = some o → ∀ t ∈ o.looksAt l.toArray, (putO a (l.take n) vl).tmps[t]? = (putO a ((l.take n).take i) (vl.take i)).tmps[t]? := fun i o hin ho t ht => by
    rw [putO_split (l.take n) vl i a]
    refine putO_out _ _ _ _ (fun x hx hxd => ?_)
    obtain ⟨j, hj, hxj⟩ := List.mem_iff_getElem.1 hx
    have hjn : i + j < n := by simp at hj; omega
    have hxo : l.toArray[i + j]? = some x := by
      have e : ((l.take n).drop i)[j]? = some x := by rw [List.getElem?_eq_getElem hj, hxj]
      rw [List.getElem?_drop, List.getElem?_take, if_pos hjn] at e
      simpa using e
    have hd2 := hM.head (i + j) x hjn hxo
    obtain ⟨o2, ho2, hback, hlook⟩ := hM.op i (by have := hM.hn; omega)
    have e2 : o2 = o := Option.some.inj (ho2.symm.trans ho)
    subst e2
    obtain ⟨e, hem, heb, hon⟩ := hlook t ht (i + j) hjn (by rw [← hd2, hxd])
    have := hback e hem heb
    omega
  refine wp_region_any hm ?_
  have hrep : ∀ i, (Array.replicate l.toArray.size false).getD i false = false := fun i => getD_replicate_false _ i
  have hu : unl l.toArray.size (Array.replicate l.toArray.size false) = l.toArray.size := by
    unfold unl
    rw [List.filter_eq_self.2 (fun i _ => by rw [hrep]; rfl)]
    simp
  have hall := mixS_all (P := P) (Q := Q) (S := S) (vals := vl) (putO a (l.take n) vl) x0 hM hQ (by rw [h1, hl]) hFin (fun d hd => by rw [hsz]; simpa using List.all_eq_true.1 b3 d hd)
    (fun i o v hi ho hv hF => ?_) (fun i o v hi ho hv hF kk xx => ?_) h2 l.toArray.size 0 (Array.replicate l.toArray.size false) a (putO a (l.take n) vl) w.drew hu
    ⟨by simp, fun j oj _ hl => (by rw [hrep] at hl; cases hl), fun t _ _ => hrep t, fun t ht ht2 => by omega, fun hk => by omega, hM.hn, by rw [haF, putL_defers], by rw [hsz, hk], fun t hall => ?_, fun _ _ _ _ => rfl, fun hk => by omega⟩
    (fun _ => ⟨hC, rfl⟩) (fun hk => by omega)
  · exact hall
  · have h5 := h3 i o v (hop i o hi ho) hv
    rw [Nat.zero_add, if_neg (by rw [hF]; simp)] at h5
    exact yieldsIn_agree (ops := l.toArray) (fun cs b => Region.noSelect_spec hM.sel i o cs b ho) (hag i o hi ho) h5
  · have h5 := h3 i o v (hop i o hi ho) hv
    rw [Nat.zero_add, if_pos hF] at h5
    exact yieldsIn_agree (ops := l.toArray) (fun cs b => Region.noSelect_spec hM.sel i o cs b ho) (hag i o hi ho) (h5 kk xx)
  · have hno : ∀ j, j < n → (dstsOf (l.take n))[j]? ≠ some t := fun j hj hd => by
      have := hall j hj hd
      rw [hrep] at this; cases this
    rw [haF, putL_out]
    intro e he hte
    have h5 : e.1 ∈ dstsOf (l.take n) := by rw [← hzip]; exact List.mem_map_of_mem he
    obtain ⟨j, hj, hjd⟩ := List.mem_iff_getElem.1 h5
    exact hno j (by omega) (by rw [List.getElem?_eq_getElem hj, hjd, hte])
theorem ms_free {α : Type} {S : Nat → α → World → Prop} {x0 : α} {N : Act → Prop} {i : Nat} {o : Oper} {ol : List Oper} {a : Act} {v : Value} (hF : F.contains i = true) (hy : ∀ k x, YieldsIn P ops (S k x) o v a) (h : wpMixS P ops S x0 F N (i + 1) ol (a.put o.dst v)) : wpMixS P ops S x0 F N i (o :: ol) a :=
  ⟨v, by rw [if_pos hF]; exact hy, h⟩
theorem ms_nil {α : Type} {S : Nat → α → World → Prop} {x0 : α} {N : Act → Prop} {i : Nat} {a : Act} (h : N a) : wpMixS P ops S x0 F N i [] a := h
theorem y_load1 {aF : Act} {o : Oper} {T : TypeId} {x : Operand} {b off : Nat} {cs : Array Value} {t : TypeId} {fr : Nat × Nat} {v : Value} (hw : Region.wanted o (yielded ops aF.tmps) = true) (ho : o.op = .load T x) (hx : aF.eval x = .pointer (some ⟨b, off, none⟩))
    (hT : isRowB P T = some false) (hg : ∀ w, C w → w.heap[b]? = some (.cells cs t fr)) (hv : cs[off]? = some v) : YieldsIn P ops C o v aF := by
  refine y_run hw (fun w hC => ?_)
  simp only [execOp, ho, hx, Sem.run_bind, run_load1 hT (hg w hC) hv]
  rfl
theorem y_loadrow {aF : Act} {o : Oper} {T : TypeId} {x : Operand} {b off n : Nat} {cs : Array Value} {vs : List Value} {t : TypeId} {fr : Nat × Nat} (hw : Region.wanted o (yielded ops aF.tmps) = true) (ho : o.op = .load T x) (hx : aF.eval x = .pointer (some ⟨b, off, none⟩))
    (hT : isRowB P T = some true) (hsz : (P.info? T).map (·.size) = some n) (hg : ∀ w, C w → w.heap[b]? = some (.cells cs t fr)) (hfit : off + n ≤ cs.size) (hv : (cs.toList.drop off).take n = vs) : YieldsIn P ops C o (.agg vs.toArray) aF := by
  refine y_run hw (fun w hC => ?_)
  subst hv
  simp only [execOp, ho, hx, Sem.run_bind, run_loadrow hT hsz (hg w hC) hfit]
  rfl
theorem ws_last {α : Type} {S : Nat → α → World → Prop} {k : Nat} {x : α} {o : Oper} {a : Act} (h : ∀ w, S k x w → wpList P ops (Exit.then (fun a' w' => ∃ x', S (k + 1) x' w' ∧ ∀ w, S (k + 1) x' w → Q .normal a' w) Q) [o] a w) : wpS P ops Q S k x [o] a := h
end
end Go.Proofs.Ytonohjhmnlfakaa.H
set_option linter.unusedVariables false
set_option linter.unusedSimpArgs false
namespace Go.Proofs.Ytonohjhmnlfakaa.H
open Go.RowKit
theorem wpList_seq {P : Program} {ops : Array Oper} {Q : Exit → Act → World → Prop} {l : List Oper} {a : Act} {w : World} (C : World → Prop) (n : Nat) (hC : C w)
    (h : wpVals P ops C (fun aF => ∀ w, C w → wpList P ops Q (l.drop n) aF w) (l.take n) a) : wpList P ops Q l a w := by
  have := wpList_of_vals hC h
  rwa [List.take_append_drop] at this
end Go.Proofs.Ytonohjhmnlfakaa.H
set_option linter.unusedVariables false
set_option linter.unusedSimpArgs false
namespace Go.Proofs.Ytonohjhmnlfakaa.H
open Go.RowKit
section
variable {P : Program} {ops : Array Oper} {Q : Exit → Act → World → Prop}
/-- The act with each operation's slot holding f of its number. -/
def putV (f : Nat → Value) : Nat → List Oper → Act → Act
  | _, [], a => a
  | i, o :: r, a => putV f (i + 1) r (a.put o.dst (f i))
theorem putV_defers (f : Nat → Value) : ∀ (l : List Oper) (i : Nat) (a : Act), (putV f i l a).defers = a.defers
  | [], _, _ => rfl
  | o :: r, i, a => by rw [putV, putV_defers f r, put_defers']
theorem putV_size (f : Nat → Value) : ∀ (l : List Oper) (i : Nat) (a : Act), (putV f i l a).tmps.size = a.tmps.size
  | [], _, _ => rfl
  | o :: r, i, a => by rw [putV, putV_size f r, put_size']
theorem putV_out (f : Nat → Value) : ∀ (l : List Oper) (i : Nat) (a : Act) (t : Tmp), (∀ o ∈ l, o.dst ≠ some t) → (putV f i l a).tmps[t]? = a.tmps[t]?
  | [], _, _, _, _ => rfl
  | o :: r, i, a, t, h => by rw [putV, putV_out f r _ _ _ (fun o' ho' => h o' (List.mem_cons_of_mem _ ho')), put_ne' _ _ _ _ (h o (List.mem_cons_self ..))]
theorem putV_in (f : Nat → Value) : ∀ (l : List Oper) (i : Nat) (a : Act) (d : Tmp) (j : Nat) (o : Oper), (∀ (j j' : Nat) (o o' : Oper), l[j]? = some o → l[j']? = some o' → o.dst = some d → o'.dst = some d → j = j') → l[j]? = some o → o.dst = some d → d < a.tmps.size → (putV f i l a).tmps[d]? = some (f (i + j))
  | [], _, _, _, _, _, _, h, _, _ => by simp at h
  | o' :: r, i, a, d, 0, o, hu, h, hd, hs => by
    simp at h
    subst h
    rw [putV, putV_out f r, hd, put_at, if_pos ⟨rfl, hs⟩, Nat.add_zero]
    intro o2 ho2 he
    obtain ⟨k, hk⟩ := List.getElem?_of_mem ho2
    have := hu 0 (k + 1) o' o2 rfl (by simpa using hk) hd he
    omega
  | o' :: r, i, a, d, j + 1, o, hu, h, hd, hs => by
    rw [putV, putV_in f r (i + 1) _ d j o (fun j j' o o' h1 h2 h3 h4 => by have := hu (j + 1) (j' + 1) o o' (by simpa using h1) (by simpa using h2) h3 h4; omega) (by simpa using h) hd (by rw [put_size']; exact hs)]
    congr 2
    omega
def freeOk (ops : Array Oper) (k : Nat) : Bool :=
  Region.noSelect ops && (List.range ops.size).all fun i => match ops[i]? with
    | some o => (o.after.all fun e => !Region.binds .any e || decide (e.on < i)) &&
      ((o.looksAt ops).all fun t => (List.range ops.size).all fun j => match ops[j]? with
        | some oj => !(oj.dst == some t) || o.after.any fun e => Region.binds .any e && e.on == j
        | none => true) &&
      (match o.dst with
        | some d => decide (d < k) && (List.range ops.size).all fun j => j == i || (match ops[j]? with | some oj => !(oj.dst == some d) | none => true)
        | none => true)
    | none => true
structure FreeOk (ops : Array Oper) (k : Nat) : Prop where
  sel : Region.noSelect ops = true
  back : ∀ (i : Nat) (o : Oper), ops[i]? = some o → ∀ e ∈ o.after, Region.binds .any e = true → e.on < i
  look : ∀ (i : Nat) (o : Oper), ops[i]? = some o → ∀ t ∈ o.looksAt ops, ∀ (j : Nat) (oj : Oper), ops[j]? = some oj → oj.dst = some t → ∃ e ∈ o.after, Region.binds .any e = true ∧ e.on = j
  lt : ∀ (i : Nat) (o : Oper) (d : Tmp), ops[i]? = some o → o.dst = some d → d < k
  uniq : ∀ (i j : Nat) (o oj : Oper) (d : Tmp), ops[i]? = some o → ops[j]? = some oj → o.dst = some d → oj.dst = some d → i = j
theorem free_of {k : Nat} (h : freeOk ops k = true) : FreeOk ops k := by
  simp only [freeOk, Bool.and_eq_true, List.all_eq_true, List.mem_range] at h
  obtain ⟨hs, h⟩ := h
  have lt : ∀ (i : Nat) (o : Oper), ops[i]? = some o → i < ops.size := fun i o ho => (Array.getElem?_eq_some_iff.1 ho).1
  refine ⟨hs, fun i o ho e he hb => ?_, fun i o ho t ht j oj hj hd => ?_, fun i o d ho hd => ?_, fun i j o oj d ho hj hd hd2 => ?_⟩
  · have := h i (lt i o ho)
    simp only [ho, Bool.and_eq_true, List.all_eq_true] at this
    have h2 := Array.all_eq_true_iff_forall_mem.1 this.1.1 e he
    simpa [hb] using h2
  · have := h i (lt i o ho)
    simp only [ho, Bool.and_eq_true, List.all_eq_true] at this
    have h2 := this.1.2 t ht j (List.mem_range.2 (lt j oj hj))
    simp only [hj, hd, beq_self_eq_true, Bool.not_true, Bool.false_or] at h2
    rw [Array.any_eq_true'] at h2
    obtain ⟨e, he, h3⟩ := h2
    simp only [Bool.and_eq_true, beq_iff_eq] at h3
    exact ⟨e, he, h3.1, h3.2⟩
  · have := h i (lt i o ho)
    simp only [ho, hd, Bool.and_eq_true, decide_eq_true_eq] at this
    exact this.2.1
  · have := h i (lt i o ho)
    simp only [ho, hd, Bool.and_eq_true, List.all_eq_true] at this
    have h2 := this.2.2 j (List.mem_range.2 (lt j oj hj))
    simp only [hj, hd2, beq_self_eq_true, Bool.not_true, Bool.or_false, beq_iff_eq] at h2
    exact h2.symm
def upd (D : Nat → Bool) (i : Nat) : Nat → Bool := fun j => if j = i then true else D j
/-- What is asked of one operation, in any place that it may be taken. -/
def FreeStep {α : Type} (P : Program) (l : List Oper) (Q : Exit → Act → World → Prop) (a : Act) (val : Nat → α → Value) (S : (Nat → Bool) → α → World → Prop) (i : Nat) (o : Oper) : Prop :=
  ∀ (D : Nat → Bool) (x : α) (w : World), D i = false → (∀ (j : Nat) (oj : Oper), l.toArray[j]? = some oj → D j = true → ∀ e ∈ oj.after, Region.binds .any e = true → D e.on = true) → (∀ e ∈ o.after, Region.binds .any e = true → D e.on = true) → S D x w →
    wpList P l.toArray (Exit.then (fun a' w' => a'.defers = a.defers ∧ ∃ x', (∀ j, D j = true → val j x' = val j x) ∧ (∀ d, o.dst = some d → d < a.tmps.size → a'.tmps[d]? = some (val i x')) ∧ S (upd D i) x' w') Q) [o] (putV (fun j => val j x) 0 l a) w
theorem free_all {α : Type} {l : List Oper} {a0 : Act} {k : Nat} {val : Nat → α → Value} {S : (Nat → Bool) → α → World → Prop} (hB : FreeOk l.toArray k) (hk : a0.tmps.size = k)
    (hQ : ∀ ch (a a' : Act) w, a.defers = a'.defers → Q (.panic ch) a w → Q (.panic ch) a' w)
    (hstep : ∀ i o, l.toArray[i]? = some o → FreeStep P l Q a0 val S i o)
    (hend : ∀ x w D, (∀ i, i < l.length → D i = true) → S D x w → Q .normal (putV (fun j => val j x) 0 l a0) w) :
    ∀ (m : Nat) (listed : Array Bool) (a : Act) (w : World), unl l.toArray.size listed = m → listed.size = l.toArray.size → a.defers = a0.defers → a.tmps.size = a0.tmps.size →
      (∀ (j : Nat) oj, l.toArray[j]? = some oj → listed.getD j false = true → ∀ e ∈ oj.after, Region.binds .any e = true → listed.getD e.on false = true) →
      (∃ x, (∀ (j : Nat) (oj : Oper) d, l.toArray[j]? = some oj → oj.dst = some d → listed.getD j false = true → a.tmps[d]? = some (val j x)) ∧ (∀ t, (∀ (j : Nat) oj, l.toArray[j]? = some oj → oj.dst = some t → listed.getD j false = false) → a.tmps[t]? = a0.tmps[t]?) ∧ S (fun j => listed.getD j false) x w) →
      wpAny P .any l.toArray Q m listed a w := by
  have hfin : ∀ (x : α) (j : Nat) (oj : Oper) d, l.toArray[j]? = some oj → oj.dst = some d → (putV (fun j => val j x) 0 l a0).tmps[d]? = some (val j x) := fun x j oj d hj hd => by
    have := putV_in (fun j => val j x) l 0 a0 d j oj (fun j j' o o' h1 h2 h3 h4 => hB.uniq j j' o o' d (by simpa using h1) (by simpa using h2) h3 h4) (by simpa using hj) hd (by rw [hk]; exact hB.lt j oj d hj hd)
    rwa [Nat.zero_add] at this
  have hout : ∀ (x : α) t, (∀ (j : Nat) oj, l.toArray[j]? = some oj → oj.dst ≠ some t) → (putV (fun j => val j x) 0 l a0).tmps[t]? = a0.tmps[t]? := fun x t h =>
    putV_out _ _ _ _ _ (fun o ho => by obtain ⟨j, hj⟩ := List.getElem?_of_mem ho; exact h j o (by simpa using hj))
  intro m
  induction m with
  | zero =>
    intro listed a w hu hsz hdf has hcl ⟨x, hv, ho, hS⟩
    have hall := unl_zero hu
    have ha : a = putV (fun j => val j x) 0 l a0 := by
      have ht : a.tmps = (putV (fun j => val j x) 0 l a0).tmps := by
        apply Array.ext_getElem?
        intro t
        by_cases hex : ∃ (j : Nat) (oj : Oper), l.toArray[j]? = some oj ∧ oj.dst = some t
        · obtain ⟨j, oj, hj, hd⟩ := hex
          rw [hfin x j oj t hj hd]
          exact hv j oj t hj hd (hall j (Array.getElem?_eq_some_iff.1 hj).1)
        · have hno : ∀ (j : Nat) oj, l.toArray[j]? = some oj → oj.dst ≠ some t := fun j oj hj hd => hex ⟨j, oj, hj, hd⟩
          rw [hout x t hno]
          exact ho t (fun j oj hj hd => absurd hd (hno j oj hj))
      have hd := hdf.trans (putV_defers (fun j => val j x) l 0 a0).symm
      cases a
      simp only at ht hd
      rw [ht, hd]
    rw [ha]
    have hr : Region.ready .any l.toArray listed = [] := by
      rw [List.eq_nil_iff_forall_not_mem]
      intro i hi
      obtain ⟨g1, o, ho, _⟩ := mem_ready.1 hi
      have := hall i (Array.getElem?_eq_some_iff.1 ho).1
      rw [getD_both g1] at this; cases this
    exact ⟨hr, hend x w _ (fun i hi => hall i (by simpa using hi)) hS⟩
  | succ m ih =>
    intro listed a w hu hsz hdf has hcl ⟨x, hv, ho, hS⟩
    have hex : ∃ i, i < l.toArray.size ∧ listed.getD i false = false := by
      have : ((List.range l.toArray.size).filter fun i => !listed.getD i false) ≠ [] := fun e => by unfold unl at hu; rw [e] at hu; simp at hu
      obtain ⟨i, hi⟩ := List.exists_mem_of_ne_nil _ this
      rw [List.mem_filter, List.mem_range] at hi
      exact ⟨i, hi.1, by simpa using hi.2⟩
    have hne : Region.ready .any l.toArray listed ≠ [] := by
      have hmin : ∀ k, (∃ i, i ≤ k ∧ i < l.toArray.size ∧ listed.getD i false = false) → ∃ i, i < l.toArray.size ∧ listed.getD i false = false ∧ ∀ j, j < i → listed.getD j false = true := by
        intro k
        induction k with
        | zero =>
          rintro ⟨i, hi, h1, h2⟩
          exact ⟨i, h1, h2, fun j hj => by omega⟩
        | succ k ihk =>
          rintro ⟨i, hi, h1, h2⟩
          by_cases hlow : ∃ j, j ≤ k ∧ j < l.toArray.size ∧ listed.getD j false = false
          · exact ihk hlow
          · refine ⟨i, h1, h2, fun j hj => ?_⟩
            cases hb : listed.getD j false with
            | true => rfl
            | false => exact absurd ⟨j, by omega, by omega, hb⟩ hlow
      obtain ⟨i0, g1, g2⟩ := hex
      obtain ⟨i, hin, hb, hlow⟩ := hmin i0 ⟨i0, Nat.le_refl _, g1, g2⟩
      have ho : l.toArray[i]? = some l.toArray[i] := Array.getElem?_eq_getElem hin
      have : i ∈ Region.ready .any l.toArray listed := mem_ready.2 ⟨getD_in (by rw [hsz]; omega) hb, _, ho, fun e he hbd => hlow _ (hB.back i _ ho e he hbd)⟩
      intro e
      rw [e] at this
      cases this
    refine ⟨fun hr => absurd hr hne, fun i hi => ?_⟩
    obtain ⟨hun, o, hoi, hready⟩ := mem_ready.1 hi
    have hil : i < l.toArray.size := (Array.getElem?_eq_some_iff.1 hoi).1
    have his : i < listed.size := by rw [hsz]; exact hil
    have hus := unl_set (n := l.toArray.size) hil his (getD_both hun)
    have hsel := fun cs b => Region.noSelect_spec hB.sel i o cs b hoi
    have hag : ∀ t ∈ o.looksAt l.toArray, a.tmps[t]? = (putV (fun j => val j x) 0 l a0).tmps[t]? := fun t ht => by
      by_cases hex : ∃ (j : Nat) (oj : Oper), l.toArray[j]? = some oj ∧ oj.dst = some t
      · obtain ⟨j, oj, hj, hd⟩ := hex
        rw [hfin x j oj t hj hd]
        obtain ⟨e, he, hb, hon⟩ := hB.look i o hoi t ht j oj hj hd
        exact hv j oj t hj hd (hon ▸ hready e he hb)
      · have hno : ∀ (j : Nat) oj, l.toArray[j]? = some oj → oj.dst ≠ some t := fun j oj hj hd => hex ⟨j, oj, hj, hd⟩
        rw [hout x t hno]
        exact ho t (fun j oj hj hd => absurd hd (hno j oj hj))
    have hcl' : ∀ (j : Nat) oj, l.toArray[j]? = some oj → (listed.setIfInBounds i true).getD j false = true → ∀ e ∈ oj.after, Region.binds .any e = true → (listed.setIfInBounds i true).getD e.on false = true := fun j oj hj hl e he hb => by
      by_cases hij : i = j
      · subst hij
        have : oj = o := Option.some.inj (hj.symm.trans hoi)
        subst this
        exact getD_set_true (hready e he hb)
      · rw [getD_set_ne false hij] at hl
        exact getD_set_true (hcl j oj hj hl e he hb)
    have hw1 := hstep i o hoi (fun j => listed.getD j false) x w (getD_both hun) hcl hready hS
    have hupd : upd (fun j => listed.getD j false) i = fun j => (listed.setIfInBounds i true).getD j false := by
      funext j
      unfold upd
      by_cases hij : j = i
      · subst hij; rw [if_pos rfl]; exact (getD_set_self his).symm
      · rw [if_neg hij]; exact (getD_set_ne false (fun e => hij e.symm)).symm
    have hdf2 := putV_defers (fun j => val j x) l 0 a0
    have hsz2 := putV_size (fun j => val j x) l 0 a0
    have hnext : ∀ (b b' : Act) u w', b.tmps = (putV (fun j => val j x) 0 l a0).tmps → b'.tmps = a.tmps → b'.defers = a0.defers → (∃ x', (∀ j, listed.getD j false = true → val j x' = val j x) ∧ (∀ d, o.dst = some d → d < a0.tmps.size → (b.put o.dst u).tmps[d]? = some (val i x')) ∧ S (upd (fun j => listed.getD j false) i) x' w') → wpAny P .any l.toArray Q m (listed.setIfInBounds i true) (b'.put o.dst u) w' := fun b b' u w' hb hb' hdf' ⟨x', h1, h2, h3⟩ => by
      refine ih _ _ _ (by omega) (by simp [hsz]) (by rw [put_defers', hdf']) (by rw [put_size', hb', has]) hcl' ⟨x', fun j oj d hj hd hl => ?_, fun t hall => ?_, by rw [← hupd]; exact h3⟩
      · by_cases hij : i = j
        · subst hij
          have : oj = o := Option.some.inj (hj.symm.trans hoi)
          subst this
          have h4 := h2 d hd (by rw [hk]; exact hB.lt i oj d hoi hd)
          rw [hd, put_at] at h4 ⊢
          rw [hb, hsz2, hk] at h4
          rw [hb', has, hk]
          have hdk := hB.lt i oj d hoi hd
          rw [if_pos ⟨rfl, hdk⟩] at h4 ⊢
          exact h4
        · rw [getD_set_ne false hij] at hl
          have hne2 : o.dst ≠ some d := fun e => hij (hB.uniq i j o oj d hoi hj e hd)
          rw [put_ne' b' _ _ _ hne2, hb', h1 j hl]
          exact hv j oj d hj hd hl
      · have hne2 : o.dst ≠ some t := fun e => by
          have := hall i o hoi e
          rw [getD_set_self his] at this; cases this
        rw [put_ne' b' _ _ _ hne2, hb']
        refine ho t (fun j oj hj hd => ?_)
        have := hall j oj hj hd
        by_cases hij : i = j
        · subst hij; exact absurd (getD_both hun) (by have h9 := getD_set_self his; rw [h9] at this; cases this)
        · rwa [getD_set_ne false hij] at this
    unfold wpOp
    rw [hoi]
    simp only
    have hwant := wanted_agree (ops := l.toArray) (o := o) hag
    have hexe := exec_agree (ops := l.toArray) hsel hag
    unfold wpList at hw1
    by_cases hw : Region.wanted o (yielded l.toArray (putV (fun j => val j x) 0 l a0).tmps) = true
    · rw [if_pos hw] at hw1
      rw [hwant, if_pos hw]
      have conv : ∀ r, o.upon P (putV (fun j => val j x) 0 l a0) (wpList P l.toArray (Exit.then (fun a' w' => a'.defers = a0.defers ∧ ∃ x', (∀ j, listed.getD j false = true → val j x' = val j x) ∧ (∀ d, o.dst = some d → d < a0.tmps.size → a'.tmps[d]? = some (val i x')) ∧ S (upd (fun j => listed.getD j false) i) x' w') Q) []) (Exit.then (fun a' w' => a'.defers = a0.defers ∧ ∃ x', (∀ j, listed.getD j false = true → val j x' = val j x) ∧ (∀ d, o.dst = some d → d < a0.tmps.size → a'.tmps[d]? = some (val i x')) ∧ S (upd (fun j => listed.getD j false) i) x' w') Q) r → o.upon P a (wpAny P .any l.toArray Q m (listed.setIfInBounds i true)) Q r := fun r hr => by
        refine upon_agree (Q := Q) (hdf2.trans hdf.symm) hQ (N := (fun a' w' => a'.defers = a0.defers ∧ ∃ x', (∀ j, listed.getD j false = true → val j x' = val j x) ∧ (∀ d, o.dst = some d → d < a0.tmps.size → a'.tmps[d]? = some (val i x')) ∧ S (upd (fun j => listed.getD j false) i) x' w')) (fun b b' u w' hb hb' hdf3 hn => hnext b b' u w' hb hb' (by rw [← hdf3]; have := hn.1; rwa [put_defers'] at this) hn.2) r ?_
        cases r with
        | ok mm w' => cases mm <;> exact hr
        | halt x w' => cases x <;> exact hr
      rcases hw1 with hw1 | ⟨hw1, hw2⟩
      · left
        unfold Oper.wp at hw1 ⊢
        rw [hexe]
        exact conv _ hw1
      · right
        refine ⟨?_, hw2⟩
        unfold Oper.asks at *
        rw [hexe]
        exact hw1
    · rw [if_neg hw] at hw1
      rw [hwant, if_neg hw]
      exact hnext _ a undef w rfl rfl hdf hw1.2
/-- A region of open order. -/
theorem wp_region_free {α : Type} {id : Nat} {l : List Oper} {a : Act} {w : World} (val : Nat → α → Value) (S : (Nat → Bool) → α → World → Prop) (x0 : α) (k : Nat) (hm : P.follows .mixedOrders = true) (hB : freeOk l.toArray k = true) (hk : a.tmps.size = k) (hC : S (fun _ => false) x0 w.drew)
    (hQ : ∀ ch (a a' : Act) w, a.defers = a'.defers → Q (.panic ch) a w → Q (.panic ch) a' w)
    (hstep : ∀ i o, l.toArray[i]? = some o → FreeStep P l Q a val S i o)
    (hend : ∀ x w D, (∀ i, i < l.length → D i = true) → S D x w → Q .normal (putV (fun j => val j x) 0 l a) w) : (Code.region id l.toArray true).wp P Q a w := by
  refine wp_region_any hm ?_
  have hrep : ∀ i, (Array.replicate l.toArray.size false).getD i false = false := fun i => getD_replicate_false _ i
  have hu : unl l.toArray.size (Array.replicate l.toArray.size false) = l.toArray.size := by
    unfold unl
    rw [List.filter_eq_self.2 (fun i _ => by rw [hrep]; rfl)]
    simp
  refine free_all (free_of hB) hk hQ hstep hend l.toArray.size (Array.replicate l.toArray.size false) a w.drew hu (by simp) rfl rfl (fun j oj _ hl => (by rw [hrep] at hl; cases hl)) ⟨x0, fun j oj d _ _ hl => (by rw [hrep] at hl; cases hl), fun _ _ => rfl, ?_⟩
  have e : (fun j => (Array.replicate l.toArray.size false).getD j false) = fun _ => false := funext hrep
  rw [e]
  exact hC
end
end Go.Proofs.Ytonohjhmnlfakaa.H
