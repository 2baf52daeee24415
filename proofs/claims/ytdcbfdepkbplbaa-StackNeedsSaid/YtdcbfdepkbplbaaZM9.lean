/- The plain law of stacks: what is settled, or put into an earlier one, changes no bytes. -/
import Derived.Test.YtdcbfdepkbplbaaZ24
set_option linter.unusedVariables false
set_option linter.unusedSimpArgs false
namespace Go.Proofs.Ytdcbfdepkbplbaa.H
open Go.RowKit
theorem meet_comm {b : List UInt8} {p q : Pat} (hb : b.length = 32) (hp : rightB p = true) (hq : rightB q = true) (h : meetB p q = false) : app (app b p) q = app (app b q) p := by
  have h2 : rightB ⟨p.blk, q.off, q.dat⟩ = true := by
    rw [rightB_iff] at hp hq ⊢
    exact ⟨hp.1, hp.2.1, hq.2.2.1, hq.2.2.2.1, hq.2.2.2.2.1, hq.2.2.2.2.2⟩
  exact app_comm b p ⟨p.blk, q.off, q.dat⟩ hb hp h2 rfl (by rw [over_meet hp hq]; exact h)
theorem push_through {x : Pat} (hx : rightB x = true) : ∀ (ds : List Pat) (b : List UInt8), b.length = 32 → (∀ d ∈ ds, rightB d = true ∧ meetB x d = false) → appAll (app b x) ds = app (appAll b ds) x
  | [], b, _, _ => rfl
  | d :: ds, b, hb, h => by
    have hd := h d (List.mem_cons_self ..)
    show appAll (app (app b x) d) ds = app (appAll (app b d) ds) x
    rw [meet_comm hb hx hd.1 hd.2]
    exact push_through hx ds _ (app_length _ _ hb hd.1) (fun d' hd' => h d' (List.mem_cons_of_mem _ hd'))
theorem sel_append (l l' : List On) (s : List Int) : selL (l ++ l') s = selL l s ++ selL l' s := by simp [selL]
theorem left_append (l l' : List On) (s : List Int) : leftL (l ++ l') s = leftL l s ++ leftL l' s := by simp [leftL]
theorem settle_bytes (base : List UInt8) (s : List Int) (hb : base.length = 32) : ∀ (r : List On), (∀ o ∈ r, rightB o.p = true) → ¬ BusyL r.reverse s → appAll (appAll base (selL r.reverse s)) ((leftL r.reverse s).map On.p) = appAll base (r.reverse.map On.p)
  | [], _, _ => rfl
  | x :: r, hr, hbusy => by
    have hr' : ∀ o ∈ r, rightB o.p = true := fun o ho => hr o (List.mem_cons_of_mem _ ho)
    have hrr : ∀ o ∈ r.reverse, rightB o.p = true := fun o ho => hr' o (List.mem_reverse.1 ho)
    have hx := hr x (List.mem_cons_self ..)
    rw [List.reverse_cons] at hbusy ⊢
    have hbusy' : ¬ BusyL r.reverse s := fun ⟨i, k, hki, c, d, hc, hd, h⟩ => hbusy ⟨i, k, hki, c, d, by rw [List.getElem?_append_left (List.getElem?_eq_some_iff.1 hc).1]; exact hc, by rw [List.getElem?_append_left (List.getElem?_eq_some_iff.1 hd).1]; exact hd, h⟩
    have ih := settle_bytes base s hb r hr' hbusy'
    have hsl : (appAll base (selL r.reverse s)).length = 32 := appAll_length _ _ hb (selL_right hrr)
    rw [sel_append, left_append, List.map_append, List.map_append]
    cases hsel : s.contains (x.n : Int) with
    | false =>
      have e1 : selL [x] s = [] := by simp only [selL, List.filter_cons, hsel, List.filter_nil]; rfl
      have e2 : leftL [x] s = [x] := by simp only [leftL, List.filter_cons, hsel, List.filter_nil]; rfl
      rw [e1, e2, List.append_nil, List.map_cons, List.map_nil, appAll_snoc, appAll_snoc, ih]
    | true =>
      have e1 : selL [x] s = [x.p] := by simp only [selL, List.filter_cons, hsel, List.filter_nil]; rfl
      have e2 : leftL [x] s = [] := by simp only [leftL, List.filter_cons, hsel, List.filter_nil]; rfl
      rw [e1, e2, List.map_nil, List.append_nil, List.map_cons, List.map_nil, appAll_snoc, appAll_snoc, ← ih]
      refine push_through hx _ _ hsl (fun d hd => ?_)
      obtain ⟨o, ho, rfl⟩ := List.mem_map.1 hd
      obtain ⟨ho1, ho2⟩ := List.mem_filter.1 ho
      refine ⟨hrr o ho1, ?_⟩
      obtain ⟨k, hk⟩ := List.getElem?_of_mem ho1
      have hkl := (List.getElem?_eq_some_iff.1 hk).1
      cases hm : meetB x.p o.p with
      | false => rfl
      | true =>
        exfalso
        refine hbusy ⟨r.reverse.length, k, hkl, x, o, ?_, ?_, hsel, by simpa using ho2, hm⟩
        · rw [List.getElem?_append_right (Nat.le_refl _), Nat.sub_self]; rfl
        · rw [List.getElem?_append_left hkl]; exact hk
theorem settled_bytes {m : Stk} (hk : m.Ok) {s : List Int} (hb : ¬ BusyL m.l s) : (m.settled s).bytes = m.bytes := by
  have h := settle_bytes m.base s hk.base m.l.reverse (fun o ho => hk.right o (List.mem_reverse.1 ho)) (by rw [List.reverse_reverse]; exact hb)
  rw [List.reverse_reverse] at h
  exact h
theorem squashed_bytes {m : Stk} (hk : m.Ok) {i k : Nat} {a b : On} (hik : i < k) (hi : m.l[i]? = some a) (hkb : m.l[k]? = some b) (hb : ¬ SqBusy m.l i k a b) (hj : joinB a.p ⟨a.p.blk, b.p.off, b.p.dat⟩ = true) : (m.squashed i k a.n (joinM a.p ⟨a.p.blk, b.p.off, b.p.dat⟩)).bytes = m.bytes := by
  obtain ⟨hil, hia⟩ := List.getElem?_eq_some_iff.1 hi
  obtain ⟨hkl, hkb'⟩ := List.getElem?_eq_some_iff.1 hkb
  obtain ⟨pre, hpre⟩ : ∃ pre, pre = m.l.take i := ⟨_, rfl⟩
  obtain ⟨mid, hmid⟩ : ∃ mid, mid = (m.l.drop (i + 1)).take (k - (i + 1)) := ⟨_, rfl⟩
  obtain ⟨post, hpost⟩ : ∃ post, post = m.l.drop (k + 1) := ⟨_, rfl⟩
  have hpl : pre.length = i := by rw [hpre, List.length_take]; omega
  have hml : mid.length = k - (i + 1) := by rw [hmid, List.length_take, List.length_drop]; omega
  have e1 : m.l = pre ++ a :: (mid ++ b :: post) := by
    have h1 : m.l.drop i = a :: m.l.drop (i + 1) := by rw [List.drop_eq_getElem_cons hil, hia]
    have h2 : m.l.drop (i + 1) = mid ++ m.l.drop k := by
      have := (List.take_append_drop (k - (i + 1)) (m.l.drop (i + 1))).symm
      rw [List.drop_drop, show i + 1 + (k - (i + 1)) = k by omega, ← hmid] at this
      exact this
    have h3 : m.l.drop k = b :: post := by rw [List.drop_eq_getElem_cons hkl, hkb', hpost]
    rw [← h3, ← h2, ← h1, hpre, List.take_append_drop]
  have e2 : (m.squashed i k a.n (joinM a.p ⟨a.p.blk, b.p.off, b.p.dat⟩)).l = pre ++ ⟨a.n, joinM a.p ⟨a.p.blk, b.p.off, b.p.dat⟩⟩ :: (mid ++ post) := by
    show (m.l.set i _).eraseIdx k = _
    rw [e1, List.set_append_right _ _ (by omega), hpl, Nat.sub_self, List.set_cons_zero, List.eraseIdx_append_of_length_le (by omega), hpl]
    congr 1
    obtain ⟨t, ht⟩ : ∃ t, k - i = t + 1 := ⟨k - i - 1, by omega⟩
    rw [ht, List.eraseIdx_cons_succ]
    congr 1
    rw [List.eraseIdx_append_of_length_le (by omega), hml, show t - (k - (i + 1)) = 0 by omega]
    rfl
  have hr : ∀ o ∈ pre ++ a :: (mid ++ b :: post), rightB o.p = true := fun o ho => hk.right o (by rw [e1]; exact ho)
  have hra : rightB a.p = true := hr a (by simp)
  have hrb : rightB b.p = true := hr b (by simp)
  have hX : (appAll m.base (pre.map On.p)).length = 32 := appAll_length _ _ hk.base (fun p hp => by
    obtain ⟨o, ho, rfl⟩ := List.mem_map.1 hp
    exact hr o (by simp [ho]))
  have hJ := joins_iff.1 hj
  unfold Stk.bytes Stk.pats
  rw [e2, e1]
  have hc : ∀ (b : List UInt8) (p : Pat) (ps : List Pat), appAll b (p :: ps) = appAll (app b p) ps := fun _ _ _ => rfl
  simp only [List.map_append, List.map_cons, appAll_append, hc]
  show appAll (appAll (app (appAll m.base (pre.map On.p)) (joinM a.p ⟨a.p.blk, b.p.off, b.p.dat⟩)) (mid.map On.p)) (post.map On.p) = appAll (app (appAll (app (appAll m.base (pre.map On.p)) a.p) (mid.map On.p)) b.p) (post.map On.p)
  rw [joinM_app _ hJ hX]
  congr 1
  refine push_through (x := b.p) hrb (mid.map On.p) (app (appAll m.base (pre.map On.p)) a.p) (app_length _ _ hX hra) (fun d hd => ?_)
  obtain ⟨o, ho, rfl⟩ := List.mem_map.1 hd
  refine ⟨hr o (by simp [ho]), ?_⟩
  obtain ⟨t, ht⟩ := List.getElem?_of_mem ho
  have htl := (List.getElem?_eq_some_iff.1 ht).1
  cases hm : meetB b.p o.p with
  | false => rfl
  | true =>
    exfalso
    refine hb ⟨i + 1 + t, o, by omega, by omega, ?_, .inr (by rw [meet_sym]; exact hm)⟩
    rw [e1, List.getElem?_append_right (by omega), hpl, show i + 1 + t - i = t + 1 by omega, List.getElem?_cons_succ, List.getElem?_append_left htl]
    exact ht
theorem all_may {l : List On} : ¬ OutL l (l.map fun o => (o.n : Int)) ∧ ¬ BusyL l (l.map fun o => (o.n : Int)) := by
  refine ⟨fun ⟨x, hx, h⟩ => ?_, fun ⟨i, k, _, c, d, _, hd, _, h, _⟩ => ?_⟩
  · obtain ⟨o, ho, rfl⟩ := List.mem_map.1 hx
    exact h o ho rfl
  · have : (l.map fun o => (o.n : Int)).contains (d.n : Int) = true := by
      rw [List.contains_iff_mem]
      exact List.mem_map.2 ⟨d, List.mem_of_getElem? hd, rfl⟩
    rw [h] at this; cases this
theorem squashed_len {m : Stk} {i k n : Nat} {q : Pat} (hk : k < m.l.length) : (m.squashed i k n q).l.length + 1 = m.l.length := by
  show ((m.l.set i _).eraseIdx k).length + 1 = _
  rw [List.length_eraseIdx_of_lt (by rw [List.length_set]; exact hk), List.length_set]
  omega
end Go.Proofs.Ytdcbfdepkbplbaa.H
