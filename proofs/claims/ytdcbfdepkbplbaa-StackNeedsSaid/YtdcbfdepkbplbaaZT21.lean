/- StackWhole: the walk. -/
import Derived.Test.YtdcbfdepkbplbaaZT20
import Derived.Test.YtdcbfdepkbplbaaZM9
set_option linter.unusedVariables false
set_option linter.unusedSimpArgs false
set_option maxRecDepth 100000
namespace Go.Proofs.Ytdcbfdepkbplbaa.H
open Go.RowKit
/-- The numbers that are on. -/
def numsM (m : Stk) : List Int := m.l.map fun o => (o.n : Int)
theorem numsM_i64 {m : Stk} (hk : m.Ok) : ∀ x ∈ numsM m, i64 x := by
  intro x hx
  obtain ⟨o, ho, rfl⟩ := List.mem_map.1 hx
  have := hk.lt o ho
  have := hk.lim
  exact ⟨by omega, by omega⟩
theorem ints_len (l : List Int) : (ints l).length = l.length := by simp [ints]
abbrev RollIs (m : Stk) (s : List Int) (e : Int) (bs : List UInt8) : Prop :=
  ∀ (w : World) (L : List HP) (p : Nat) (sv : Value), Own w (stk p m :: L) → (∀ w', Own w' L → Rd w' 1 sv s.length (ints s)) → Calls Try.prog 17 #[.pointer (some ⟨p, 0, none⟩), sv] w (RetX w (fun v => .tuple #[v, .int .i64 e]) (fun v => rdA 1 v (bcs bs).length (bcs bs) :: stk p m :: L))
theorem roll_all {m : Stk} (hk : m.Ok) : RollIs m (numsM m) 0 m.bytes := by
  obtain ⟨e, bs, hrb, hmay, hbs⟩ := roll_both m hk (numsM m) (numsM_i64 hk)
  have h := all_may (l := m.l)
  have e0 : e = 0 := by
    rcases hmay with ⟨h1, _⟩ | ⟨_, h1, _⟩ | ⟨_, _, h1⟩
    · exact absurd h1 h.1
    · exact absurd h1 h.2
    · exact h1
  subst e0
  rw [if_pos rfl] at hbs
  have hb2 : bs = m.bytes := by rw [hbs]; unfold numsM; rw [sel_all]; rfl
  rw [hb2] at hrb
  exact hrb.1
theorem roll_nil0 {m : Stk} (hk : m.Ok) : RollIs m [] 0 m.base := by
  obtain ⟨e, bs, hrb, hmay, hbs⟩ := roll_both m hk [] (fun x hx => by cases hx)
  have e0 : e = 0 := by
    rcases hmay with ⟨h1, _⟩ | ⟨_, h1, _⟩ | ⟨_, _, h1⟩
    · exact absurd h1 (out_nil _)
    · exact absurd h1 (busy_nil _)
    · exact h1
  subst e0
  rw [if_pos rfl] at hbs
  have hb2 : bs = m.base := by rw [hbs, sel_nil]; rfl
  rw [hb2] at hrb
  exact hrb.1
set_option maxHeartbeats 3200000 in
theorem whole_c (w : World) (A0 : Option Addr) (n0 c0 : Nat) (l0 : List UInt8) (A1 : Option Addr) (n1 c1 : Nat) (ds : List Dd) (d : Dd) (h : Arg w A0 n0 c0 l0 A1 n1 c1 ds) (hd : d.At w) :
    Calls Try.prog 4 #[.slice A0 n0 c0, .slice A1 n1 c1, .agg d.cells.toArray] w (fun e w' => e = .returned (.bool true) ∧ Below w.heap.size w w') := by
  obtain ⟨kd, dn, dm, ⟨db, dof, dd⟩, dv, dl⟩ := d
  obtain ⟨AL, cL, e⟩ := hd.rd.slice
  have e : dv = .slice AL dl.length cL := e
  subst e
  obtain ⟨nL, hnL⟩ : ∃ nL, nL = dl.length := ⟨_, rfl⟩
  have hrl : Rd w 1 (.slice AL nL cL) nL (ints dl) := by rw [hnL]; exact hd.rd
  have hmx := hrl.max
  show Calls _ _ #[_, _, .agg #[.int .i64 kd, .int .i64 dn, .int .i64 dm, .int .i64 db, .int .i64 dof, .string dd, .slice AL dl.length cL]] _ _
  rw [← hnL]
  have HRL : Hid (∀ w' L, Own w' (snap w :: L) → Rd w' 1 (fewV AL nL cL) (dl.take 40).length (ints (dl.take 40))) := fun w' L h => few_rd (rd_snap1 hrl h) hnL
  have HDI : Hid (∀ x ∈ dl.take 40, i64 x) := fun x hx => hd.i64 x (List.mem_of_mem_take hx)
  have HF : Hid (40 < nL → 40 ≤ cL) := fun h => by omega
  have HNM : Hid (i64 dn ∧ i64 dm) := ⟨hd.n64, hd.m64⟩
  have HA := Lib.hid h
  have hO : Own w [snap w] := own_snap
  have hS := Same.refl w
  clear h hd hrl hmx hnL
  go_enter Try.func4, Try.ntmps4
  go_upto_region 2 with (first | (refine own_box_agg (x := .tmp 2) rfl rfl rfl hO ?_; clear hO; intro b u hO hSn; replace hS := hS.trans hSn; clear hSn) | (go_at_call 11; (with_reducible refine Calls.mono (play_s _ _ _ _ _ l0 _ _ _ ds HA.out _ (own_perm hO (List.Perm.swap _ _ _))) ?_); clear hO; rintro e u ⟨p, q, m, hm, hl, hn, rfl, hO, hSn⟩; replace hS := hS.trans hSn; clear hSn; have HM := Lib.hid hm; have HML : Hid (m.l.length ≤ 30 ∧ m.next ≤ 30) := ⟨hl, hn⟩; clear hm hl hn))
  have HW := Lib.hid (waiting_both m HM.out m.next HM.out)
  have HBY := Lib.hid (bytes_both m HM.out m.next HM.out)
  have HBA := Lib.hid (base_both m HM.out m.next HM.out)
  have HALL := Lib.hid (roll_all HM.out)
  have HNIL := Lib.hid (roll_nil0 HM.out)
  have HB32 : Hid ((bcs m.bytes).length = m.bytes.length) := bcs_length _
  have HA32 : Hid ((bcs m.base).length = m.base.length) := bcs_length _
  go_upto_region 6 with (first | (go_at_call 12; (with_reducible refine Calls.mono (live_c _ _ hO) ?_); clear hO; rintro e u ⟨rfl, hO, hSn⟩; replace hS := hS.trans hSn; clear hSn) | (go_at_call 18; (with_reducible refine Calls.mono (call_atX 0 (fun L' h => HW.out.1 _ L' p h) rfl hO) ?_); clear hO; rintro e u ⟨vs, rfl, hO, hSn⟩; replace hS := hS.trans hSn; clear hSn; simp only [List.set_cons_zero, List.set_cons_succ] at hO) | (go_at_call 17; (with_reducible refine Calls.mono (HALL.out _ (rdA 1 vs (ints (numsM m)).length (ints (numsM m)) :: rstk q m :: snap w :: [pts b (.cells #[.int .i64 kd, .int .i64 dn, .int .i64 dm, .int .i64 db, .int .i64 dof, .string dd, .slice AL nL cL] 42)]) p vs (own_perm hO (List.Perm.swap _ _ _)) (fun w' h => by have h2 := rdA_rd h; rw [ints_len] at h2; exact h2)) ?_); clear hO; rintro e u ⟨v1, rfl, hO, hSn⟩; replace hS := hS.trans hSn; clear hSn) | (go_at_call 17; (with_reducible refine Calls.mono (call_atX 1 (fun L' h => HNIL.out _ L' p _ h (fun w' h => rd_nil _ _)) rfl hO) ?_); clear hO; rintro e u ⟨v2, rfl, hO, hSn⟩; replace hS := hS.trans hSn; clear hSn; simp only [List.set_cons_zero, List.set_cons_succ] at hO))
  refine wp_region_own (α := Nat → Value) (fun x => .int .i64 0 :: .bool false :: .bool false :: .int .i64 0 :: .bool false :: .bool false :: .bool false :: v1 :: .string (bstr m.bytes) :: .pointer (some ⟨p, 0, none⟩) :: x 10 :: .string (bstr m.bytes) :: .bool false :: .bool false :: .bool false :: v2 :: .string (bstr m.base) :: .pointer (some ⟨p, 0, none⟩) :: x 18 :: .string (bstr m.base) :: .bool false :: .bool false :: []) (fun D x => ([rdA 1 v2 (bcs m.base).length (bcs m.base), rdA 1 v1 (bcs m.bytes).length (bcs m.bytes), stk p m, rdA 1 vs (ints (numsM m)).length (ints (numsM m)), rstk q m, snap w, pts b (.cells #[.int .i64 kd, .int .i64 dn, .int .i64 dm, .int .i64 db, .int .i64 dof, .string dd, .slice AL nL cL] 42)]) ++ owL ([(10, none, fun v => rdA 1 v (bcs m.bytes).length (bcs m.bytes)), (18, none, fun v => rdA 1 v (bcs m.base).length (bcs m.base))]) D x) u (fun _ => undef) 94 (fun _ => rfl) mixed (by kernel_rfl) rfl (by rw [owL_none, List.append_nil]; exact own_heap hO (fun _ _ h => h)) (Same.drew _) (fun _ _ _ _ hd h => ⟨hd ▸ h.1, h.2⟩) ?_ ?_
  · refine ⟨?_, ?_, ?_, ?_, ?_, ?_, ?_, ?_, ?_, ?_, ?_, ?_, ?_, ?_, ?_, ?_, ?_, ?_, ?_, ?_, ?_, ?_, trivial⟩
    · (refine @fs_pureO _ _ _ _ _ _ _ _ _ _ (by kernel_rfl) (fun D x hD hcl hp => ?_); simp only [putO]; simp only [Act.put, List.setIfInBounds_toArray, List.set_cons_zero, List.set_cons_succ]; first | exact y_run rfl (by intro w h; go_simp; first | done | rfl))
    · (refine @fs_pureO _ _ _ _ _ _ _ _ _ _ (by kernel_rfl) (fun D x hD hcl hp => ?_); simp only [putO]; simp only [Act.put, List.setIfInBounds_toArray, List.set_cons_zero, List.set_cons_succ]; first | exact y_run rfl (by intro w h; go_simp; first | done | rfl))
    · (refine @fs_pureO _ _ _ _ _ _ _ _ _ _ (by kernel_rfl) (fun D x hD hcl hp => ?_); simp only [putO]; simp only [Act.put, List.setIfInBounds_toArray, List.set_cons_zero, List.set_cons_succ]; first | exact y_run rfl (by intro w h; go_simp; first | done | rfl))
    · (refine @fs_pureO _ _ _ _ _ _ _ _ _ _ (by kernel_rfl) (fun D x hD hcl hp => ?_); simp only [putO]; simp only [Act.put, List.setIfInBounds_toArray, List.set_cons_zero, List.set_cons_succ]; first | exact y_run rfl (by intro w h; go_simp; first | done | rfl))
    · (refine @fs_pureO _ _ _ _ _ _ _ _ _ _ (by kernel_rfl) (fun D x hD hcl hp => ?_); simp only [putO]; simp only [Act.put, List.setIfInBounds_toArray, List.set_cons_zero, List.set_cons_succ]; first | exact y_run rfl (by intro w h; go_simp; first | done | rfl))
    · (refine @fs_pureO _ _ _ _ _ _ _ _ _ _ (by kernel_rfl) (fun D x hD hcl hp => ?_); simp only [putO]; simp only [Act.put, List.setIfInBounds_toArray, List.set_cons_zero, List.set_cons_succ]; first | exact y_run rfl (by intro w h; go_simp; first | done | rfl))
    · (refine @fs_pureO _ _ _ _ _ _ _ _ _ _ (by kernel_rfl) (fun D x hD hcl hp => ?_); simp only [putO]; simp only [Act.put, List.setIfInBounds_toArray, List.set_cons_zero, List.set_cons_succ]; first | exact y_run rfl (by intro w h; go_simp; first | done | rfl))
    · (refine @fs_pureO _ _ _ _ _ _ _ _ _ _ (by kernel_rfl) (fun D x hD hcl hp => ?_); simp only [putO]; simp only [Act.put, List.setIfInBounds_toArray, List.set_cons_zero, List.set_cons_succ]; first | exact y_run rfl (by intro w h; go_simp; first | done | rfl))
    · (refine @fs_pureO _ _ _ _ _ _ _ _ _ _ (by kernel_rfl) (fun D x hD hcl hp => ?_); simp only [putO]; simp only [Act.put, List.setIfInBounds_toArray, List.set_cons_zero, List.set_cons_succ]; first | exact (y_string rfl rfl rfl Try.underlying22 Try.underlying5 Try.underlying9 HB32.out (fun w h => rdA_rd (own_drop h.1))) | exact y_run rfl (by intro w h; go_simp; first | done | rfl))
    · (refine @fs_pureO _ _ _ _ _ _ _ _ _ _ (by kernel_rfl) (fun D x hD hcl hp => ?_); simp only [putO]; simp only [Act.put, List.setIfInBounds_toArray, List.set_cons_zero, List.set_cons_succ]; first | exact y_run rfl (by intro w h; go_simp; first | done | rfl))
    · (refine @fs_new _ _ _ _ _ _ _ _ _ _ _ _ [] (fun v => v) rfl rfl (by kernel_rfl) (by kernel_rfl) (by intro j; rcases j with _ | j; (focus (first | exact .inr fun _ _ => rfl | exact .inl (by kernel_rfl))); rcases j with _ | j; (focus (first | exact .inr fun _ _ => rfl | exact .inl (by kernel_rfl))); rcases j with _ | j; (focus (first | exact .inr fun _ _ => rfl | exact .inl (by kernel_rfl))); rcases j with _ | j; (focus (first | exact .inr fun _ _ => rfl | exact .inl (by kernel_rfl))); rcases j with _ | j; (focus (first | exact .inr fun _ _ => rfl | exact .inl (by kernel_rfl))); rcases j with _ | j; (focus (first | exact .inr fun _ _ => rfl | exact .inl (by kernel_rfl))); rcases j with _ | j; (focus (first | exact .inr fun _ _ => rfl | exact .inl (by kernel_rfl))); rcases j with _ | j; (focus (first | exact .inr fun _ _ => rfl | exact .inl (by kernel_rfl))); rcases j with _ | j; (focus (first | exact .inr fun _ _ => rfl | exact .inl (by kernel_rfl))); rcases j with _ | j; (focus (first | exact .inr fun _ _ => rfl | exact .inl (by kernel_rfl))); rcases j with _ | j; (focus (first | exact .inr fun _ _ => rfl | exact .inl (by kernel_rfl))); rcases j with _ | j; (focus (first | exact .inr fun _ _ => rfl | exact .inl (by kernel_rfl))); rcases j with _ | j; (focus (first | exact .inr fun _ _ => rfl | exact .inl (by kernel_rfl))); rcases j with _ | j; (focus (first | exact .inr fun _ _ => rfl | exact .inl (by kernel_rfl))); rcases j with _ | j; (focus (first | exact .inr fun _ _ => rfl | exact .inl (by kernel_rfl))); rcases j with _ | j; (focus (first | exact .inr fun _ _ => rfl | exact .inl (by kernel_rfl))); rcases j with _ | j; (focus (first | exact .inr fun _ _ => rfl | exact .inl (by kernel_rfl))); rcases j with _ | j; (focus (first | exact .inr fun _ _ => rfl | exact .inl (by kernel_rfl))); rcases j with _ | j; (focus (first | exact .inr fun _ _ => rfl | exact .inl (by kernel_rfl))); rcases j with _ | j; (focus (first | exact .inr fun _ _ => rfl | exact .inl (by kernel_rfl))); rcases j with _ | j; (focus (first | exact .inr fun _ _ => rfl | exact .inl (by kernel_rfl))); rcases j with _ | j; (focus (first | exact .inr fun _ _ => rfl | exact .inl (by kernel_rfl))); exact .inr fun _ _ => rfl) (fun _ _ => rfl) ?_; intro D x u hD hcl hp hO hS N hN; simp only [putO]; simp only [Act.put, List.setIfInBounds_toArray, List.set_cons_zero, List.set_cons_succ]; refine ev_call rfl (by go_simp; first | done | exact ⟨rfl, rfl⟩) ?_; refine Calls.mono (call_atX 2 (fun L' h => HBY.out.1 _ L' p h) rfl hO) ?_; rintro e u' ⟨v, rfl, hO', hS'⟩; exact ⟨_, rfl, hN _ v u' rfl rfl hO' hS'⟩)
    · (refine @fs_pureO _ _ _ _ _ _ _ _ _ _ (by kernel_rfl) (fun D x hD hcl hp => ?_); simp only [putO]; simp only [Act.put, List.setIfInBounds_toArray, List.set_cons_zero, List.set_cons_succ]; first | exact (y_string rfl rfl rfl Try.underlying22 Try.underlying5 Try.underlying9 HB32.out (fun w h => by obtain ⟨L', o⟩ := ow_get 0 h.1 rfl (dep_yes hp rfl); exact rdA_rd o)) | exact y_run rfl (by intro w h; go_simp; first | done | rfl))
    · (refine @fs_pureO _ _ _ _ _ _ _ _ _ _ (by kernel_rfl) (fun D x hD hcl hp => ?_); simp only [putO]; simp only [Act.put, List.setIfInBounds_toArray, List.set_cons_zero, List.set_cons_succ]; first | exact y_run rfl (by intro w h; go_simp; first | done | rfl))
    · (refine @fs_pureO _ _ _ _ _ _ _ _ _ _ (by kernel_rfl) (fun D x hD hcl hp => ?_); simp only [putO]; simp only [Act.put, List.setIfInBounds_toArray, List.set_cons_zero, List.set_cons_succ]; first | exact y_run rfl (by intro w h; go_simp; first | done | rfl))
    · (refine @fs_pureO _ _ _ _ _ _ _ _ _ _ (by kernel_rfl) (fun D x hD hcl hp => ?_); simp only [putO]; simp only [Act.put, List.setIfInBounds_toArray, List.set_cons_zero, List.set_cons_succ]; first | exact y_run rfl (by intro w h; go_simp; first | done | rfl))
    · (refine @fs_pureO _ _ _ _ _ _ _ _ _ _ (by kernel_rfl) (fun D x hD hcl hp => ?_); simp only [putO]; simp only [Act.put, List.setIfInBounds_toArray, List.set_cons_zero, List.set_cons_succ]; first | exact y_run rfl (by intro w h; go_simp; first | done | rfl))
    · (refine @fs_pureO _ _ _ _ _ _ _ _ _ _ (by kernel_rfl) (fun D x hD hcl hp => ?_); simp only [putO]; simp only [Act.put, List.setIfInBounds_toArray, List.set_cons_zero, List.set_cons_succ]; first | exact (y_string rfl rfl rfl Try.underlying22 Try.underlying5 Try.underlying9 HA32.out (fun w h => rdA_rd h.1)) | exact y_run rfl (by intro w h; go_simp; first | done | rfl))
    · (refine @fs_pureO _ _ _ _ _ _ _ _ _ _ (by kernel_rfl) (fun D x hD hcl hp => ?_); simp only [putO]; simp only [Act.put, List.setIfInBounds_toArray, List.set_cons_zero, List.set_cons_succ]; first | exact y_run rfl (by intro w h; go_simp; first | done | rfl))
    · (refine @fs_new _ _ _ _ _ _ _ _ _ _ _ _ [] (fun v => v) rfl rfl (by kernel_rfl) (by kernel_rfl) (by intro j; rcases j with _ | j; (focus (first | exact .inr fun _ _ => rfl | exact .inl (by kernel_rfl))); rcases j with _ | j; (focus (first | exact .inr fun _ _ => rfl | exact .inl (by kernel_rfl))); rcases j with _ | j; (focus (first | exact .inr fun _ _ => rfl | exact .inl (by kernel_rfl))); rcases j with _ | j; (focus (first | exact .inr fun _ _ => rfl | exact .inl (by kernel_rfl))); rcases j with _ | j; (focus (first | exact .inr fun _ _ => rfl | exact .inl (by kernel_rfl))); rcases j with _ | j; (focus (first | exact .inr fun _ _ => rfl | exact .inl (by kernel_rfl))); rcases j with _ | j; (focus (first | exact .inr fun _ _ => rfl | exact .inl (by kernel_rfl))); rcases j with _ | j; (focus (first | exact .inr fun _ _ => rfl | exact .inl (by kernel_rfl))); rcases j with _ | j; (focus (first | exact .inr fun _ _ => rfl | exact .inl (by kernel_rfl))); rcases j with _ | j; (focus (first | exact .inr fun _ _ => rfl | exact .inl (by kernel_rfl))); rcases j with _ | j; (focus (first | exact .inr fun _ _ => rfl | exact .inl (by kernel_rfl))); rcases j with _ | j; (focus (first | exact .inr fun _ _ => rfl | exact .inl (by kernel_rfl))); rcases j with _ | j; (focus (first | exact .inr fun _ _ => rfl | exact .inl (by kernel_rfl))); rcases j with _ | j; (focus (first | exact .inr fun _ _ => rfl | exact .inl (by kernel_rfl))); rcases j with _ | j; (focus (first | exact .inr fun _ _ => rfl | exact .inl (by kernel_rfl))); rcases j with _ | j; (focus (first | exact .inr fun _ _ => rfl | exact .inl (by kernel_rfl))); rcases j with _ | j; (focus (first | exact .inr fun _ _ => rfl | exact .inl (by kernel_rfl))); rcases j with _ | j; (focus (first | exact .inr fun _ _ => rfl | exact .inl (by kernel_rfl))); rcases j with _ | j; (focus (first | exact .inr fun _ _ => rfl | exact .inl (by kernel_rfl))); rcases j with _ | j; (focus (first | exact .inr fun _ _ => rfl | exact .inl (by kernel_rfl))); rcases j with _ | j; (focus (first | exact .inr fun _ _ => rfl | exact .inl (by kernel_rfl))); rcases j with _ | j; (focus (first | exact .inr fun _ _ => rfl | exact .inl (by kernel_rfl))); exact .inr fun _ _ => rfl) (fun _ _ => rfl) ?_; intro D x u hD hcl hp hO hS N hN; simp only [putO]; simp only [Act.put, List.setIfInBounds_toArray, List.set_cons_zero, List.set_cons_succ]; refine ev_call rfl (by go_simp; first | done | exact ⟨rfl, rfl⟩) ?_; refine Calls.mono (call_atX 2 (fun L' h => HBA.out.1 _ L' p h) rfl hO) ?_; rintro e u' ⟨v, rfl, hO', hS'⟩; exact ⟨_, rfl, hN _ v u' rfl rfl hO' hS'⟩)
    · (refine @fs_pureO _ _ _ _ _ _ _ _ _ _ (by kernel_rfl) (fun D x hD hcl hp => ?_); simp only [putO]; simp only [Act.put, List.setIfInBounds_toArray, List.set_cons_zero, List.set_cons_succ]; first | exact (y_string rfl rfl rfl Try.underlying22 Try.underlying5 Try.underlying9 HA32.out (fun w h => by obtain ⟨L', o⟩ := ow_get 1 h.1 rfl (dep_yes hp rfl); exact rdA_rd o)) | exact y_run rfl (by intro w h; go_simp; first | done | rfl))
    · (refine @fs_pureO _ _ _ _ _ _ _ _ _ _ (by kernel_rfl) (fun D x hD hcl hp => ?_); simp only [putO]; simp only [Act.put, List.setIfInBounds_toArray, List.set_cons_zero, List.set_cons_succ]; first | exact y_run rfl (by intro w h; go_simp; first | done | rfl))
    · (refine @fs_pureO _ _ _ _ _ _ _ _ _ _ (by kernel_rfl) (fun D x hD hcl hp => ?_); simp only [putO]; simp only [Act.put, List.setIfInBounds_toArray, List.set_cons_zero, List.set_cons_succ]; first | exact y_run rfl (by intro w h; go_simp; first | done | rfl))
  · intro x w10 D hD hO10 hS10
    have h10 : Own w10 [stk p m, rstk q m, snap w, pts b (.cells #[.int .i64 kd, .int .i64 dn, .int .i64 dm, .int .i64 db, .int .i64 dof, .string dd, .slice AL nL cL] 42)] := own_sub hO10 (List.Sublist.cons _ (.cons _ (.cons_cons _ (.cons _ (.cons_cons _ (.cons_cons _ (.cons_cons _ (List.nil_sublist _))))))))
    clear hO hO10
    have hO := h10
    clear h10
    replace hS := hS.trans hS10
    clear hS10
    simp only [putO]
    simp only [Act.put, List.setIfInBounds_toArray, List.set_cons_zero, List.set_cons_succ]
    simp only [Exit.then]
    clear hD
    obtain ⟨es, m', hsq, hm', hx1, hx2, hcase⟩ := squash_both m HM.out dn dm HNM.out.1 HNM.out.2
    have HSQ := Lib.hid hsq
    have HM' := Lib.hid hm'
    have HCASE := Lib.hid hcase
    have HNL : Hid ((ints (numsM m)).length = m.l.length) := by show _ = _; rw [ints_len]; simp [numsM]
    obtain ⟨N, hN⟩ : ∃ N, N = m.l.length := ⟨_, rfl⟩
    have HNN := Lib.hid hN
    clear hsq hm' hx1 hx2 hcase hN
    have hW : AskX 18 44 m m.next (fun y => #[y]) (fun v => v) (ints (numsM m)) := HW.out
    unfold AskX at hW
    rw [HNL.out, ← HNN.out] at hW
    have HW2 := Lib.hid hW.1
    clear hW
    go_upto_region 10 with (first | (go_at_call 19; (with_reducible refine Calls.mono (call_atX 0 (fun L' h => HBY.out.1 _ L' p h) rfl hO) ?_); clear hO; rintro e u ⟨vw, rfl, hO, hSn⟩; replace hS := hS.trans hSn; clear hSn; simp only [List.set_cons_zero, List.set_cons_succ] at hO) | (go_at_call 18; (with_reducible refine Calls.mono (call_atX 1 (fun L' h => HW2.out _ L' p h) rfl hO) ?_); clear hO; rintro e u ⟨vn, rfl, hO, hSn⟩; replace hS := hS.trans hSn; clear hSn; simp only [List.set_cons_zero, List.set_cons_succ] at hO; obtain ⟨An, cn, rfl⟩ := (rdA_rd hO).slice))
    rcases HCASE.out with ⟨hne, hmm⟩ | ⟨rfl, i, k, a, c, hik, hia, hkc, hnb, hj, hm'e⟩
    · have f1 : (es == 0) = false := by simpa using hne
      have HBE : Hid (m'.bytes = m.bytes) := by show _ = _; rw [hmm]
      clear hne hmm
      go_upto_region 12 with (first | (apply own_load1 rfl rfl rfl; (first | exact row_int | exact row_str | exact row_bool | exact row_u8 | exact row_bys | exact row_pats | exact row_err); (first | exact own_get 0 hO rfl | exact own_get 1 hO rfl | exact own_get 2 hO rfl | exact own_get 3 hO rfl | exact own_get 4 hO rfl | exact own_get 5 hO rfl | exact own_get 6 hO rfl | exact own_get 7 hO rfl); (first | (simp only [List.getElem?_toArray, List.getElem?_cons_succ, List.getElem?_cons_zero]; rfl) | rfl)) | (go_at_call 21; (with_reducible refine Calls.mono (call_at 2 (fun L' h => HSQ.out.1 _ L' p h) rfl hO) ?_); clear hO; rintro e u ⟨rfl, hO, hSn⟩; replace hS := hS.trans hSn; clear hSn; simp only [List.set_cons_zero, List.set_cons_succ] at hO))
      have hO2 : Own u [stk p m', rdA 1 vw (bcs m.bytes).length (bcs m.bytes), snap w, pts b (.cells #[.int .i64 kd, .int .i64 dn, .int .i64 dm, .int .i64 db, .int .i64 dof, .string dd, .slice AL nL cL] 42)] := own_perm (own_sub hO (List.Sublist.cons _ (.cons_cons _ (.cons_cons _ (.cons _ (.cons_cons _ (.cons_cons _ (List.nil_sublist _)))))))) (List.Perm.swap _ _ _)
      clear hO
      have hO := hO2
      clear hO2
      obtain ⟨e2, m2, hset, hm2, hx1, hx2, hmay, hm2e⟩ := settle_both m' HM'.out (dl.take 40) HDI.out
      have HE2 : Hid (m2.bytes = m.bytes) := by
        show _ = _
        rw [hm2e]
        split
        · rename_i e0
          rcases hmay with ⟨_, h1⟩ | ⟨_, _, h1⟩ | ⟨_, h1, _⟩
          · omega
          · omega
          · rw [settled_bytes HM'.out h1]; exact HBE.out
        · exact HBE.out
      have HSET := Lib.hid hset
      have hb2 := bytes_both m2 hm2 m2.next hm2
      rw [HE2.out] at hb2
      have HB2 := Lib.hid hb2
      clear hset hm2 hx1 hx2 hmay hm2e hb2
      go_upto_region 13 with (first | (refine own_load1 (b := b) (off := 6) (cs := #[.int .i64 kd, .int .i64 dn, .int .i64 dm, .int .i64 db, .int .i64 dof, .string dd, .slice AL nL cL]) (t := 42) (v := .slice AL nL cL) rfl rfl rfl row_intsT (own_get 3 hO rfl) rfl ?_) | (go_at_call 13; (with_reducible refine Calls.mono (few_c _ _ AL nL cL HF.out hO) ?_); clear hO; rintro e u ⟨rfl, hO, hSn⟩; replace hS := hS.trans hSn; clear hSn) | (go_at_call 22; (with_reducible refine Calls.mono (HSET.out.1 _ (rdA 1 vw (bcs m.bytes).length (bcs m.bytes) :: snap w :: [pts b (.cells #[.int .i64 kd, .int .i64 dn, .int .i64 dm, .int .i64 db, .int .i64 dof, .string dd, .slice AL nL cL] 42)]) p _ hO (fun w' h => HRL.out w' _ (own_drop h))) ?_); clear hO; rintro e u ⟨rfl, hO, hSn⟩; replace hS := hS.trans hSn; clear hSn))
      refine wp_region_own (α := Nat → Value) (fun x => .pointer (some ⟨p, 0, none⟩) :: x 1 :: .string (bstr m.bytes) :: vw :: .string (bstr m.bytes) :: .bool true :: .bool true :: []) (fun D x => ([stk p m2, rdA 1 vw (bcs m.bytes).length (bcs m.bytes), snap w, pts b (.cells #[.int .i64 kd, .int .i64 dn, .int .i64 dm, .int .i64 db, .int .i64 dof, .string dd, .slice AL nL cL] 42)]) ++ owL ([(1, none, fun v => rdA 1 v (bcs m.bytes).length (bcs m.bytes))]) D x) u (fun _ => undef) 94 (fun _ => rfl) mixed (by kernel_rfl) rfl (by rw [owL_none, List.append_nil]; exact own_heap hO (fun _ _ h => h)) (Same.drew _) (fun _ _ _ _ hd h => ⟨hd ▸ h.1, h.2⟩) ?_ ?_
      · refine ⟨?_, ?_, ?_, ?_, ?_, ?_, ?_, trivial⟩
        · (refine @fs_pureO _ _ _ _ _ _ _ _ _ _ (by kernel_rfl) (fun D x hD hcl hp => ?_); simp only [putO]; simp only [Act.put, List.setIfInBounds_toArray, List.set_cons_zero, List.set_cons_succ]; first | exact y_run rfl (by intro w h; go_simp; first | done | rfl))
        · (refine @fs_new _ _ _ _ _ _ _ _ _ _ _ _ [] (fun v => v) rfl rfl (by kernel_rfl) (by kernel_rfl) (by intro j; rcases j with _ | j; (focus (first | exact .inr fun _ _ => rfl | exact .inl (by kernel_rfl))); rcases j with _ | j; (focus (first | exact .inr fun _ _ => rfl | exact .inl (by kernel_rfl))); rcases j with _ | j; (focus (first | exact .inr fun _ _ => rfl | exact .inl (by kernel_rfl))); rcases j with _ | j; (focus (first | exact .inr fun _ _ => rfl | exact .inl (by kernel_rfl))); rcases j with _ | j; (focus (first | exact .inr fun _ _ => rfl | exact .inl (by kernel_rfl))); rcases j with _ | j; (focus (first | exact .inr fun _ _ => rfl | exact .inl (by kernel_rfl))); rcases j with _ | j; (focus (first | exact .inr fun _ _ => rfl | exact .inl (by kernel_rfl))); exact .inr fun _ _ => rfl) (fun _ _ => rfl) ?_; intro D x u hD hcl hp hO hS N hN; simp only [putO]; simp only [Act.put, List.setIfInBounds_toArray, List.set_cons_zero, List.set_cons_succ]; refine ev_call rfl (by go_simp; first | done | exact ⟨rfl, rfl⟩) ?_; refine Calls.mono (call_atX 0 (fun L' h => HB2.out.1 _ L' p h) rfl hO) ?_; rintro e u' ⟨v, rfl, hO', hS'⟩; exact ⟨_, rfl, hN _ v u' rfl rfl hO' hS'⟩)
        · (refine @fs_pureO _ _ _ _ _ _ _ _ _ _ (by kernel_rfl) (fun D x hD hcl hp => ?_); simp only [putO]; simp only [Act.put, List.setIfInBounds_toArray, List.set_cons_zero, List.set_cons_succ]; first | exact (y_string rfl rfl rfl Try.underlying22 Try.underlying5 Try.underlying9 HB32.out (fun w h => by obtain ⟨L', o⟩ := ow_get 0 h.1 rfl (dep_yes hp rfl); exact rdA_rd o)) | exact y_run rfl (by intro w h; go_simp; first | done | rfl))
        · (refine @fs_pureO _ _ _ _ _ _ _ _ _ _ (by kernel_rfl) (fun D x hD hcl hp => ?_); simp only [putO]; simp only [Act.put, List.setIfInBounds_toArray, List.set_cons_zero, List.set_cons_succ]; first | exact y_run rfl (by intro w h; go_simp; first | done | rfl))
        · (refine @fs_pureO _ _ _ _ _ _ _ _ _ _ (by kernel_rfl) (fun D x hD hcl hp => ?_); simp only [putO]; simp only [Act.put, List.setIfInBounds_toArray, List.set_cons_zero, List.set_cons_succ]; first | exact (y_string rfl rfl rfl Try.underlying22 Try.underlying5 Try.underlying9 HB32.out (fun w h => rdA_rd (own_drop h.1))) | exact y_run rfl (by intro w h; go_simp; first | done | rfl))
        · (refine @fs_pureO _ _ _ _ _ _ _ _ _ _ (by kernel_rfl) (fun D x hD hcl hp => ?_); simp only [putO]; simp only [Act.put, List.setIfInBounds_toArray, List.set_cons_zero, List.set_cons_succ]; first | exact y_run rfl (by intro w h; go_simp; first | done | rfl))
        · (refine @fs_pureO _ _ _ _ _ _ _ _ _ _ (by kernel_rfl) (fun D x hD hcl hp => ?_); simp only [putO]; simp only [Act.put, List.setIfInBounds_toArray, List.set_cons_zero, List.set_cons_succ]; first | exact y_run rfl (by intro w h; go_simp; first | done | rfl))
      · intro x w10 D hD hO10 hS10
        have h9 : Own w10 ([stk p m2, rdA 1 vw (bcs m.bytes).length (bcs m.bytes)] ++ snap w :: ([pts b (.cells #[.int .i64 kd, .int .i64 dn, .int .i64 dm, .int .i64 db, .int .i64 dof, .string dd, .slice AL nL cL] 42)] ++ owL _ D x)) := hO10
        clear hO hO10
        simp only [putO]
        simp only [Act.put, List.setIfInBounds_toArray, List.set_cons_zero, List.set_cons_succ]
        simp only [Exit.then]
        clear hD
        go_wp2
        go_ret
        exact ⟨rfl, below_of (own_at h9 (k := 2) rfl) (hS.trans hS10)⟩
    · have HBE : Hid (m'.bytes = m.bytes) := by show _ = _; rw [hm'e]; exact squashed_bytes HM.out hik hia hkc hnb hj
      have hlen : m'.l.length + 1 = N := by rw [hm'e, HNN.out]; exact squashed_len (List.getElem?_eq_some_iff.1 hkc).1
      obtain ⟨N', hN'⟩ : ∃ N', N' = m'.l.length := ⟨_, rfl⟩
      have f2 : IntKind.i64.wrap ((N : Int) - 1) = (N' : Int) := by
        have := HNN.out
        have := HM.out.len
        rw [IntKind.wrap_i64] <;> omega
      have hW : AskX 18 44 m' m'.next (fun y => #[y]) (fun v => v) (ints (numsM m')) := waiting_both m' HM'.out m'.next HM'.out
      unfold AskX at hW
      have hnl2 : (ints (numsM m')).length = N' := by rw [ints_len, hN']; simp [numsM]
      rw [hnl2] at hW
      have HW3 := Lib.hid hW.1
      clear hW hnl2 hN' hlen hik hia hkc hnb hj hm'e
      go_upto_region 12 with (first | (apply own_load1 rfl rfl rfl; (first | exact row_int | exact row_str | exact row_bool | exact row_u8 | exact row_bys | exact row_pats | exact row_err); (first | exact own_get 0 hO rfl | exact own_get 1 hO rfl | exact own_get 2 hO rfl | exact own_get 3 hO rfl | exact own_get 4 hO rfl | exact own_get 5 hO rfl | exact own_get 6 hO rfl | exact own_get 7 hO rfl); (first | (simp only [List.getElem?_toArray, List.getElem?_cons_succ, List.getElem?_cons_zero]; rfl) | rfl)) | (go_at_call 21; (with_reducible refine Calls.mono (call_at 2 (fun L' h => HSQ.out.1 _ L' p h) rfl hO) ?_); clear hO; rintro e u ⟨rfl, hO, hSn⟩; replace hS := hS.trans hSn; clear hSn; simp only [List.set_cons_zero, List.set_cons_succ] at hO) | (go_at_call 18; (with_reducible refine Calls.mono (call_atX 2 (fun L' h => HW3.out _ L' p h) rfl hO) ?_); clear hO; rintro e u ⟨vn, rfl, hO, hSn⟩; replace hS := hS.trans hSn; clear hSn; simp only [List.set_cons_zero, List.set_cons_succ] at hO; obtain ⟨Ax, cx, rfl⟩ := (rdA_rd hO).slice))
      have hO2 : Own u [stk p m', rdA 1 vw (bcs m.bytes).length (bcs m.bytes), snap w, pts b (.cells #[.int .i64 kd, .int .i64 dn, .int .i64 dm, .int .i64 db, .int .i64 dof, .string dd, .slice AL nL cL] 42)] := own_perm (own_sub hO (List.Sublist.cons _ (.cons _ (.cons_cons _ (.cons_cons _ (.cons _ (.cons_cons _ (.cons_cons _ (List.nil_sublist _))))))))) (List.Perm.swap _ _ _)
      clear hO
      have hO := hO2
      clear hO2 f2
      obtain ⟨e2, m2, hset, hm2, hx1, hx2, hmay, hm2e⟩ := settle_both m' HM'.out (dl.take 40) HDI.out
      have HE2 : Hid (m2.bytes = m.bytes) := by
        show _ = _
        rw [hm2e]
        split
        · rename_i e0
          rcases hmay with ⟨_, h1⟩ | ⟨_, _, h1⟩ | ⟨_, h1, _⟩
          · omega
          · omega
          · rw [settled_bytes HM'.out h1]; exact HBE.out
        · exact HBE.out
      have HSET := Lib.hid hset
      have hb2 := bytes_both m2 hm2 m2.next hm2
      rw [HE2.out] at hb2
      have HB2 := Lib.hid hb2
      clear hset hm2 hx1 hx2 hmay hm2e hb2
      go_upto_region 13 with (first | (refine own_load1 (b := b) (off := 6) (cs := #[.int .i64 kd, .int .i64 dn, .int .i64 dm, .int .i64 db, .int .i64 dof, .string dd, .slice AL nL cL]) (t := 42) (v := .slice AL nL cL) rfl rfl rfl row_intsT (own_get 3 hO rfl) rfl ?_) | (go_at_call 13; (with_reducible refine Calls.mono (few_c _ _ AL nL cL HF.out hO) ?_); clear hO; rintro e u ⟨rfl, hO, hSn⟩; replace hS := hS.trans hSn; clear hSn) | (go_at_call 22; (with_reducible refine Calls.mono (HSET.out.1 _ (rdA 1 vw (bcs m.bytes).length (bcs m.bytes) :: snap w :: [pts b (.cells #[.int .i64 kd, .int .i64 dn, .int .i64 dm, .int .i64 db, .int .i64 dof, .string dd, .slice AL nL cL] 42)]) p _ hO (fun w' h => HRL.out w' _ (own_drop h))) ?_); clear hO; rintro e u ⟨rfl, hO, hSn⟩; replace hS := hS.trans hSn; clear hSn))
      refine wp_region_own (α := Nat → Value) (fun x => .pointer (some ⟨p, 0, none⟩) :: x 1 :: .string (bstr m.bytes) :: vw :: .string (bstr m.bytes) :: .bool true :: .bool true :: []) (fun D x => ([stk p m2, rdA 1 vw (bcs m.bytes).length (bcs m.bytes), snap w, pts b (.cells #[.int .i64 kd, .int .i64 dn, .int .i64 dm, .int .i64 db, .int .i64 dof, .string dd, .slice AL nL cL] 42)]) ++ owL ([(1, none, fun v => rdA 1 v (bcs m.bytes).length (bcs m.bytes))]) D x) u (fun _ => undef) 94 (fun _ => rfl) mixed (by kernel_rfl) rfl (by rw [owL_none, List.append_nil]; exact own_heap hO (fun _ _ h => h)) (Same.drew _) (fun _ _ _ _ hd h => ⟨hd ▸ h.1, h.2⟩) ?_ ?_
      · refine ⟨?_, ?_, ?_, ?_, ?_, ?_, ?_, trivial⟩
        · (refine @fs_pureO _ _ _ _ _ _ _ _ _ _ (by kernel_rfl) (fun D x hD hcl hp => ?_); simp only [putO]; simp only [Act.put, List.setIfInBounds_toArray, List.set_cons_zero, List.set_cons_succ]; first | exact y_run rfl (by intro w h; go_simp; first | done | rfl))
        · (refine @fs_new _ _ _ _ _ _ _ _ _ _ _ _ [] (fun v => v) rfl rfl (by kernel_rfl) (by kernel_rfl) (by intro j; rcases j with _ | j; (focus (first | exact .inr fun _ _ => rfl | exact .inl (by kernel_rfl))); rcases j with _ | j; (focus (first | exact .inr fun _ _ => rfl | exact .inl (by kernel_rfl))); rcases j with _ | j; (focus (first | exact .inr fun _ _ => rfl | exact .inl (by kernel_rfl))); rcases j with _ | j; (focus (first | exact .inr fun _ _ => rfl | exact .inl (by kernel_rfl))); rcases j with _ | j; (focus (first | exact .inr fun _ _ => rfl | exact .inl (by kernel_rfl))); rcases j with _ | j; (focus (first | exact .inr fun _ _ => rfl | exact .inl (by kernel_rfl))); rcases j with _ | j; (focus (first | exact .inr fun _ _ => rfl | exact .inl (by kernel_rfl))); exact .inr fun _ _ => rfl) (fun _ _ => rfl) ?_; intro D x u hD hcl hp hO hS N hN; simp only [putO]; simp only [Act.put, List.setIfInBounds_toArray, List.set_cons_zero, List.set_cons_succ]; refine ev_call rfl (by go_simp; first | done | exact ⟨rfl, rfl⟩) ?_; refine Calls.mono (call_atX 0 (fun L' h => HB2.out.1 _ L' p h) rfl hO) ?_; rintro e u' ⟨v, rfl, hO', hS'⟩; exact ⟨_, rfl, hN _ v u' rfl rfl hO' hS'⟩)
        · (refine @fs_pureO _ _ _ _ _ _ _ _ _ _ (by kernel_rfl) (fun D x hD hcl hp => ?_); simp only [putO]; simp only [Act.put, List.setIfInBounds_toArray, List.set_cons_zero, List.set_cons_succ]; first | exact (y_string rfl rfl rfl Try.underlying22 Try.underlying5 Try.underlying9 HB32.out (fun w h => by obtain ⟨L', o⟩ := ow_get 0 h.1 rfl (dep_yes hp rfl); exact rdA_rd o)) | exact y_run rfl (by intro w h; go_simp; first | done | rfl))
        · (refine @fs_pureO _ _ _ _ _ _ _ _ _ _ (by kernel_rfl) (fun D x hD hcl hp => ?_); simp only [putO]; simp only [Act.put, List.setIfInBounds_toArray, List.set_cons_zero, List.set_cons_succ]; first | exact y_run rfl (by intro w h; go_simp; first | done | rfl))
        · (refine @fs_pureO _ _ _ _ _ _ _ _ _ _ (by kernel_rfl) (fun D x hD hcl hp => ?_); simp only [putO]; simp only [Act.put, List.setIfInBounds_toArray, List.set_cons_zero, List.set_cons_succ]; first | exact (y_string rfl rfl rfl Try.underlying22 Try.underlying5 Try.underlying9 HB32.out (fun w h => rdA_rd (own_drop h.1))) | exact y_run rfl (by intro w h; go_simp; first | done | rfl))
        · (refine @fs_pureO _ _ _ _ _ _ _ _ _ _ (by kernel_rfl) (fun D x hD hcl hp => ?_); simp only [putO]; simp only [Act.put, List.setIfInBounds_toArray, List.set_cons_zero, List.set_cons_succ]; first | exact y_run rfl (by intro w h; go_simp; first | done | rfl))
        · (refine @fs_pureO _ _ _ _ _ _ _ _ _ _ (by kernel_rfl) (fun D x hD hcl hp => ?_); simp only [putO]; simp only [Act.put, List.setIfInBounds_toArray, List.set_cons_zero, List.set_cons_succ]; first | exact y_run rfl (by intro w h; go_simp; first | done | rfl))
      · intro x w10 D hD hO10 hS10
        have h9 : Own w10 ([stk p m2, rdA 1 vw (bcs m.bytes).length (bcs m.bytes)] ++ snap w :: ([pts b (.cells #[.int .i64 kd, .int .i64 dn, .int .i64 dm, .int .i64 db, .int .i64 dof, .string dd, .slice AL nL cL] 42)] ++ owL _ D x)) := hO10
        clear hO hO10
        simp only [putO]
        simp only [Act.put, List.setIfInBounds_toArray, List.set_cons_zero, List.set_cons_succ]
        simp only [Exit.then]
        clear hD
        go_wp2
        go_ret
        exact ⟨rfl, below_of (own_at h9 (k := 2) rfl) (hS.trans hS10)⟩
end Go.Proofs.Ytdcbfdepkbplbaa.H
