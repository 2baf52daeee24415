/- Contracts of Roll and Base, on what a stack means. -/
import Derived.Test.YtdcbfdepkbplbaaS10
set_option linter.unusedVariables false
set_option linter.unusedSimpArgs false
set_option maxRecDepth 100000
namespace Go.Proofs.Ytdcbfdepkbplbaa.H
open Go.RowKit
theorem roll_bare (w : World) (L : List HP) (p bs bin bout g : Nat) (v : Value) (cs : List Cl) (base : List UInt8) (next : Nat) (l : List Int) (ov : Value) (hP : Piled base cs)
    (hO : Own w (pts bin (.cells #[.slice (some ⟨g, 0, none⟩) cs.length cs.length] 74) :: pts g (.cells (bls (inOf cs l)).toArray 4) :: pts bout (.cells #[ov] 22) :: pts bs (.cells #[.pointer (some ⟨p, 0, none⟩)] 25) :: (stkL p v cs (appAll base (cs.map Cl.p)) next ++ L))) :
    Calls Try.prog 37 #[.pointer (some ⟨p, 0, none⟩), .int .i64 0, .func (.func 38) #[] #[.pointer (some ⟨bs, 0, none⟩), .pointer (some ⟨bin, 0, none⟩), .pointer (some ⟨bout, 0, none⟩)]] w
      (RetX w (fun _ => .tuple #[]) (fun y : Nat × List Cl => pts bin (.cells #[.slice (some ⟨g, 0, none⟩) cs.length cs.length] 74) :: pts g (.cells (bls (inOf cs l)).toArray 4) :: pts bout (.cells #[.slice (some ⟨y.1, 0, none⟩) 32 32] 22) :: pts bs (.cells #[.pointer (some ⟨p, 0, none⟩)] 25) :: (pur (y.2.map Cl.on = cs.map Cl.on ∧ y.2.map Cl.und = unders base (cs.map Cl.p)) :: (stkL p v y.2 (appAll base (cs.map Cl.p)) next ++ (pts y.1 (.cells (bcs (appAll base (selP cs l))).toArray 69) :: L))))) := by
  have h0 : appAll base ((cs.take 0).map Cl.p) = base := rfl
  have hb := bare_c (α := Nat) (fun _ => v) (fun _ => cs) (fun _ => base) (fun gb => pts bin (.cells #[.slice (some ⟨g, 0, none⟩) cs.length cs.length] 74) :: pts g (.cells (bls (inOf cs l)).toArray 4) :: pts bout (.cells #[.slice (some ⟨gb, 0, none⟩) 32 32] 22) :: pts bs (.cells #[.pointer (some ⟨p, 0, none⟩)] 25) :: pts gb (.cells (bcs (appAll base (selP cs l))).toArray 69) :: L) w (pts bin (.cells #[.slice (some ⟨g, 0, none⟩) cs.length cs.length] 74) :: pts g (.cells (bls (inOf cs l)).toArray 4) :: pts bout (.cells #[ov] 22) :: pts bs (.cells #[.pointer (some ⟨p, 0, none⟩)] 25) :: L) p 0 v cs base next 38 #[.pointer (some ⟨bs, 0, none⟩), .pointer (some ⟨bin, 0, none⟩), .pointer (some ⟨bout, 0, none⟩)] (own_four.2 hO) (Nat.zero_le _) hP
    (fun w' F h' => roll1_c w' (L ++ F) p bs bin bout g v cs base next l ov h' hP.base hP.right hP.len) (fun w' => by simp [go_sem, callFunc]; rfl) (fun _ _ _ _ => ⟨hP.base, hP.right, hP.len⟩)
  refine hb.mono ?_
  rintro e w' ⟨⟨gb, cs'⟩, rfl, hO', hS⟩
  rw [own_pur] at hO'
  obtain ⟨hre, hO'⟩ := hO'
  have hre' := relaid_all (n := cs.length) (by simpa using hre) rfl
  simp only [Nat.zero_min, List.drop_zero] at hO'
  have h5 := own_four.1 hO'
  refine ⟨(gb, cs'), rfl, ?_, hS⟩
  have hp : ∀ {A B C D X : HP} {S : List HP}, X = pur (cs'.map Cl.on = cs.map Cl.on ∧ cs'.map Cl.und = unders base (cs.map Cl.p)) → Own w' (A :: B :: C :: D :: S) → Own w' (A :: B :: C :: D :: X :: S) := fun {A B C D X S} hX h => by
    subst hX
    have h6 := own_pur.2 ⟨hre', h⟩
    exact own_perm h6 (List.perm_middle (l₁ := [A, B, C, D]) (l₂ := S)).symm
  exact hp rfl h5
section
variable (w : World) (L : List HP) (p : Nat) (m : Stk) (sv : Value) (l : List Int)
set_option maxHeartbeats 1600000 in
theorem roll_no (hO : Own w (stk p m :: L)) (hk : m.Ok) (hs : ∀ w', Own w' L → Rd w' 1 sv l.length (ints l)) (hl : ∀ x ∈ l, i64 x) (e : Int) (he : (OutL m.l l ∧ e = 2) ∨ (¬ OutL m.l l ∧ BusyL m.l l ∧ e = 12)) :
    Calls Try.prog 17 #[.pointer (some ⟨p, 0, none⟩), sv] w (Ret w (.tuple #[.slice none 0 0, .int .i64 e]) (stk p m :: L)) := by
  obtain ⟨v, cs, hrep, hO⟩ := stk_open.1 hO
  have HREP := Lib.hid hrep
  have HK := Lib.hid hk
  have HS := Lib.hid hs
  have HL := Lib.hid hl
  rcases he with ⟨h1, rfl⟩ | ⟨h1, h2, rfl⟩
  · have HOUT := Lib.hid ((out_iff hrep.on).2 h1)
    clear hrep hk hs hl h1
    go_enter Try.func17, Try.ntmps17
    go_wp2_with (first | (refine own_box (x := .tmp 0) (cs := #[.pointer (some ⟨p, 0, none⟩)]) rfl rfl rfl rfl hO ?_; clear hO; intro bs w1 hO hS1) | (refine own_alloc (T := 22) (cs := #[.slice none 0 0]) rfl rfl zero_bys rfl hO ?_; clear hO; intro bout w2 hO hS2) | (refine own_alloc (T := 74) (cs := #[.slice none 0 0]) rfl rfl zero_bls rfl hO ?_; clear hO; intro bin w4 hO hS4) | (refine own_load1 (b := bs) (off := 0) (cs := #[.pointer (some ⟨p, 0, none⟩)]) (t := 25) (v := .pointer (some ⟨p, 0, none⟩)) rfl rfl rfl row_sptr (own_get 1 hO rfl) rfl ?_) | (go_at_call 36; refine (chosen_out _ _ p v cs m.bytes m.next sv l hO (fun w' h => stkAt_of (own_drop (own_drop h))) (HREP.out.csok HK.out) (fun w' h => HS.out w' (own_drops (own_drop (own_drop h)))) HL.out HOUT.out).mono ?_; clear hO; rintro e w3 ⟨rfl, hO, hS3⟩) | (refine own_store1 (k := 0) (b := bin) (off := 0) (cs := #[.slice none 0 0]) (cs' := #[.slice none 0 0]) rfl rfl rfl rfl sz_bls hO rfl rfl (by simp) rfl ?_; clear hO; intro w5 hO hS5; simp only [List.set_cons_zero, List.set_cons_succ] at hO) | (refine own_store1 (k := 1) (b := bout) (off := 0) (cs := #[.slice none 0 0]) (cs' := #[.slice none 0 0]) rfl rfl rfl rfl sz_bys hO rfl rfl (by simp) rfl ?_; clear hO; intro w6 hO hS6; simp only [List.set_cons_zero, List.set_cons_succ] at hO))
    exact bodyPost_ret (results_cell1_tmp rfl rfl (own_get 1 hO rfl) row_bys rfl) rfl ⟨rfl, stk_open.2 ⟨v, cs, HREP.out, own_drop (own_drop (own_drop hO))⟩, hS1.trans (hS2.trans (hS3.trans (hS4.trans (hS5.trans hS6))))⟩
  · have HOUT := Lib.hid (fun h => h1 ((out_iff hrep.on).1 h))
    have HBUSY := Lib.hid ((busy_iff hrep.on).2 h2)
    clear hrep hk hs hl h1 h2
    go_enter Try.func17, Try.ntmps17
    go_wp2_with (first | (refine own_box (x := .tmp 0) (cs := #[.pointer (some ⟨p, 0, none⟩)]) rfl rfl rfl rfl hO ?_; clear hO; intro bs w1 hO hS1) | (refine own_alloc (T := 22) (cs := #[.slice none 0 0]) rfl rfl zero_bys rfl hO ?_; clear hO; intro bout w2 hO hS2) | (refine own_alloc (T := 74) (cs := #[.slice none 0 0]) rfl rfl zero_bls rfl hO ?_; clear hO; intro bin w4 hO hS4) | (refine own_load1 (b := bs) (off := 0) (cs := #[.pointer (some ⟨p, 0, none⟩)]) (t := 25) (v := .pointer (some ⟨p, 0, none⟩)) rfl rfl rfl row_sptr (own_get 1 hO rfl) rfl ?_) | (go_at_call 36; refine (chosen_busy _ _ p v cs m.bytes m.next sv l hO (fun w' h => stkAt_of (own_drop (own_drop h))) (HREP.out.csok HK.out) (fun w' h => HS.out w' (own_drops (own_drop (own_drop h)))) HL.out HOUT.out HBUSY.out).mono ?_; clear hO; rintro e w3 ⟨rfl, hO, hS3⟩) | (refine own_store1 (k := 0) (b := bin) (off := 0) (cs := #[.slice none 0 0]) (cs' := #[.slice none 0 0]) rfl rfl rfl rfl sz_bls hO rfl rfl (by simp) rfl ?_; clear hO; intro w5 hO hS5; simp only [List.set_cons_zero, List.set_cons_succ] at hO) | (refine own_store1 (k := 1) (b := bout) (off := 0) (cs := #[.slice none 0 0]) (cs' := #[.slice none 0 0]) rfl rfl rfl rfl sz_bys hO rfl rfl (by simp) rfl ?_; clear hO; intro w6 hO hS6; simp only [List.set_cons_zero, List.set_cons_succ] at hO))
    exact bodyPost_ret (results_cell1_tmp rfl rfl (own_get 1 hO rfl) row_bys rfl) rfl ⟨rfl, stk_open.2 ⟨v, cs, HREP.out, own_drop (own_drop (own_drop hO))⟩, hS1.trans (hS2.trans (hS3.trans (hS4.trans (hS5.trans hS6))))⟩
set_option maxHeartbeats 1600000 in
theorem roll_ok (hO : Own w (stk p m :: L)) (hk : m.Ok) (hs : ∀ w', Own w' L → Rd w' 1 sv l.length (ints l)) (hl : ∀ x ∈ l, i64 x) (h1 : ¬ OutL m.l l) (h2 : ¬ BusyL m.l l) :
    Calls Try.prog 17 #[.pointer (some ⟨p, 0, none⟩), sv] w (RetX w (fun g => .tuple #[.slice (some ⟨g, 0, none⟩) 32 32, .int .i64 0]) (fun g => stk p m :: pts g (.cells (bcs (appAll m.base (selL m.l l))).toArray 69) :: L)) := by
  obtain ⟨v, cs, hrep, hO⟩ := stk_open.1 hO
  have HREP := Lib.hid hrep
  have HK := Lib.hid hk
  have HS := Lib.hid hs
  have HL := Lib.hid hl
  have HOUT := Lib.hid (fun h => h1 ((out_iff hrep.on).1 h))
  have HBUSY := Lib.hid (fun h => h2 ((busy_iff hrep.on).1 h))
  have HPI := Lib.hid (hrep.piled hk)
  have HBY := Lib.hid hrep.bytes
  have hmf : ∀ (fn : Fn) (first cap : Array Value) (w : World), (Instr.makeFunc fn first cap).run Try.prog w = .ok (.func fn first cap) w := fun _ _ _ _ => rfl
  have HMF := Lib.hid hmf
  clear hrep hk hs hl h1 h2 hmf
  go_enter Try.func17, Try.ntmps17
  go_wp2_with (first | (refine own_box (x := .tmp 0) (cs := #[.pointer (some ⟨p, 0, none⟩)]) rfl rfl rfl rfl hO ?_; clear hO; intro bs w1 hO hS1) | (refine own_alloc (T := 22) (cs := #[.slice none 0 0]) rfl rfl zero_bys rfl hO ?_; clear hO; intro bout w2 hO hS2) | (refine own_alloc (T := 74) (cs := #[.slice none 0 0]) rfl rfl zero_bls rfl hO ?_; clear hO; intro bin w4 hO hS4) | (refine own_load1 (b := bs) (off := 0) (cs := #[.pointer (some ⟨p, 0, none⟩)]) (t := 25) (v := .pointer (some ⟨p, 0, none⟩)) rfl rfl rfl row_sptr (own_get 1 hO rfl) rfl ?_) | (refine own_load1 (b := bs) (off := 0) (cs := #[.pointer (some ⟨p, 0, none⟩)]) (t := 25) (v := .pointer (some ⟨p, 0, none⟩)) rfl rfl rfl row_sptr (own_get 3 hO rfl) rfl ?_) | (go_at_call 36; refine (chosen_ok _ _ p v cs m.bytes m.next sv l hO (fun w' h => stkAt_of (own_drop (own_drop h))) (HREP.out.csok HK.out) (fun w' h => HS.out w' (own_drops (own_drop (own_drop h)))) HL.out HOUT.out HBUSY.out).mono ?_; clear hO; rintro e w3 ⟨g, rfl, hO, hS3⟩) | (refine own_store1 (k := 0) (b := bin) (off := 0) (cs := #[.slice none 0 0]) (cs' := #[.slice (some ⟨g, 0, none⟩) cs.length cs.length]) rfl rfl rfl rfl sz_bls hO rfl rfl (by simp) rfl ?_; clear hO; intro w5 hO hS5; simp only [List.set_cons_zero, List.set_cons_succ] at hO) | (go_at_call 37; refine (roll_bare _ L p bs bin bout g v cs m.base m.next l (.slice none 0 0) HPI.out (by rw [← HBY.out]; exact hO)).mono ?_; clear hO; rintro e w6 ⟨⟨gb, cs'⟩, rfl, hO, hS6⟩) | (refine own_load1 (b := bout) (off := 0) (cs := #[.slice (some ⟨gb, 0, none⟩) 32 32]) (t := 22) (v := .slice (some ⟨gb, 0, none⟩) 32 32) rfl rfl rfl row_bys (own_get 2 hO rfl) rfl ?_) | (refine own_store1 (k := 2) (b := bout) (off := 0) (cs := #[.slice (some ⟨gb, 0, none⟩) 32 32]) (cs' := #[.slice (some ⟨gb, 0, none⟩) 32 32]) rfl rfl rfl rfl sz_bys hO rfl rfl (by simp) rfl ?_; clear hO; intro w7 hO hS7; simp only [List.set_cons_zero, List.set_cons_succ] at hO))
  refine bodyPost_ret (results_cell1_tmp rfl rfl (own_get 2 hO rfl) row_bys rfl) rfl ⟨gb, rfl, ?_, hS1.trans (hS2.trans (hS3.trans (hS4.trans (hS5.trans (hS6.trans hS7)))))⟩
  have h5 := own_drop (own_drop (own_drop (own_drop hO)))
  rw [own_pur] at h5
  have hon := h5.1.1.trans HREP.out.on
  rw [← sel_eq HREP.out.on]
  refine stk_open.2 ⟨v, cs', ⟨hon, ?_⟩, ?_⟩
  · rw [h5.1.2, HREP.out.pats]
  · rw [HBY.out]
    exact h5.2
end
end Go.Proofs.Ytdcbfdepkbplbaa.H
