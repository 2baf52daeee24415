/- What is read of a stack, on what it means; live. -/
import Derived.Test.YtdcbfdepkbplbaaS18
set_option linter.unusedVariables false
set_option linter.unusedSimpArgs false
set_option maxRecDepth 100000
namespace Go.Proofs.Ytdcbfdepkbplbaa.H
open Go.RowKit
section
variable (w : World) (L : List HP) (p : Nat) (m : Stk)
theorem bytes_m (hO : Own w (stk p m :: L)) (hk : m.Ok) :
    Calls Try.prog 19 #[.pointer (some ⟨p, 0, none⟩)] w (RetX w (fun x => x) (fun x => owns 5 1 x m.bytes.length (bcs m.bytes) :: stk p m :: L)) := by
  obtain ⟨v, cs, hrep, hO⟩ := stk_open.1 hO
  refine (bytes_c w _ p v cs m.bytes m.next hO (fun w' h => stkAt_of h) (hrep.csok hk).byt).mono ?_
  rintro e w' ⟨x, rfl, hO', hS⟩
  exact ⟨x, rfl, own_perm (stk_open.2 ⟨v, cs, hrep, own_perm hO' (List.perm_middle.symm)⟩) (List.Perm.swap _ _ _), hS⟩
theorem get_m (i : Nat) (o : On) (hO : Own w (stk p m :: L)) (hk : m.Ok) (ho : m.l[i]? = some o) :
    Calls Try.prog 14 #[.pointer (some ⟨p, 0, none⟩), .int .i64 o.n] w (Ret w (.tuple #[.agg #[.int .i64 o.p.blk, .int .i64 o.p.off, .string o.p.dat], .bool true]) (stk p m :: L)) := by
  obtain ⟨v, cs, hrep, hO⟩ := stk_open.1 hO
  rw [← hrep.on, List.getElem?_map, Option.map_eq_some_iff] at ho
  obtain ⟨c, hc, rfl⟩ := ho
  have hcs := hrep.csok hk
  have hl := hcs.lim c (List.mem_of_getElem? hc)
  refine (get_yes w _ p v cs m.bytes m.next c.n i c hO (fun w' h => stkAt_of h) hcs ⟨by omega, by omega⟩ hc rfl).mono ?_
  rintro e w' ⟨rfl, hO', hS⟩
  exact ⟨rfl, stk_open.2 ⟨v, cs, hrep, hO'⟩, hS⟩
theorem under_m (i : Nat) (o : On) (hO : Own w (stk p m :: L)) (hk : m.Ok) (ho : m.l[i]? = some o) :
    Calls Try.prog 26 #[.pointer (some ⟨p, 0, none⟩), .int .i64 o.n] w (Ret w (.tuple #[.string (bstr (cutP (appAll m.base (m.pats.take i)) o.p)), .int .i64 0]) (stk p m :: L)) := by
  obtain ⟨v, cs, hrep, hO⟩ := stk_open.1 hO
  rw [← hrep.on, List.getElem?_map, Option.map_eq_some_iff] at ho
  obtain ⟨c, hc, rfl⟩ := ho
  have hcs := hrep.csok hk
  have hl := hcs.lim c (List.mem_of_getElem? hc)
  have hu := hrep.und_at hc
  refine (under_yes w _ p v cs m.bytes m.next c.n i c hO (fun w' h => stkAt_of h) hcs ⟨by omega, by omega⟩ hc rfl).mono ?_
  rintro e w' ⟨rfl, hO', hS⟩
  exact ⟨by rw [hu]; rfl, stk_open.2 ⟨v, cs, hrep, hO'⟩, hS⟩
end
def m0 : Stk := ⟨List.replicate 32 0, [], 0⟩
def m1 : Stk := m0.pushed ⟨0, 0, ⟨#[97, 98]⟩⟩
def m2 : Stk := m1.pushed ⟨0, 1, ⟨#[120]⟩⟩
def m3 : Stk := m2.squashed 0 1 0 ⟨0, 0, ⟨#[97, 120]⟩⟩
theorem m0_ok : m0.Ok := ⟨by simp [m0], fun x hx => by simp [m0] at hx, by simp [m0], fun x hx => by simp [m0] at hx, by simp [m0], by simp [m0]⟩
theorem m1_ok : m1.Ok := m0_ok.pushed (by decide) (by simp [m0]) (by simp [m0])
theorem m2_ok : m2.Ok := m1_ok.pushed (by decide) (by simp [m1, m0, Stk.pushed]) (by simp [m1, m0, Stk.pushed])
theorem m3_l : m3.l = [⟨0, ⟨0, 0, ⟨#[97, 120]⟩⟩⟩] := rfl
theorem m3_ok : m3.Ok := ⟨by simp [m3, Stk.squashed, m2, m1, m0, Stk.pushed], fun x hx => by rw [m3_l] at hx; simp at hx; subst hx; decide, by rw [m3_l]; simp, fun x hx => by rw [m3_l] at hx; simp at hx; subst hx; decide, by rw [m3_l]; simp, by simp [m3, Stk.squashed, m2, m1, m0, Stk.pushed]⟩
theorem m3_bytes : m3.bytes = [97, 120] ++ List.replicate 30 0 := by decide
theorem m2_join : (joinM ⟨0, 0, ⟨#[97, 98]⟩⟩ ⟨0, 1, ⟨#[120]⟩⟩) = ⟨0, 0, ⟨#[97, 120]⟩⟩ := by rfl
theorem m2_und : bstr (cutP (appAll m2.base (m2.pats.take 1)) ⟨0, 1, ⟨#[120]⟩⟩) = ⟨#[98]⟩ := by rfl
end Go.Proofs.Ytdcbfdepkbplbaa.H
