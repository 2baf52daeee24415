/- PatchUndoes: the walk. -/
import Derived.Test.YtdcbfdepkbplbaaL2
set_option linter.unusedVariables false
set_option linter.unusedSimpArgs false
set_option maxRecDepth 100000
namespace Go.Proofs.Ytdcbfdepkbplbaa.H
open Go.RowKit
theorem bstr_size' (l : List UInt8) : (bstr l).size = l.length := bstr_size l
theorem over_undo {α : Type} (b d : List α) (i : Nat) (hi : i + d.length ≤ b.length) : over (over b i d) i ((b.drop i).take d.length) = b := by
  have hl : ((b.drop i).take d.length).length = d.length := by simp; omega
  have h1 : (over b i d).take i = b.take i := by
    unfold over
    rw [List.append_assoc, List.take_append_of_le_length (by rw [List.length_take]; omega), List.take_take, Nat.min_self]
  have h2 : (over b i d).drop (i + d.length) = b.drop (i + d.length) := by
    unfold over
    rw [List.drop_append_of_le_length (by simp; omega)]
    rw [List.drop_eq_nil_of_le (by simp; omega)]
    simp
  have h0 : over (over b i d) i ((b.drop i).take d.length) = (over b i d).take i ++ (b.drop i).take d.length ++ (over b i d).drop (i + ((b.drop i).take d.length).length) := rfl
  rw [h0, hl, h1, h2, ← List.drop_drop, List.append_assoc, List.take_append_drop, List.take_append_drop]
theorem over_mid {α : Type} (b d : List α) (i : Nat) (hi : i + d.length ≤ b.length) : ((over b i d).drop i).take d.length = d := by
  unfold over
  rw [List.append_assoc, List.drop_append_of_le_length (by simp; omega), List.drop_eq_nil_of_le (by simp; omega), List.nil_append]
  simp
/-- A block of bytes, whose length is known by another name. -/
theorem rdB_block {w : World} {b m c : Nat} {bs : List UInt8} {t : TypeId} {fr : Nat × Nat} (hm : m = bs.length) (hg : w.heap[b]? = some (.cells (bcs bs).toArray t fr)) (hc : m ≤ c) (hx : c ≤ 9223372036854775807) : RdB w (.slice (some ⟨b, 0, none⟩) m c) bs := by
  subst hm
  exact rd_block hg (List.take_of_length_le (by simp [bcs_length])) (by simp [bcs_length]) hc hx
def undoP (b : List UInt8) (p : Pat) : Pat := ⟨p.blk, p.off, bstr ((b.drop p.off.toNat).take p.dat.size)⟩
theorem undo_app (b : List UInt8) (p : Pat) (hb : b.length = 32) (hp : rightB p = true) : app (app b p) (undoP b p) = b := by
  obtain ⟨p1, p2, p3, p4, p5, p6⟩ := rightB_iff.1 hp
  have hs : p.dat.size = p.dat.data.toList.length := by rw [Array.length_toList]; rfl
  unfold app undoP
  simp only [bstr_toList, hs]
  exact over_undo _ _ _ (by omega)
theorem undo_right (b : List UInt8) (p : Pat) (hb : b.length = 32) (hp : rightB p = true) : rightB (undoP b p) = true := by
  obtain ⟨p1, p2, p3, p4, p5, p6⟩ := rightB_iff.1 hp
  refine rightB_iff.2 ?_
  simp only [undoP, bstr_size, List.length_take, List.length_drop]
  omega
theorem app_then_idle (b : List UInt8) (p : Pat) (hb : b.length = 32) (hp : rightB p = true) : idleB (app b p) p = true := by
  obtain ⟨p1, p2, p3, p4, p5, p6⟩ := rightB_iff.1 hp
  have hs : p.dat.size = p.dat.data.toList.length := by rw [Array.length_toList]; rfl
  simp only [idleB, Bool.and_eq_true, decide_eq_true_eq]
  refine ⟨⟨app_length b p hb hp, hp⟩, ?_⟩
  unfold app
  rw [hs]
  exact over_mid _ _ _ (by omega)
end Go.Proofs.Ytdcbfdepkbplbaa.H
