/- Sectors are compared. -/
import Derived.Test.YtjilkbkafigloaaK8
import Derived.ChangeKeysEq
set_option linter.unusedVariables false
set_option linter.unusedSimpArgs false
set_option maxRecDepth 100000
namespace Go.Proofs.Ytjilkbkafigloaa.H
open Go.RowKit
theorem u8_plain : Try.prog.plainKey 5 = true := by kernel_rfl
theorem u8_und : Try.prog.underlying 5 = some (.int .u8) := by kernel_rfl
theorem u8_cells : Try.prog.cellsOf 5 = 1 := by kernel_rfl
theorem eq_u8 (w : World) (d : Nat) (x y : UInt8) : (Op.equalIn (d + 1) 5 (.int .u8 (x.toNat : Int)) (.int .u8 (y.toNat : Int))).run Try.prog w = .ok (x == y) w := by
  have e : ((x.toNat : Int) == (y.toNat : Int)) = (x == y) := by
    rw [Bool.eq_iff_iff]
    simp only [beq_iff_eq]
    constructor
    · intro h; exact UInt8.toNat_inj.1 (by omega)
    · rintro rfl; rfl
  simp [Op.equalIn, run_underlying u8_und]
  try exact e
theorem eq_items (w : World) (d : Nat) (a b : Sec) : ∀ is : List Nat, (∀ i ∈ is, i < a.length ∧ i < b.length) → (Op.eqItems (d + 1) 5 (Try.prog.cellsOf 5) (bcs a).toArray (bcs b).toArray is).run Try.prog w = .ok (is.all fun i => a[i]? == b[i]?) w
  | [], _ => by simp [Op.eqItems]
  | i :: is, h => by
    obtain ⟨h1, h2⟩ := h i (List.mem_cons_self ..)
    have p1 : (part 5 (bcs a).toArray (i * Try.prog.cellsOf 5)).run Try.prog w = .ok (.int .u8 ((a[i]).toNat : Int)) w := run_part_plain w u8_plain (by rw [u8_cells, Nat.mul_one]; simp [bcs, h1])
    have p2 : (part 5 (bcs b).toArray (i * Try.prog.cellsOf 5)).run Try.prog w = .ok (.int .u8 ((b[i]).toNat : Int)) w := run_part_plain w u8_plain (by rw [u8_cells, Nat.mul_one]; simp [bcs, h2])
    have ih := eq_items w d a b is (fun j hj => h j (List.mem_cons_of_mem _ hj))
    simp only [Op.eqItems, Sem.run_bind, p1, p2, eq_u8, Result.andThen_ok]
    have e : (a[i]? == b[i]?) = (a[i] == b[i]) := by rw [List.getElem?_eq_getElem h1, List.getElem?_eq_getElem h2]; rfl
    rw [List.all_cons, e]
    cases hc : (a[i] == b[i]) with
    | false => simp
    | true => simpa using ih
theorem eq_sec (w : World) {T : TypeId} {i : TypeInfo} {n : Nat} (hT : Try.prog.underlying T = some (.array 32 5)) (hi : Try.prog.info? 5 = some i) (d : Nat) {a b : Sec} (ha : a.length = 32) (hb : b.length = 32) : (Op.equalIn (d + 1 + 1) T (secV a) (secV b)).run Try.prog w = .ok (decide (a = b)) w := by
  rw [run_equalIn_array w (d + 1) _ _ hT hi, eq_items w d a b (List.range 32) (fun i hi => by rw [ha, hb]; have := List.mem_range.1 hi; omega)]
  congr 1
  rw [Bool.eq_iff_iff]
  simp only [List.all_eq_true, List.mem_range, beq_iff_eq, decide_eq_true_eq]
  constructor
  · intro h
    refine List.ext_getElem? (fun j => ?_)
    by_cases hj : j < 32
    · exact h j hj
    · rw [List.getElem?_eq_none (by omega), List.getElem?_eq_none (by omega)]
  · rintro rfl; intros; rfl
theorem u8_info : ∃ i, Try.prog.info? 5 = some i := Option.isSome_iff_exists.1 (by kernel_rfl)
theorem neq_sec (w : World) {T : TypeId} (hT : Try.prog.underlying T = some (.array 32 5)) {a b : Sec} (ha : a.length = 32) (hb : b.length = 32) : (binOp .neq T (secV a) (secV b)).run Try.prog w = .ok (.bool (!decide (a = b))) w := by
  obtain ⟨i, hi⟩ := u8_info
  have h := eq_sec w (n := 0) hT hi 9998 ha hb
  simp only [binOp, Op.equal, Op.maxDepth]
  simp [h]
theorem eql_sec (w : World) {T : TypeId} (hT : Try.prog.underlying T = some (.array 32 5)) {a b : Sec} (ha : a.length = 32) (hb : b.length = 32) : (binOp .eql T (secV a) (secV b)).run Try.prog w = .ok (.bool (decide (a = b))) w := by
  obtain ⟨i, hi⟩ := u8_info
  have h := eq_sec w (n := 0) hT hi 9998 ha hb
  simp only [binOp, Op.equal, Op.maxDepth]
  simp [h]
theorem und_sec : Try.prog.underlying 26 = some (.array 32 5) := by kernel_rfl
end Go.Proofs.Ytjilkbkafigloaa.H
