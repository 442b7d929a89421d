/- How maps keyed by arrays of two and of three ints are searched. No condition. -/
import Derived.Test.YteleehldcpjndaaProg
import Derived.WalkKit
import Derived.Maps.Keyed
namespace Go.Proofs.Yteleehldcpjndaa
open Go Go.RowKit Go.MapKept

def key2 (k : Int × Int) : Value := .agg #[.int .i64 k.1, .int .i64 k.2]
def key3 (k : Int × Int × Int) : Value := .agg #[.int .i64 k.1, .int .i64 k.2.1, .int .i64 k.2.2]

theorem key2_inj : ∀ a b, key2 a = key2 b → a = b := by
  rintro ⟨a, b⟩ ⟨c, d⟩ h; simp [key2] at h; simp [h]
theorem key3_inj : ∀ a b, key3 a = key3 b → a = b := by
  rintro ⟨a, b, e⟩ ⟨c, d, f⟩ h; simp [key3] at h; simp [h]

theorem checkKey_arr2 (n : Nat) (a b : Int) (em : Bool) (w : World) : (Instr.checkKey em (n+2) 93 (.agg #[.int .i64 a, .int .i64 b])).run Try.prog w = .ok () w := by
  simp [Instr.checkKey, run_underlying Try.underlying93, run_underlying Try.underlying3, Try.sizeOf3, Try.isAgg3, part, show List.range' 0 2 = [0, 1] from rfl]
theorem equal_arr2 (n : Nat) (a b c d : Int) (w : World) : (Op.equalIn (n+2) 93 (.agg #[.int .i64 a, .int .i64 b]) (.agg #[.int .i64 c, .int .i64 d])).run Try.prog w = .ok (decide (a = c ∧ b = d)) w := by
  simp [Op.equalIn, run_underlying Try.underlying93, run_underlying Try.underlying3, Try.sizeOf3, Try.isAgg3, part, show List.range' 0 2 = [0, 1] from rfl]
  by_cases h1 : a = c <;> by_cases h2 : b = d <;> simp [h1, h2]
theorem checkKey_arr3 (n : Nat) (a b c : Int) (em : Bool) (w : World) : (Instr.checkKey em (n+2) 105 (.agg #[.int .i64 a, .int .i64 b, .int .i64 c])).run Try.prog w = .ok () w := by
  simp [Instr.checkKey, run_underlying Try.underlying105, run_underlying Try.underlying3, Try.sizeOf3, Try.isAgg3, part, show List.range' 0 3 = [0, 1, 2] from rfl]
theorem equal_arr3 (n : Nat) (a b e c d f : Int) (w : World) : (Op.equalIn (n+2) 105 (.agg #[.int .i64 a, .int .i64 b, .int .i64 e]) (.agg #[.int .i64 c, .int .i64 d, .int .i64 f])).run Try.prog w = .ok (decide (a = c ∧ b = d ∧ e = f)) w := by
  simp [Op.equalIn, run_underlying Try.underlying105, run_underlying Try.underlying3, Try.sizeOf3, Try.isAgg3, part, show List.range' 0 3 = [0, 1, 2] from rfl]
  by_cases h1 : a = c <;> by_cases h2 : b = d <;> by_cases h3 : e = f <;> simp [h1, h2, h3]

end Go.Proofs.Yteleehldcpjndaa
