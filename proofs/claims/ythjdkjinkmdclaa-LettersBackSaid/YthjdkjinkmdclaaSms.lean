/- law01: whether two lists are the same (api.Step). -/
import Derived.Test.YthjdkjinkmdclaaPks
import Derived.Test.YthjdkjinkmdclaaSml
import Derived.Laws.StructEq
namespace Go.Proofs.Ythjdkjinkmdclaa
open Go.RowKit

theorem run_neq_step (x0 x1 x2 x3 x4 x5 x6 x7 x8 x9 y0 y1 y2 y3 y4 y5 y6 y7 y8 y9 : Int) (w : World) : (binOp .neq 100 (.agg #[.int .u8 x0, .int .u8 x1, .int .u8 x2, .int .u8 x3, .int .u8 x4, .int .i64 x5, .int .i64 x6, .int .i64 x7, .int .i64 x8, .int .u64 x9]) (.agg #[.int .u8 y0, .int .u8 y1, .int .u8 y2, .int .u8 y3, .int .u8 y4, .int .i64 y5, .int .i64 y6, .int .i64 y7, .int .i64 y8, .int .u64 y9])).run Try.prog w = .ok (.bool (!decide ([x0, x1, x2, x3, x4, x5, x6, x7, x8, x9] = [y0, y1, y2, y3, y4, y5, y6, y7, y8, y9]))) w := by
  have u0 := Try.underlying94
  have a0 := Try.isAgg94
  have s0 := Try.sizeOf94
  have u1 := Try.underlying95
  have a1 := Try.isAgg95
  have s1 := Try.sizeOf95
  have u2 := Try.underlying96
  have a2 := Try.isAgg96
  have s2 := Try.sizeOf96
  have u3 := Try.underlying2
  have a3 := Try.isAgg2
  have s3 := Try.sizeOf2
  have u4 := Try.underlying98
  have a4 := Try.isAgg98
  have s4 := Try.sizeOf98
  have u5 := Try.underlying23
  have a5 := Try.isAgg23
  have s5 := Try.sizeOf23
  have hS : Try.prog.underlying 100 = some (.struct (Try.prog.fieldsOf 100)) := by kernel_rfl
  have hp : Try.prog.stoodInHeld 100 = false := by kernel_rfl
  have hS2 : Try.prog.underlying 98 = some (.struct (Try.prog.fieldsOf 98)) := by kernel_rfl
  have hp2 : Try.prog.stoodInHeld 98 = false := by kernel_rfl
  have hq := fun (w : World) (a b c d : Int) => run_equalIn_agg w 9998 98 (P := Try.prog) #[.int .i64 a, .int .i64 b] #[.int .i64 c, .int .i64 d] hS2 hp2
  rw [run_neq_struct, show (10000 : Nat) = 9999 + 1 from rfl, run_equalIn_agg w 9999 100 _ _ hS hp]
  simp only [Program.fieldsOf, Try.underlying100]
  go_simp
  by_cases h0 : x0 = y0
  rotate_left
  · simp [h0]
  subst h0
  by_cases h1 : x1 = y1
  rotate_left
  · simp [h1]
  subst h1
  by_cases h2 : x2 = y2
  rotate_left
  · simp [h2]
  subst h2
  by_cases h3 : x3 = y3
  rotate_left
  · simp [h3]
  subst h3
  by_cases h4 : x4 = y4
  rotate_left
  · simp [h4]
  subst h4
  by_cases h5 : x5 = y5
  rotate_left
  · simp [h5]
  subst h5
  by_cases h6 : x6 = y6
  rotate_left
  · simp [h6]
  subst h6
  by_cases h7 : x7 = y7
  rotate_left
  · simp [h7]
  subst h7
  by_cases h8 : x8 = y8
  rotate_left
  · simp [h8]
  subst h8
  by_cases h9 : x9 = y9 <;> simp [h9]

end Go.Proofs.Ythjdkjinkmdclaa
