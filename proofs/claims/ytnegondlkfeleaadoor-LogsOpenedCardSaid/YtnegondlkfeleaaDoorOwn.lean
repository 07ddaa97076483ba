/- shots: a shot in new memory. -/
import Derived.Test.YtnegondlkfeleaaDoorMemB
import Derived.Test.YtnegondlkfeleaaDoorCloB
namespace Go.Proofs.YtnegondlkfeleaaDoor
open Go.RowKit

/-- What a function hands back whose result is a struct's cell. -/
theorem res_cell1 {fn : Func} {p : Tmp} {ty : TypeId} (h : fn.results = #[.cell p ty]) {tmps : Array Value} {P : Program} {w : World} {g : Nat} {t : TypeId} {cs : Array Value} {fs : Array Field} (hk : Blk w g t cs)
    (hp : tmps.getD p undef = .pointer (some ⟨g, 0, none⟩)) (hu : P.underlying ty = some (.struct fs)) (hi : (P.info? ty).map (·.size) = some cs.size) :
    (results fn tmps).run P w = .ok (.agg cs) w := by
  have hl := run_loadVar_row (P := P) w g t ty cs (0, 0) (.struct fs) hk hu rfl hi
  have hp' : tmps[p]?.getD undef = .pointer (some ⟨g, 0, none⟩) := by rw [← hp]; simp
  simp [results, h, hp', asAddr, Sem.run_bind, hl, Result.andThen]
end Go.Proofs.YtnegondlkfeleaaDoor
