/- api.Command: the deferred closure of packs.get. -/
import Derived.Test.YthjdkjinkmdclaaGreatPcc
import Derived.Defers
import Derived.Recover
import Derived.RegionTactic
import Derived.BigRegion
namespace Go.Proofs.YthjdkjinkmdclaaGreat
open Go.RowKit

/-- The deferred closure, where nothing panicked. -/
theorem catch_cmd_idle (p q : Addr) (w : World) :
    CallsD Tryz.prog 136 #[.pointer (some p), .pointer (some q)] .returning w fun e u' w' => e = .returned (.tuple #[]) ∧ u' = .returning ∧ w' = w := by
  refine callsD_of_wpS Tryz.func136 rfl fun c₀ cs hu => ?_
  apply wpS_seq
  apply wpS_region
  simp [wpOpsS, go_sem, recoverD, hu, Tryz.ntmps136, Exit.thenS]
  apply wpS_seq
  apply wpS_seq
  apply wpS_region
  simp [wpOpsS, go_sem, Exit.thenS]
  refine wpS_cond (t := true) (by simp [Act.eval, Array.replicate]) ?_
  simp only [if_true]
  refine wpS_of_wp (wp_ret ?_)
  cases c₀
  simp_all [bodyPostS, results, Tryz.results136, Exit.thenS]
theorem assert_cmd_wrong (k : Int) (w : World) : (Instr.typeAssert (.iface 195 (.agg #[.int .i64 k])) 20 195 true).run Tryz.prog w = .ok (.tuple #[.agg #[.int .i64 k], .bool true]) w := by
  first
    | kernel_rfl
    | rfl
set_option maxHeartbeats 4000000 in
theorem catch_cmd_panicking (p q : Nat) (k : Int) (x0 y : Value) (older : List PanicEntry) (w : World) (hp : Blk w p 28 #[x0]) (hq : Blk w q 31 #[y]) (hne : p ≠ q) :
    CallsD Tryz.prog 136 #[.pointer (some ⟨p, 0, none⟩), .pointer (some ⟨q, 0, none⟩)] (.panicking ({ v := .iface 195 (.agg #[.int .i64 k]), recovered := false } :: older)) w fun e u' w' =>
      e = .returned (.tuple #[]) ∧ u' = .panicking ({ v := .iface 195 (.agg #[.int .i64 k]), recovered := true } :: older) ∧ Blk w' p 28 #[.slice none 0 0] ∧ Blk w' q 31 #[.int .i64 k] ∧ Tn w p (some q) w' := by
  have HP := Lib.hid hp
  have HQ := Lib.hid hq
  refine callsD_of_wpS Tryz.func136 rfl fun c₀ cs hu => ?_
  apply wpS_seq
  apply wpS_region
  simp [wpOpsS, go_sem, recoverD, hu, Tryz.ntmps136, Exit.thenS]
  refine wpS_of_wp (Code.wp_mono (Q := fun e a' w' => e = .normal ∧ a'.defers = [] ∧ Blk w' p 28 #[.slice none 0 0] ∧ Blk w' q 31 #[.int .i64 k] ∧ Tn w p (some q) w') ?_ ?_)
  · rintro e a' w' ⟨rfl, hd, h1, h2, h3⟩
    simp_all [bodyPostS, results, Tryz.results136]
  show Code.wp Tryz.prog _ _ ⟨#[.pointer (some ⟨p, 0, none⟩), .pointer (some ⟨q, 0, none⟩), .iface 195 (.agg #[.int .i64 k]), undef, undef, undef, .iface 195 (.agg #[.int .i64 k]), undef, undef, undef, undef, undef, undef, undef, undef, undef, undef, undef, undef, undef], []⟩ _
  have hta := assert_cmd_wrong k
  have hpl := hp.lt
  have hql := hq.lt
  have n1 : ¬ p = w.heap.size := by omega
  have n2 : ¬ p = w.heap.size + 1 := by omega
  have n3 : ¬ q = w.heap.size := by omega
  have n4 : ¬ q = w.heap.size + 1 := by omega
  have n1' : ¬ w.heap.size = p := by omega
  have n2' : ¬ w.heap.size + 1 = p := by omega
  have n3' : ¬ w.heap.size = q := by omega
  have n4' : ¬ w.heap.size + 1 = q := by omega
  have n5' : ¬ q = p := fun e => hne e.symm
  have f1 := hp.free
  have f2 := hq.free
  have e0 := hp.cell 0
  have ey := hq.cell 0
  simp only [List.getElem?_toArray, List.getElem?_cons_zero] at e0 ey
  clear hu hp hq
  go_wp2_with fail
  go_region
  have hz : (#[x0].setIfInBounds 0 (.slice none 0 0)) = #[.slice none 0 0] := by simp
  have hb1 := (HP.out.set_ 0 (.slice none 0 0))
  rw [hz] at hb1
  have hb2 := (hb1.far (p := ⟨q, 0, none⟩) hne (.int .i64 k))
  have hb3 := ((HQ.out.far (p := ⟨p, 0, none⟩) n5' (.slice none 0 0)).set_ 0 (.int .i64 k))
  have hb4 := (hb2.alloc (.cells #[.int .i64 k] 195)).alloc (.cells #[.slice none 0 0] 28)
  have hb5 := (hb3.alloc (.cells #[.int .i64 k] 195)).alloc (.cells #[.slice none 0 0] 28)
  refine ⟨rfl, rfl, ?_, ?_, ?_⟩
  · exact hb4.drew
  · exact hb5.drew
  · exact ((((Tn.refl w p (some q)).cell (a := ⟨p, 0, none⟩) (.inl rfl) _).cell (a := ⟨q, 0, none⟩) (.inr rfl) _).below (below_alloc2_ _ _ _)).below (Below.refl _ _).drew
end Go.Proofs.YthjdkjinkmdclaaGreat
