/- A disk that is not there, or that no call made. -/
import Derived.Test.YtojafgijhbnjoaaDskO
namespace Go.Proofs.Ytojafgijhbnjoaa
open Go.RowKit

def Void (w : World) (p : Option Addr) : Prop := p = none ∨ ∃ b, p = some ⟨b, 0, none⟩ ∧ w.cell? ⟨b, 0, none⟩ = some (.map none)
theorem Void.below {w w' : World} {p : Option Addr} (h : Void w p) (hb : Below w.heap.size w w') : Void w' p :=
  h.imp id fun ⟨b, e, hc⟩ => ⟨b, e, (hb.cell (block_lt_of_cell hc)).trans hc⟩
theorem there_void (p : Option Addr) (w : World) (h : Void w p) : Calls Try.prog 21 #[.pointer p] w fun e w' => e = .returned (.bool false) ∧ w = w' := by
  have qm := fun (w : World) (r : Option Nat) => run_neq_map_nil (P := Try.prog) w _ _ _ r Try.underlying45
  rcases h with rfl | ⟨b, rfl, hc⟩
  · go_enter Try.func21, Try.ntmps21
    go_wp2
    go_ret
    exact ⟨rfl, rfl⟩
  · go_enter Try.func21, Try.ntmps21
    go_wp2
    go_ret
    exact ⟨rfl, rfl⟩
theorem asked_void (p : Option Addr) (nm : ByteArray) (w : World) (h : Void w p) : Calls Try.prog 25 #[.pointer p, .string nm] w fun e w' => e = .returned (.int .i64 2) ∧ w = w' := by
  have H := Lib.hid h
  clear h
  go_enter Try.func25, Try.ntmps25
  go_wp2_with (go_at_call 21; refine (there_void _ _ H.out).mono ?_; rintro e w' ⟨rfl, rfl⟩)
  go_ret
  exact ⟨rfl, rfl⟩
theorem read_void (p : Option Addr) (nm : ByteArray) (w : World) (h : Void w p) : Calls Try.prog 11 #[.pointer p, .string nm] w fun e w' => e = .returned (.tuple #[.slice none 0 0, .int .i64 2]) ∧ w = w' := by
  have H := Lib.hid h
  clear h
  go_enter Try.func11, Try.ntmps11
  go_wp2_with (go_at_call 25; refine (asked_void _ _ _ H.out).mono ?_; rintro e w' ⟨rfl, rfl⟩)
  go_ret2
  exact ⟨rfl, rfl⟩
theorem fuse_void (p : Option Addr) (n : Int) (w : World) (h : Void w p) : Calls Try.prog 8 #[.pointer p, .int .i64 n] w fun e w' => e = .returned (.tuple #[]) ∧ w = w' := by
  have H := Lib.hid h
  clear h
  go_enter Try.func8, Try.ntmps8
  go_wp2_with (go_at_call 21; refine (there_void _ _ H.out).mono ?_; rintro e w' ⟨rfl, rfl⟩)
  go_end0
  exact ⟨rfl, rfl⟩
theorem lift_void (p : Option Addr) (lv : Value) (w : World) (h : Void w p) : Calls Try.prog 12 #[.pointer p, lv] w fun e w' => e = .returned (.tuple #[]) ∧ w = w' := by
  have H := Lib.hid h
  clear h
  go_enter Try.func12, Try.ntmps12
  go_wp2_with (go_at_call 21; refine (there_void _ _ H.out).mono ?_; rintro e w' ⟨rfl, rfl⟩)
  refine bodyPost_ret (results_none rfl _ _ _) rfl ?_
  exact ⟨rfl, rfl⟩
theorem dead_void (p : Option Addr) (w : World) (h : Void w p) : Calls Try.prog 10 #[.pointer p] w fun e w' => e = .returned (.bool false) ∧ w = w' := by
  have H := Lib.hid h
  clear h
  go_enter Try.func10, Try.ntmps10
  go_wp2_with (go_at_call 21; refine (there_void _ _ H.out).mono ?_; rintro e w' ⟨rfl, rfl⟩)
  go_ret
  exact ⟨rfl, rfl⟩
theorem names_void (p : Option Addr) (w : World) (h : Void w p) : Calls Try.prog 20 #[.pointer p] w fun e w' => e = .returned (.slice none 0 0) ∧ w = w' := by
  have H := Lib.hid h
  clear h
  go_enter Try.func20, Try.ntmps20
  go_wp2_with (go_at_call 21; refine (there_void _ _ H.out).mono ?_; rintro e w' ⟨rfl, rfl⟩)
  go_ret
  exact ⟨rfl, rfl⟩
theorem size_void (p : Option Addr) (nm : ByteArray) (w : World) (h : Void w p) : Calls Try.prog 23 #[.pointer p, .string nm] w fun e w' => e = .returned (.int .i64 0) ∧ w = w' := by
  have H := Lib.hid h
  clear h
  go_enter Try.func23, Try.ntmps23
  go_wp2_with (go_at_call 21; refine (there_void _ _ H.out).mono ?_; rintro e w' ⟨rfl, rfl⟩)
  go_ret
  exact ⟨rfl, rfl⟩
theorem does_void (p : Option Addr) (nm : ByteArray) (n : Int) (b : Bool) (f : Value) (w : World) (h : Void w p) : Calls Try.prog 22 #[.pointer p, .string nm, .int .i64 n, .bool b, f] w fun e w' => e = .returned (.int .i64 2) ∧ w = w' := by
  have H := Lib.hid h
  clear h
  go_enter Try.func22, Try.ntmps22
  go_wp2_with (go_at_call 25; refine (asked_void _ _ _ H.out).mono ?_; rintro e w' ⟨rfl, rfl⟩)
  go_ret
  exact ⟨rfl, rfl⟩
theorem sure_void (p : Option Addr) (nm : ByteArray) (w : World) (h : Void w p) : Calls Try.prog 17 #[.pointer p, .string nm] w fun e w' => e = .returned (.int .i64 2) ∧ w = w' := by
  have H := Lib.hid h
  clear h
  go_enter Try.func17, Try.ntmps17
  go_wp2_with (go_at_call 22; refine (does_void _ _ _ _ _ _ H.out).mono ?_; rintro e w' ⟨rfl, rfl⟩)
  go_ret
  exact ⟨rfl, rfl⟩
theorem drop_void (p : Option Addr) (nm : ByteArray) (w : World) (h : Void w p) : Calls Try.prog 19 #[.pointer p, .string nm] w fun e w' => e = .returned (.int .i64 2) ∧ Below w.heap.size w w' := by
  have H := Lib.hid (h.below (below_alloc_ w (.cells #[.pointer p] 0)))
  have H2 := Lib.hid (fun t => h.below (below_alloc_ w (.cells #[.pointer p] t)))
  have hmf : ∀ (fn : Fn) (first cap : Array Value) (w : World), (Instr.makeFunc fn first cap).run Try.prog w = .ok (.func fn first cap) w := fun _ _ _ _ => rfl
  clear h
  go_enter Try.func19, Try.ntmps19
  go_wp2_with (go_at_call 22; refine (does_void _ _ _ _ _ _ (H2.out _)).mono ?_; rintro e w' ⟨rfl, rfl⟩)
  go_ret
  exact ⟨rfl, below_alloc_ _ _⟩
theorem put_void (p : Option Addr) (nm : ByteArray) (P : Option Addr) (n c : Nat) (w : World) (h : Void w p) : Calls Try.prog 18 #[.pointer p, .string nm, .slice P n c] w fun e w' => e = .returned (.int .i64 2) ∧ Below w.heap.size w w' := by
  have H := Lib.hid (h.below (below_alloc_ w (.cells #[.slice P n c] 28)))
  have hmf : ∀ (fn : Fn) (first cap : Array Value) (w : World), (Instr.makeFunc fn first cap).run Try.prog w = .ok (.func fn first cap) w := fun _ _ _ _ => rfl
  clear h
  go_enter Try.func18, Try.ntmps18
  go_wp2_with (go_at_call 22; refine (does_void _ _ _ _ _ _ H.out).mono ?_; rintro e w' ⟨rfl, rfl⟩)
  go_ret
  exact ⟨rfl, below_alloc_ _ _⟩
set_option maxHeartbeats 1000000 in
theorem add_void (p : Option Addr) (nm : ByteArray) (P : Option Addr) (n c : Nat) (hn : n ≤ 9223372036854775807) (w : World) (h : Void w p) : Calls Try.prog 9 #[.pointer p, .string nm, .slice P n c] w fun e w' => e = .returned (.int .i64 2) ∧ Below w.heap.size w w' := by
  have H := Lib.hid (show Void (w.alloc (.cells #[.slice P n c] 28)).drew p from h.below (below_alloc_ w (.cells #[.slice P n c] 28)).drew)
  have S0 := Lib.hid (show (w.alloc (.cells #[.slice P n c] 28)).drew.cell? ⟨w.heap.size, 0, none⟩ = some (.slice P n c) from ((Blk.new w 28 #[.slice P n c]).cell 0).trans (by simp))
  have hmf : ∀ (fn : Fn) (first cap : Array Value) (w : World), (Instr.makeFunc fn first cap).run Try.prog w = .ok (.func fn first cap) w := fun _ _ _ _ => rfl
  have hsum : IntKind.i64.wrap ((0 : Int) + (n : Int)) = (n : Int) := (IntWalk.i64_in _ (by omega)).trans (by omega)
  have hsum2 : IntKind.i64.wrap (n : Int) = (n : Int) := IntWalk.i64_in _ (by omega)
  clear h
  go_enter Try.func9, Try.ntmps9
  go_wp2
  go_region_held3 (fun w' => w'.cell? ⟨w.heap.size, 0, none⟩ = some (.slice P n c)) (first
     | (with_reducible exact S0.out)
     | fail)
    (first
     | (go_at_call 22; refine (does_void _ _ _ _ _ _ H.out).mono ?_; rintro e w1 ⟨rfl, rfl⟩)
     | (go_at_call 23; refine (size_void _ _ _ H.out).mono ?_; rintro e w1 ⟨rfl, rfl⟩))
  all_goals
    go_wp2
    go_ret
    exact ⟨rfl, (below_alloc_ _ _).drew⟩
end Go.Proofs.Ytojafgijhbnjoaa
