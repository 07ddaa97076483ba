/- Contracts of sessions.Book on a book that is not there, or that no call made. -/
import Derived.Test.YtielnocnnffdfaaMem
namespace Go.Proofs.Ytielnocnnffdfaa
open Go.RowKit

/-- There is no book here: nil, or one that no call made. -/
def Void (w : World) (p : Option Addr) : Prop := p = none ∨ ∃ b, p = some ⟨b, 0, none⟩ ∧ w.cell? ⟨b, 32, none⟩ = some (.bool false)

theorem page_void (p : Option Addr) (c : Int) (w : World) (h : Void w p) :
    Calls Try.prog 58 #[.pointer p, .int .u8 c] w fun e w' => e = .returned (.tuple #[.pointer none, .int .i64 2]) ∧ w = w' := by
  rcases h with rfl | ⟨b, rfl, hc⟩
  · go_enter Try.func58, Try.ntmps58
    go_wp2
    go_ret2
    exact ⟨rfl, rfl⟩
  · go_enter Try.func58, Try.ntmps58
    go_wp2
    go_ret2
    exact ⟨rfl, rfl⟩

theorem ask_void (p : Option Addr) (c n : Int) (w : World) (h : Void w p) :
    Calls Try.prog 20 #[.pointer p, .int .u8 c, .int .u64 n] w fun e w' => e = .returned (.tuple #[.agg #[.int .i64 0, .int .i64 0, .slice none 0 0], .bool false, .int .i64 2]) ∧ w.alloc (.cells #[.int .i64 0, .int .i64 0, .slice none 0 0] 33) = w' := by
  have H := Lib.hid (show ∀ o, Void (w.alloc o) p from fun o => h.imp id (fun ⟨b, e, hc⟩ => ⟨b, e, by rw [World.cell?_alloc_lt _ _ _ (block_lt_of_cell hc)]; exact hc⟩))
  clear h
  go_enter Try.func20, Try.ntmps20
  go_wp2_with (go_at_call 58; refine (page_void _ _ _ (H.out _)).mono ?_; rintro e w' ⟨rfl, rfl⟩)
  refine bodyPost_ret (v := .tuple #[.agg #[.int .i64 0, .int .i64 0, .slice none 0 0], .bool false, .int .i64 2]) (by simp [results, Try.results20, go_sem]) rfl ⟨rfl, rfl⟩

theorem last_void (p : Option Addr) (c : Int) (w : World) (h : Void w p) :
    Calls Try.prog 19 #[.pointer p, .int .u8 c] w fun e w' => e = .returned (.int .u64 0) ∧ w = w' := by
  have H := Lib.hid h
  clear h
  go_enter Try.func19, Try.ntmps19
  go_wp2_with (go_at_call 58; refine (page_void _ _ _ H.out).mono ?_; rintro e w' ⟨rfl, rfl⟩)
  go_ret
  exact ⟨rfl, rfl⟩

theorem note_void (p : Option Addr) (c n : Int) (x y z : Value) (w : World) (h : Void w p) :
    Calls Try.prog 15 #[.pointer p, .int .u8 c, .int .u64 n, .agg #[x, y, z]] w fun e w' => e = .returned (.int .i64 2) ∧ w.alloc (.cells #[x, y, z] 33) = w' := by
  have H := Lib.hid (show ∀ o, Void (w.alloc o) p from fun o => h.imp id (fun ⟨b, e, hc⟩ => ⟨b, e, by rw [World.cell?_alloc_lt _ _ _ (block_lt_of_cell hc)]; exact hc⟩))
  clear h
  go_enter Try.func15, Try.ntmps15
  go_wp2_with (go_at_call 58; refine (page_void _ _ _ (H.out _)).mono ?_; rintro e w' ⟨rfl, rfl⟩)
  go_ret
  exact ⟨rfl, rfl⟩

theorem put_void (p : Option Addr) (w : World) (h : Void w p) :
    Calls Try.prog 24 #[.pointer p] w fun e w' => e = .returned (.slice none 0 0) ∧ w = w' := by
  rcases h with rfl | ⟨b, rfl, hc⟩
  · go_enter Try.func24, Try.ntmps24
    go_wp2
    go_ret
    exact ⟨rfl, rfl⟩
  · go_enter Try.func24, Try.ntmps24
    go_wp2
    go_ret
    exact ⟨rfl, rfl⟩

theorem same_none (w : World) : Calls Try.prog 60 #[.slice none 0 0, .slice none 0 0] w fun e w' => e = .returned (.bool true) ∧ w = w' := by
  go_enter Try.func60, Try.ntmps60
  go_wp2
  refine wp_loop_rounds 1 ?_
  rw [rounds_succ]
  go_wp2
  go_ret
  exact ⟨rfl, rfl⟩

theorem samereply_none (w : World) : Calls Try.prog 17 #[.agg #[.int .i64 0, .int .i64 0, .slice none 0 0], .agg #[.int .i64 0, .int .i64 0, .slice none 0 0]] w fun e w' => e = .returned (.bool true) ∧
    (w.alloc (.cells #[.int .i64 0, .int .i64 0, .slice none 0 0] 33)).alloc (.cells #[.int .i64 0, .int .i64 0, .slice none 0 0] 33) = w' := by
  go_enter Try.func17, Try.ntmps17
  go_wp2_with (go_at_call 60; refine (same_none _).mono ?_; rintro e w' ⟨rfl, rfl⟩)
  go_ret
  exact ⟨rfl, rfl⟩
end Go.Proofs.Ytielnocnnffdfaa
