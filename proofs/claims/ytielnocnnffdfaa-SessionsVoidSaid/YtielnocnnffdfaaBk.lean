/- Contracts of sessions.Book on a book that New made. -/
import Derived.Test.YtielnocnnffdfaaRep
namespace Go.Proofs.Ytielnocnnffdfaa
open Go.RowKit

/-- A page: the number, the reply. -/
structure Pg where
  num : Int
  e : Int
  a : Int
  gs : List (Int × Int)
def Pg.zero : Pg := ⟨0, 0, 0, []⟩

def pgCells (p : Pg) (v : Value) : List Value := [.int .u64 p.num, .int .i64 p.e, .int .i64 p.a, v]
def bkCells (B : Nat → Pg) (V : Nat → Value) : List Value :=
  pgCells (B 0) (V 0) ++ pgCells (B 1) (V 1) ++ pgCells (B 2) (V 2) ++ pgCells (B 3) (V 3) ++ pgCells (B 4) (V 4) ++ pgCells (B 5) (V 5) ++ pgCells (B 6) (V 6) ++ pgCells (B 7) (V 7) ++ [.bool true]
theorem bkCells_get (B : Nat → Pg) (V : Nat → Value) (i j : Nat) (hi : i < 8) (hj : j < 4) : (bkCells B V).toArray[i * 4 + j]? = (pgCells (B i) (V i))[j]? := by
  match i, hi, j, hj with
  | 0, _, 0, _ => rfl | 0, _, 1, _ => rfl | 0, _, 2, _ => rfl | 0, _, 3, _ => rfl
  | 1, _, 0, _ => rfl | 1, _, 1, _ => rfl | 1, _, 2, _ => rfl | 1, _, 3, _ => rfl
  | 2, _, 0, _ => rfl | 2, _, 1, _ => rfl | 2, _, 2, _ => rfl | 2, _, 3, _ => rfl
  | 3, _, 0, _ => rfl | 3, _, 1, _ => rfl | 3, _, 2, _ => rfl | 3, _, 3, _ => rfl
  | 4, _, 0, _ => rfl | 4, _, 1, _ => rfl | 4, _, 2, _ => rfl | 4, _, 3, _ => rfl
  | 5, _, 0, _ => rfl | 5, _, 1, _ => rfl | 5, _, 2, _ => rfl | 5, _, 3, _ => rfl
  | 6, _, 0, _ => rfl | 6, _, 1, _ => rfl | 6, _, 2, _ => rfl | 6, _, 3, _ => rfl
  | 7, _, 0, _ => rfl | 7, _, 1, _ => rfl | 7, _, 2, _ => rfl | 7, _, 3, _ => rfl
theorem bkCells_set (B : Nat → Pg) (V : Nat → Value) (i : Nat) (hi : i < 8) (p : Pg) (v : Value) :
    ((((bkCells B V).toArray.setIfInBounds (i * 4) (.int .u64 p.num)).setIfInBounds (i * 4 + 1) (.int .i64 p.e)).setIfInBounds (i * 4 + 2) (.int .i64 p.a)).setIfInBounds (i * 4 + 3) v =
      (bkCells (fun k => if k = i then p else B k) (fun k => if k = i then v else V k)).toArray := by
  simp only [List.setIfInBounds_toArray]
  congr 1
  match i, hi with
  | 0, _ => simp [bkCells, pgCells]
  | 1, _ => simp [bkCells, pgCells]
  | 2, _ => simp [bkCells, pgCells]
  | 3, _ => simp [bkCells, pgCells]
  | 4, _ => simp [bkCells, pgCells]
  | 5, _ => simp [bkCells, pgCells]
  | 6, _ => simp [bkCells, pgCells]
  | 7, _ => simp [bkCells, pgCells]

/-- Block b is a book of these pages. -/
def IsBk (w : World) (b : Nat) (B : Nat → Pg) : Prop :=
  ∃ V, Blk w b 58 (bkCells B V).toArray ∧ ∀ i, i < 8 → Ow 0 w 42 2 (V i) (B i).gs.length (gcells (B i).gs) ∧ (B i).gs.length ≤ 8 ∧ 0 ≤ (B i).num ∧ (B i).num ≤ 18446744073709551615

theorem IsBk.made {w : World} {b : Nat} {B : Nat → Pg} (h : IsBk w b B) : w.cell? ⟨b, 32, none⟩ = some (.bool true) := by
  obtain ⟨V, hb, _⟩ := h
  rw [hb.cell]; rfl
theorem IsBk.lt {w : World} {b : Nat} {B : Nat → Pg} (h : IsBk w b B) : b < w.heap.size := by
  obtain ⟨V, hb, _⟩ := h; exact hb.lt
theorem IsBk.below {w w' : World} {b : Nat} {B : Nat → Pg} (h : IsBk w b B) (hb : Below w.heap.size w w') : IsBk w' b B := by
  obtain ⟨V, hk, hv⟩ := h
  exact ⟨V, hk.below hb hk.lt, fun i hi => ⟨(hv i hi).1.below hb, (hv i hi).2⟩⟩

theorem page_arg (b : Nat) (c : Int) (w : World) (hm : w.cell? ⟨b, 32, none⟩ = some (.bool true)) (hc : c < 1 ∨ 8 < c) :
    Calls Try.prog 58 #[.pointer (some ⟨b, 0, none⟩), .int .u8 c] w fun e w' => e = .returned (.tuple #[.pointer none, .int .i64 1]) ∧ w = w' := by
  rcases hc with hc | hc
  · go_enter Try.func58, Try.ntmps58
    go_wp2
    go_ret2
    exact ⟨rfl, rfl⟩
  · have hc' : ¬ c < 1 := by omega
    go_enter Try.func58, Try.ntmps58
    go_wp2
    go_ret2
    exact ⟨rfl, rfl⟩

theorem page_ok (b i : Nat) (w : World) (hm : w.cell? ⟨b, 32, none⟩ = some (.bool true)) (hi : i < 8) :
    Calls Try.prog 58 #[.pointer (some ⟨b, 0, none⟩), .int .u8 (i + 1)] w fun e w' => e = .returned (.tuple #[.pointer (some ⟨b, i * 4, none⟩), .int .i64 0]) ∧ w = w' := by
  have h1 : ¬ ((i : Int) + 1) < 1 := by omega
  have h2 : ¬ 8 < ((i : Int) + 1) := by omega
  go_enter Try.func58, Try.ntmps58
  go_wp2
  go_ret2
  exact ⟨rfl, rfl⟩

theorem last_ok (b i : Nat) (B : Nat → Pg) (w : World) (h : IsBk w b B) (hi : i < 8) :
    Calls Try.prog 19 #[.pointer (some ⟨b, 0, none⟩), .int .u8 (i + 1)] w fun e w' => e = .returned (.int .u64 (B i).num) ∧ w = w' := by
  have hm := Lib.hid h.made
  obtain ⟨V, hb, _⟩ := h
  have hc : w.cell? ⟨b, i * 4, none⟩ = some (.int .u64 (B i).num) := by rw [hb.cell]; exact bkCells_get B V i 0 hi (by omega)
  clear hb
  go_enter Try.func19, Try.ntmps19
  go_wp2_with (go_at_call 58; refine (page_ok b i _ hm.out hi).mono ?_; rintro e w' ⟨rfl, rfl⟩)
  go_ret
  exact ⟨rfl, rfl⟩

theorem last_arg (b : Nat) (c : Int) (B : Nat → Pg) (w : World) (h : IsBk w b B) (hc : c < 1 ∨ 8 < c) :
    Calls Try.prog 19 #[.pointer (some ⟨b, 0, none⟩), .int .u8 c] w fun e w' => e = .returned (.int .u64 0) ∧ w = w' := by
  have hm := Lib.hid h.made
  have HC := Lib.hid hc
  clear h hc
  go_enter Try.func19, Try.ntmps19
  go_wp2_with (go_at_call 58; refine (page_arg b c _ hm.out HC.out).mono ?_; rintro e w' ⟨rfl, rfl⟩)
  go_ret
  exact ⟨rfl, rfl⟩
end Go.Proofs.Ytielnocnnffdfaa
