/- Acts on sessions: a slice of them; great; arrays of nine numbers, of nine replies. -/
import Derived.Test.YtcpiockmkpdkjaaSpb
import Derived.RegionTactic
import Derived.BigRegion
namespace Go.Proofs.Ytcpiockmkpdkjaa
open Go.RowKit

/-- The pages by clients; client 0 has none. -/
def shB (B : Nat → Sp) (m : Nat) : Sp := if m = 0 then Sp.zero else B (m - 1)
theorem shB_succ (B : Nat → Sp) (i : Nat) : shB B (i + 1) = B i := rfl
/-- An act. -/
structure SaR where
  note : Bool
  cl : Int
  num : Int
  e : Int
  a : Int
  v : Value
  gs : List (List Int)
def saC (r : SaR) : List Value := [.bool r.note, .int .u8 r.cl, .int .u64 r.num, .int .i64 r.e, .int .i64 r.a, r.v]
theorem saC_len (r : SaR) : (saC r).length = 6 := rfl
structure SaOk (w : World) (r : SaR) : Prop where
  v : Gots w r.v r.gs
  gs : ∀ q ∈ r.gs, fok gotK q
  cl : byt r.cl
  num : fok1 .u64 r.num
  e : fok1 .i64 r.e
  a : fok1 .i64 r.a
theorem SaOk.below {w w' : World} {r : SaR} (h : SaOk w r) (hb : Below w.heap.size w w') : SaOk w' r := ⟨Rd.below h.v hb, h.gs, h.cl, h.num, h.e, h.a⟩
structure Sas (w : World) (v : Value) (rs : List SaR) : Prop where
  rd : Rd w 6 v rs.length (rs.flatMap saC)
  ok : ∀ r ∈ rs, SaOk w r
theorem Sas.below {w w' : World} {v : Value} {rs : List SaR} (h : Sas w v rs) (hb : Below w.heap.size w w') : Sas w' v rs := ⟨h.rd.below hb, fun r hr => (h.ok r hr).below hb⟩
theorem Sas.shape {w : World} {v : Value} {rs : List SaR} (h : Sas w v rs) : ∃ A c, v = .slice A rs.length c ∧ rs.length ≤ c := by
  obtain ⟨A, c, hv, hc, -⟩ := h.rd; exact ⟨A, c, hv, hc⟩
theorem Sas.at_ {w : World} {A : Option Addr} {n c : Nat} {rs : List SaR} (h : Sas w (.slice A n c) rs) (k : Nat) (hk : k < rs.length) :
    ∃ g o, A = some ⟨g, o, none⟩ ∧ g < w.heap.size ∧ w.cell? ⟨g, o + k * 6, none⟩ = some (.bool rs[k].note) ∧ w.cell? ⟨g, o + k * 6 + 1, none⟩ = some (.int .u8 rs[k].cl) ∧ w.cell? ⟨g, o + k * 6 + 2, none⟩ = some (.int .u64 rs[k].num) ∧
      w.cell? ⟨g, o + k * 6 + 3, none⟩ = some (.int .i64 rs[k].e) ∧ w.cell? ⟨g, o + k * 6 + 4, none⟩ = some (.int .i64 rs[k].a) ∧ w.cell? ⟨g, o + k * 6 + 5, none⟩ = some rs[k].v := by
  obtain ⟨g, o, c', hv, hc, hg, hh⟩ := Rd.at_ saC_len h.rd (by omega)
  injection hv with h1 h2 h3
  exact ⟨g, o, h1, hg, hh k hk 0 _ (by omega) rfl, hh k hk 1 _ (by omega) rfl, hh k hk 2 _ (by omega) rfl, hh k hk 3 _ (by omega) rfl, hh k hk 4 _ (by omega) rfl, hh k hk 5 _ (by omega) rfl⟩

set_option maxHeartbeats 2000000 in
set_option maxRecDepth 100000 in
theorem sgreat_any (v : Value) (rs : List SaR) (w : World) (h : Sas w v rs) : Calls Try.prog 6 #[v] w fun e w' => (∃ b, e = .returned (.bool b) ∧ (b = false → rs.length ≤ 150 ∧ ∀ r ∈ rs, r.gs.length ≤ 50)) ∧ w = w' := by
  obtain ⟨A, c, rfl, hc⟩ := h.shape
  have H := Lib.hid h
  obtain ⟨n, hn⟩ : ∃ n, n = rs.length := ⟨_, rfl⟩
  have N := Lib.hid hn
  rw [← hn]
  clear h hc hn
  by_cases hl : 150 < n
  · have hl' : (150 : Int) < (n : Int) := by omega
    go_enter Try.func6, Try.ntmps6
    go_wp2
    go_ret
    exact ⟨⟨_, rfl, by simp⟩, rfl⟩
  · have hl' : ¬ (150 : Int) < (n : Int) := by omega
    go_enter Try.func6, Try.ntmps6
    go_wp2
    go_loopw [3] (fun c3 wr => ∃ (k : Nat), k ≤ n ∧ c3 = .int .i64 k ∧ wr = w ∧ ∀ r ∈ rs.take k, r.gs.length ≤ 50) (fun c3 _ => n - (intOf c3).toNat)
    case atStart => exact ⟨0, by omega, rfl, rfl, by simp⟩
    case round =>
      obtain ⟨k, hk, rfl, rfl, hall⟩ := hrel
      have HA := Lib.hid hall
      clear hall
      by_cases hkn : k < n
      · have hkr : k < rs.length := by have := N.out; omega
        obtain ⟨g, o, rfl, -, -, -, -, -, -, c5⟩ := (show Sas wr (.slice A n c) rs from by have := H.out; rw [← N.out] at this; exact this).at_ k hkr
        have hok := H.out.ok _ (List.getElem_mem hkr)
        obtain ⟨AB, cB, hbv, -⟩ := id hok.v
        rw [hbv] at c5
        obtain ⟨q, hq⟩ : ∃ q, q = rs[k].gs.length := ⟨_, rfl⟩
        rw [← hq] at c5
        have Q := Lib.hid hq
        clear hok hbv hq
        by_cases h50 : 50 < q
        · have h50' : (50 : Int) < (q : Int) := by omega
          go_wp2
          go_ret
          exact ⟨⟨_, rfl, by simp⟩, by trivial⟩
        · have h50' : ¬ (50 : Int) < (q : Int) := by omega
          go_wp2
          refine ⟨⟨k + 1, by omega, by go_num, by trivial, fun r hr => ?_⟩, by simp [intOf]; omega⟩
          rw [List.take_succ_eq_append_getElem hkr] at hr
          rcases List.mem_append.1 hr with hr | hr
          · exact HA.out r hr
          · obtain rfl := List.mem_singleton.1 hr
            rw [← Q.out]; omega
      · obtain rfl : k = n := by omega
        go_wp2
        go_ret
        refine ⟨⟨_, rfl, fun _ => ⟨by have := N.out; omega, fun r hr => HA.out r ?_⟩⟩, by trivial⟩
        rw [N.out, List.take_length]; exact hr

/- The two arrays. -/
def laC (C : Nat → Sp) : List Value := [.int .u64 (C 0).num, .int .u64 (C 1).num, .int .u64 (C 2).num, .int .u64 (C 3).num, .int .u64 (C 4).num, .int .u64 (C 5).num, .int .u64 (C 6).num, .int .u64 (C 7).num, .int .u64 (C 8).num]
theorem laC_get (C : Nat → Sp) (m : Nat) (hm : m < 9) : (laC C).toArray[m]? = some (.int .u64 (C m).num) := by
  match m, hm with
  | 0, _ => rfl | 1, _ => rfl | 2, _ => rfl | 3, _ => rfl | 4, _ => rfl | 5, _ => rfl | 6, _ => rfl | 7, _ => rfl | 8, _ => rfl
theorem laC_set (C : Nat → Sp) (m : Nat) (hm : m < 9) (p : Sp) : (laC C).toArray.setIfInBounds m (.int .u64 p.num) = (laC (fun k => if k = m then p else C k)).toArray := by
  simp only [List.setIfInBounds_toArray]
  congr 1
  match m, hm with
  | 0, _ => simp [laC] | 1, _ => simp [laC] | 2, _ => simp [laC] | 3, _ => simp [laC] | 4, _ => simp [laC] | 5, _ => simp [laC] | 6, _ => simp [laC] | 7, _ => simp [laC] | 8, _ => simp [laC]
def reC (C : Nat → Sp) (V : Nat → Value) : List Value :=
  [.int .i64 (C 0).e, .int .i64 (C 0).a, V 0, .int .i64 (C 1).e, .int .i64 (C 1).a, V 1, .int .i64 (C 2).e, .int .i64 (C 2).a, V 2, .int .i64 (C 3).e, .int .i64 (C 3).a, V 3, .int .i64 (C 4).e, .int .i64 (C 4).a, V 4, .int .i64 (C 5).e, .int .i64 (C 5).a, V 5, .int .i64 (C 6).e, .int .i64 (C 6).a, V 6, .int .i64 (C 7).e, .int .i64 (C 7).a, V 7, .int .i64 (C 8).e, .int .i64 (C 8).a, V 8]
theorem reC_get (C : Nat → Sp) (V : Nat → Value) (m : Nat) (hm : m < 9) : (reC C V).toArray[m * 3]? = some (.int .i64 (C m).e) ∧ (reC C V).toArray[m * 3 + 1]? = some (.int .i64 (C m).a) ∧ (reC C V).toArray[m * 3 + 2]? = some (V m) := by
  match m, hm with
  | 0, _ => exact ⟨rfl, rfl, rfl⟩ | 1, _ => exact ⟨rfl, rfl, rfl⟩ | 2, _ => exact ⟨rfl, rfl, rfl⟩ | 3, _ => exact ⟨rfl, rfl, rfl⟩ | 4, _ => exact ⟨rfl, rfl, rfl⟩ | 5, _ => exact ⟨rfl, rfl, rfl⟩ | 6, _ => exact ⟨rfl, rfl, rfl⟩ | 7, _ => exact ⟨rfl, rfl, rfl⟩ | 8, _ => exact ⟨rfl, rfl, rfl⟩
theorem reC_set (C : Nat → Sp) (V : Nat → Value) (m : Nat) (hm : m < 9) (p : Sp) (v : Value) :
    (((reC C V).toArray.setIfInBounds (m * 3) (.int .i64 p.e)).setIfInBounds (m * 3 + 1) (.int .i64 p.a)).setIfInBounds (m * 3 + 2) v = (reC (fun k => if k = m then p else C k) (fun k => if k = m then v else V k)).toArray := by
  simp only [List.setIfInBounds_toArray]
  congr 1
  match m, hm with
  | 0, _ => simp [reC] | 1, _ => simp [reC] | 2, _ => simp [reC] | 3, _ => simp [reC] | 4, _ => simp [reC] | 5, _ => simp [reC] | 6, _ => simp [reC] | 7, _ => simp [reC] | 8, _ => simp [reC]
theorem shB_upd (B : Nat → Sp) (i : Nat) (p : Sp) : shB (updB B i p) = fun k => if k = i + 1 then p else shB B k := by
  funext k
  unfold shB updB
  by_cases h0 : k = 0
  · rw [if_pos h0, if_neg (by omega), if_pos h0]
  · rw [if_neg h0]
    by_cases h1 : k - 1 = i
    · rw [if_pos h1, if_pos (by omega)]
    · rw [if_neg h1, if_neg (by omega), if_neg h0]
end Go.Proofs.Ytcpiockmkpdkjaa
