/- StatesOne: asks as rows; the map of votes. -/
import Derived.Test.YtojafgijhbnjoaaDoorRdO
import Derived.Maps.Own
import Derived.WalkArith
import Derived.Maps.OwnOps
import Derived.Maps.Views
import Derived.Maps.OwnSet
namespace Go.Proofs.YtojafgijhbnjoaaDoor
open Go.RowKit Go.Maps

/-- An ask. -/
structure AskR where
  term : Int
  vote : Int
  fuse : Int
  loss : Int
def askC (r : AskR) : List Value := [.int .u8 r.term, .int .u8 r.vote, .int .u8 r.fuse, .int .i64 r.loss]
theorem askC_len (r : AskR) : (askC r).length = 4 := rfl
structure AskOk (r : AskR) : Prop where
  term : 0 ≤ r.term ∧ r.term ≤ 255
  vote : 0 ≤ r.vote ∧ r.vote ≤ 255
  fuse : 0 ≤ r.fuse ∧ r.fuse ≤ 255
  loss : -9223372036854775808 ≤ r.loss ∧ r.loss ≤ 9223372036854775807
structure Asks (w : World) (v : Value) (rs : List AskR) : Prop where
  rd : Rd w 4 v rs.length (rs.flatMap askC)
  ok : ∀ r ∈ rs, AskOk r
theorem Asks.below {w w' : World} {v : Value} {rs : List AskR} (h : Asks w v rs) (hb : Below w.heap.size w w') : Asks w' v rs := ⟨h.rd.below hb, h.ok⟩
theorem Asks.at_ {w : World} {A : Option Addr} {n c : Nat} {rs : List AskR} (h : Asks w (.slice A n c) rs) (k : Nat) (hk : k < rs.length) :
    ∃ g o, A = some ⟨g, o, none⟩ ∧ g < w.heap.size ∧ w.cell? ⟨g, o + k * 4, none⟩ = some (.int .u8 rs[k].term) ∧ w.cell? ⟨g, o + k * 4 + 1, none⟩ = some (.int .u8 rs[k].vote) ∧ w.cell? ⟨g, o + k * 4 + 2, none⟩ = some (.int .u8 rs[k].fuse) ∧
      w.cell? ⟨g, o + k * 4 + 3, none⟩ = some (.int .i64 rs[k].loss) := by
  obtain ⟨g, o, c', hv, hc, hg, hh⟩ := Rd.at_ askC_len h.rd (by omega)
  injection hv with h1 h2 h3
  exact ⟨g, o, h1, hg, hh k hk 0 _ (by omega) rfl, hh k hk 1 _ (by omega) rfl, hh k hk 2 _ (by omega) rfl, hh k hk 3 _ (by omega) rfl⟩

theorem keyed : Keyed Tryd.prog 22 := int_keyed Tryd.underlying22
theorem zero5 (w : World) : (zeroValue 5).run Tryd.prog w = .ok (.int .u8 0) w := by kernel_rfl
/-- Block m is a map of at most n entries that gives M. -/
def MapIs (w : World) (m n : Nat) (M : Nat → Nat) : Prop := ∃ D, w.ownsMap (H := Unit) Tryd.prog 22 (plainElem Tryd.prog 5) m n D ∧ ∀ k : Nat, D.atKey (.int .u64 k) (.lit (.int .u8 0)) = .lit (.int .u8 (M k))
theorem MapIs.made (w : World) : MapIs (w.alloc (.map #[] 0)) w.heap.size 0 (fun _ => 0) := ⟨_, World.ownsMap_made _ _ _ _, fun _ => rfl⟩
theorem MapIs.obj {w : World} {m n : Nat} {M : Nat → Nat} (h : MapIs w m n M) : ∃ o, w.heap[m]? = some o ∧ ∀ w' : World, w'.heap[m]? = some o → MapIs w' m n M := by
  obtain ⟨D, ⟨es, ck, hb, F⟩, hM⟩ := h
  exact ⟨_, hb, fun w' hb' => ⟨D, ⟨es, ck, hb', F⟩, hM⟩⟩
theorem u64_wf {k : Nat} (h : k < 18446744073709551616) : (Lit.int .u64 (k : Int)).wf = true := WalkArith.wf_u64 (by omega)
theorem u8_wf {k : Nat} (h : k < 256) : (Lit.int .u8 (k : Int)).wf = true := WalkArith.wf_u8 (by omega)
theorem MapIs.look {w : World} {m n : Nat} {M : Nat → Nat} (h : MapIs w m n M) {T : Nat} (hT : T < 18446744073709551616) :
    (Instr.lookup 87 (.map (some m)) (.int .u64 T) false).run Tryd.prog w = .ok (.int .u8 (M T)) w := by
  obtain ⟨D, hown, hM⟩ := h
  obtain ⟨c, hrun, hat, _⟩ := hown.lookup_int keyed Tryd.underlying87 Tryd.underlying5 (zero5 w) (keyOf_int_mk Tryd.underlying22 (u64_wf hT))
  rw [hM T] at hat
  simp only [DataW.lit.injEq, Lit.int.injEq, true_and] at hat
  rw [hat]
  exact hrun
/-- The map behind 'm[T] = V'. -/
theorem MapIs.put {M : Nat → Nat} {D : DataW Unit} {T V : Nat} {w : World} {m n : Nat} (hM : ∀ k : Nat, D.atKey (.int .u64 k) (.lit (.int .u8 0)) = .lit (.int .u8 (M k)))
    (hD : IsMap D) (hT : T < 18446744073709551616) (h : w.ownsMap (H := Unit) Tryd.prog 22 (plainElem Tryd.prog 5) m n (D.put (.int .u64 T) (.lit (.int .u8 V)))) : MapIs w m n (fun k => if k = T then V else M k) := by
  refine ⟨_, h, fun k => ?_⟩
  show _ = DataW.lit (Lit.int .u8 ((if k = T then V else M k : Nat) : Int))
  by_cases hk : k = T
  · subst hk
    rw [if_pos rfl, atKey_put_same hD (show WideAt.IsKeyLit (Lit.int .u64 (k : Int)) from trivial)]
  · rw [if_neg hk, atKey_put_other (fun e => hk (by injection e with _ e; omega)), hM k]
end Go.Proofs.YtojafgijhbnjoaaDoor
