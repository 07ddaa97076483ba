/- sessions.Book: Put. -/
import Derived.Test.YtcpiockmkpdkjaaSpl
import Derived.Test.YtcpiockmkpdkjaaMmc
import Derived.Test.YtcpiockmkpdkjaaBfn
import Derived.Deep.RegionHeldLaw
import Derived.Deep.MidRow
namespace Go.Proofs.Ytcpiockmkpdkjaa
open Go.RowKit

/-- The first byte set. -/
theorem Bo.set0 {B : Nat} {w : World} {g n c : Nat} {x y : Int} {xs : List Int} (h : Bo B w (.slice (some ⟨g, 0, none⟩) n c) (x :: xs)) : Bo B (w.setCell ⟨g, 0, none⟩ (.int .u8 y)) (.slice (some ⟨g, 0, none⟩) n c) (y :: xs) := by
  rcases h with ⟨hv, _, _⟩ | ⟨g', c', cur, hv, hB, hg, hc, hl, hs, ht⟩
  · cases hv
  · injection hv with h1 h2 h3
    injection h1 with h1
    injection h1 with h1 _ _
    subst h1; subst h3; subst h2
    refine .inr ⟨g, c, cur.setIfInBounds 0 (.int .u8 y), rfl, hB, hg.set_ 0 _, hc, by simp, by simpa using hs, ?_⟩
    obtain ⟨l⟩ := cur
    simp only [List.setIfInBounds_toArray] at ht ⊢
    match l, ht with
    | [], ht => simp [bc] at ht
    | a :: l', ht =>
      simp only [bc, List.map_cons, List.length_cons, Nat.mul_one, List.take_succ_cons, List.cons.injEq, List.set_cons_zero] at ht ⊢
      exact ⟨trivial, ht.2⟩
theorem Bo.blk {B : Nat} {w : World} {g n c : Nat} {xs : List Int} (h : Bo B w (.slice (some ⟨g, 0, none⟩) n c) xs) : ∃ cs, Blk w g 5 cs := by
  rcases h with ⟨hv, _, _⟩ | ⟨g', c', cur, hv, hB, hg, _⟩
  · cases hv
  · injection hv with h1 _ _
    injection h1 with h1
    injection h1 with h1 _ _
    subst h1
    exact ⟨_, hg⟩
def pgs (B : Nat → Sp) (V : Nat → Value) : List Value :=
  pgCells (B 0) (V 0) ++ pgCells (B 1) (V 1) ++ pgCells (B 2) (V 2) ++ pgCells (B 3) (V 3) ++ pgCells (B 4) (V 4) ++ pgCells (B 5) (V 5) ++ pgCells (B 6) (V 6) ++ pgCells (B 7) (V 7)
theorem pgs_range {B : Nat → Sp} {V : Nat → Value} {w : World} {b : Nat} (h : Blk w b 64 (bkCells B V).toArray) : w.rangeAt b 0 (pgs B V) := by
  intro j v hj
  rw [Nat.zero_add, h.cell]
  show (pgs B V ++ [Value.bool true]).toArray[j]? = some v
  rw [List.getElem?_toArray, List.getElem?_append_left (by
    rcases Nat.lt_or_ge j (pgs B V).length with h | h
    · exact h
    · rw [List.getElem?_eq_none h] at hj; cases hj)]
  exact hj
theorem pgs_load {B : Nat → Sp} {V : Nat → Value} {w : World} {b : Nat} (h : Blk w b 64 (bkCells B V).toArray) : (Instr.loadAt 62 (.pointer (some ⟨b, 0, none⟩))).run Try.prog w = .ok (.agg (pgs B V).toArray) w :=
  run_loadAt_mid w b 0 62 (pgs B V) _ (pgs_range h) Try.underlying62 rfl (by kernel_rfl)
set_option maxRecDepth 100000 in
theorem pgs_at (B : Nat → Sp) (V : Nat → Value) (w : World) (k : Nat) (hk : k < 8) : (Instr.index 62 (.agg (pgs B V).toArray) (.int .i64 k)).run Try.prog w = .ok (.agg (pgCells (B k) (V k)).toArray) w := by
  match k, hk with
  | 0, _ => simp [Instr.index, go_sem, pgs, pgCells]
  | 1, _ => simp [Instr.index, go_sem, pgs, pgCells]
  | 2, _ => simp [Instr.index, go_sem, pgs, pgCells]
  | 3, _ => simp [Instr.index, go_sem, pgs, pgCells]
  | 4, _ => simp [Instr.index, go_sem, pgs, pgCells]
  | 5, _ => simp [Instr.index, go_sem, pgs, pgCells]
  | 6, _ => simp [Instr.index, go_sem, pgs, pgCells]
  | 7, _ => simp [Instr.index, go_sem, pgs, pgCells]
set_option maxHeartbeats 8000000 in
set_option maxRecDepth 100000 in
theorem put_any (b : Nat) (B : Nat → Sp) (w : World) {F : Nat → Prop} (h : IsBk F w b B) :
    Calls Try.prog 18 #[.pointer (some ⟨b, 0, none⟩)] w fun e w' => ∃ v, e = .returned v ∧ Bo w.heap.size w' v (bookB B) ∧ Below w.heap.size w w' := by
  have H := Lib.hid h
  have hm := h.made
  obtain ⟨V, hb, hv⟩ := h
  have HV := Lib.hid hv
  have HR := Lib.hid (pgs_range (hb.alloc (.cells #[.int .u8 0] 5)))
  have q1 := pgs_at B V
  have O0 := Lib.hid (show Bf w.heap.size w (w.alloc (.cells #[.int .u8 0] 5)) (.slice (some ⟨w.heap.size, 0, none⟩) 1 1) (((manyB B 0 : Nat) : Int) :: uptoB B 0) from
    ⟨.inr ⟨w.heap.size, 1, _, rfl, Nat.le_refl _, Blk.new _ _ _, Nat.le_refl _, rfl, by simp, rfl⟩, below_alloc_ _ _, by simp⟩)
  have Q1 := Lib.hid q1
  clear hb hv q1
  go_enter Try.func18, Try.ntmps18
  go_wp2_with (refine wpList_load_mid rfl 62 _ rfl b 0 rfl (pgs B V) _ HR.out Try.underlying62 rfl (by kernel_rfl) ?_)
  go_loopg [3, 22] 8 (fun q x y wr => ∃ k : Nat, k ≤ 8 ∧ q = 8 - k ∧ y = .int .i64 k ∧ Bf w.heap.size w wr x (((manyB B k : Nat) : Int) :: uptoB B k))
  case atStart => exact ⟨0, by omega, rfl, rfl, O0.out⟩
  case round =>
    obtain ⟨k, hk, rfl, rfl, hF⟩ := hrel
    by_cases hk8 : k < 8
    · have hk8' : (k : Int) < 8 := by omega
      have q1 := Q1.out wr k hk8
      have HF := Lib.hid hF
      obtain ⟨ho, hfo, ok⟩ := HV.out k hk8
      have HOK := Lib.hid ok
      have hlen0 := uptoB_len (fun i hi => (HV.out i hi).2.2) k hk
      have hmk := manyB_le B k
      have hS := uptoB_succ B k
      have hM := manyB_succ B k
      have HOW := Lib.hid ho
      obtain ⟨c0, hmk'⟩ : ∃ c, c = manyB B k := ⟨_, rfl⟩
      obtain ⟨us, hus⟩ : ∃ l, l = uptoB B k := ⟨_, rfl⟩
      rw [← hmk'] at hmk hM HF
      rw [← hus] at hlen0 hS HF
      have HS := Lib.hid hS
      have HM := Lib.hid hM
      clear hF ho hfo hS hM hmk' hus
      unfold pgCells at q1
      obtain ⟨pg, hpg⟩ : ∃ p, p = B k := ⟨_, rfl⟩
      obtain ⟨vk, hvk⟩ : ∃ v, v = V k := ⟨_, rfl⟩
      rw [← hpg] at q1 ok HOK HOW
      rw [← hvk] at q1 HOW
      obtain ⟨A, c, rfl⟩ := HOW.out.sl_
      have HPG := Lib.hid hpg
      have hko : w.heap.size ≤ wr.heap.size := HF.out.le
      have KP := Lib.hid (Blk.new wr 61 #[.int .u64 pg.num, .int .i64 pg.e, .int .i64 pg.a, .slice A pg.gs.length c])
      by_cases hz : pg.num = 0
      · have hz' : (pg.num == 0) = true := by simpa using hz
        clear ok hpg hvk
        go_wp2
        go_roundg (8 - (k + 1))
        case measure => omega
        case rel =>
          refine ⟨k + 1, by omega, rfl, by go_num, ?_⟩
          rw [HM.out, HS.out, ← HPG.out]
          unfold partB
          rw [← HPG.out]
          simp only [hz, if_true, Nat.add_zero, List.append_nil]
          exact HF.out.alloc _
      · have hz' : (pg.num == 0) = false := by simpa using hz
        clear ok hpg hvk
        obtain ⟨g, cg, rfl, -, hgB, -⟩ := HF.out.own.one
        have hgl : g < wr.heap.size := HF.out.own.lt g (by simp [Value.ownBlock])
        have VG := Lib.hid (show Gots (wr.alloc (.cells #[.int .u64 pg.num, .int .i64 pg.e, .int .i64 pg.a, .slice A pg.gs.length c] 61)) (.slice A pg.gs.length c) pg.gs from
          Rd.below (Rd.below HOW.out.rd (HF.out.bel.mono (Nat.le_refl _))) (below_alloc_ _ _))
        have hrl := rB_len HOK.out
        have hn1 := HOK.out.lo
        have hn2 := HOK.out.hi
        have hfw := HOK.out.few
        go_wp2_with fail
        refine (Put_reply_anyC pg.e pg.a _ pg.gs HOK.out.e HOK.out.a HOK.out.gs _ VG.out (by omega)).mono ?_
        rintro e w2 ⟨rv, rfl, hr, hb2, -⟩
        rw [rB_R HOK.out] at hr ⊢
        simp only at hr ⊢
        have hko2 : wr.heap.size < w2.heap.size := Nat.lt_of_lt_of_le (by simp) hb2.size
        have G2 := Lib.hid ((HF.out.alloc (.cells #[.int .u64 pg.num, .int .i64 pg.e, .int .i64 pg.a, .slice A pg.gs.length c] 61)).below hb2)
        have K2 := Lib.hid (KP.out.below hb2 KP.out.lt)
        have R2 := Lib.hid (hr.le (B' := wr.heap.size + 1) (by simp))
        obtain ⟨Ar, cr, rfl, -⟩ := hr.clip
        obtain ⟨rl, hrle⟩ : ∃ n, n = (rB pg).length := ⟨_, rfl⟩
        rw [← hrle] at R2 hrl ⊢
        have HRL := Lib.hid hrle
        have hwl : IntKind.u64.wrap (rl : Int) = rl := by rw [show (rl : Int) = ((rl : Nat) : Int) from rfl]; exact IntWalk.u64_in _ (by omega)
        have hwk : IntKind.u8.wrap (IntKind.i64.wrap ((k : Int) + 1)) = (k : Int) + 1 := by rw [IntWalk.i64_in _ (by omega), IntWalk.u8_in _ (by omega)]
        have WL := Lib.hid hwl
        have WK := Lib.hid hwk
        clear hrle hwl hwk
        obtain ⟨m, hm0⟩ : ∃ m : Nat, (m : Int) = pg.num := ⟨pg.num.toNat, by omega⟩
        have hm64 : m < 18446744073709551616 := by omega
        have M0 := Lib.hid hm0
        rw [← hm0] at K2
        have HZ := Lib.hid hz
        clear hr hb2 KP VG hm0 hz hz' hn1 hn2
        have S1 := Lib.hid (show w2.drew.cell? ⟨wr.heap.size, 0, none⟩ = some (.int .u64 m) from (K2.out.cell 0).trans rfl)
        have S2 := Lib.hid (fun z : Int => show (w2.alloc (.cells #[.int .u8 z] 5)).drew.cell? ⟨wr.heap.size, 0, none⟩ = some (.int .u64 m) from ((K2.out.alloc (.cells #[.int .u8 z] 5)).cell 0).trans rfl)
        have KA := Lib.hid (fun z : Int => show Blk (w2.alloc (.cells #[.int .u8 z] 5)).drew wr.heap.size 61 _ from K2.out.alloc (.cells #[.int .u8 z] 5))
        have GA := Lib.hid (fun z : Int => show Bf w.heap.size w (w2.alloc (.cells #[.int .u8 z] 5)).drew _ _ from (G2.out.alloc (.cells #[.int .u8 z] 5)).drew)
        have LA := Lib.hid (fun z : Int => show Bs (w2.alloc (.cells #[.int .u8 z] 5)).drew _ [z] from Bs.lits w2 [z])
        have RA := Lib.hid (fun z : Int => show Bo (wr.heap.size + 1) (w2.alloc (.cells #[.int .u8 z] 5)).drew _ _ from R2.out.below (below_alloc_ w2 (.cells #[.int .u8 z] 5)).drew)
        go_wp2_with fail
        go_region_held_law (fun w' => w'.cell? ⟨wr.heap.size, 0, none⟩ = some (.int .u64 m)) (first
           | (with_reducible exact S3.out _ (hb4.trans (hb5.mono hb4.size)))
           | (with_reducible exact S3.out _ hb4)
           | (with_reducible exact S3.out _ (Below.refl _ _))
           | (with_reducible exact S2.out _)
           | (with_reducible exact S1.out)
           | fail)
          (first
           | (refine step_bf_bytes rfl _ _ 52 rfl Try.underlying52 rfl (GA.out _) (LA.out _) rfl (by simp only [List.length_cons, List.length_nil]; omega) ?_; intro v3 w3 hB3 hK3; have G3 := Lib.hid hB3; have hK4 : World.grownBy _ w3 (some g) := hK3.1; have K3 := Lib.hid ((KA.out _).grown hK4 (by simp; omega)); have R3 := Lib.hid (Ow.keep (RA.out _) hK4 (by omega)); have S3 := Lib.hid (fun Y (hb : Below w3.heap.size w3 Y) => ((K3.out.below hb K3.out.lt).cell 0).trans (show _ = some (Value.int .u64 m) from rfl)); clear hB3 hK3 hK4)
           | (go_simp; go_at_call 31; (try rw [WL.out]); refine (num_any v4 _ rl _ (by exact G4.out.own.bs) (by omega) (by simp only [List.length_append, List.length_cons, List.length_nil]; have := nb_ten hm64; omega)).mono ?_; rintro e w5 ⟨v5, rfl, ho5, hb5⟩; have G5 := Lib.hid (G4.out.next ho5 hb5); have Y5 := Lib.hid hb5)
           | (go_simp; go_at_call 31; refine (num_any v3 _ m _ (by exact G3.out.own.bs) hm64 (by simp only [List.length_append, List.length_cons, List.length_nil]; omega)).mono ?_; rintro e w4 ⟨v4, rfl, ho4, hb4⟩; have G4 := Lib.hid (G3.out.next ho4 hb4); have Y4 := Lib.hid hb4))
        have R5 := Lib.hid (show Bs w5 (.slice Ar rl cr) (rB pg) from ((R3.out.below hb4).below hb5).rd)
        rw [WK.out] at G5
        have hnm := nb_ten hm64
        have hnl := nb_ten (n := rl) (by omega)
        have hrl2 := HRL.out
        clear ho4 ho5 hb4 hb5 G3 K3 R3 S3 G4 Y4 Y5 KA GA LA RA S1 S2 K2 G2 R2
        have hc8 : (c0 : Int) ≤ 8 := by omega
        have hc0 : (0 : Int) ≤ c0 := by omega
        go_wp2_with (at_builtin; go_must (refine wpList_bf_bytesK rfl _ _ 52 rfl Try.underlying52 rfl G5.out R5.out rfl (by simp only [List.length_append, List.length_cons, List.length_nil]; omega) ?_); intro v6 w6 hB6 _; have G6 := Lib.hid hB6; obtain ⟨g6, c6, rfl, -, hgB6, hc6⟩ := Bo.one (show Bo _ _ _ ((c0 : Int) :: (us ++ [(k : Int) + 1] ++ nb m ++ nb rl ++ rB pg)) from hB6.own); obtain ⟨cs6, hk6⟩ := Bo.blk hB6.own; have f6 := hk6.free; clear hB6 hk6)
        go_roundg (8 - (k + 1))
        case measure => omega
        case rel =>
          refine ⟨k + 1, by omega, rfl, by go_num, ?_⟩
          rw [HM.out, HS.out, ← HPG.out]
          unfold partB
          rw [← HPG.out, if_neg HZ.out]
          have e1 : pg.num.toNat = m := by have := M0.out; omega
          unfold pB
          rw [e1, ← hrl2, if_neg HZ.out]
          refine ⟨?_, G6.out.bel.setCell hgB6 _, by have := G6.out.le; simpa using this⟩
          have := Bo.set0 (y := (c0 : Int) + 1) (show Bo _ _ _ ((c0 : Int) :: (us ++ [(k : Int) + 1] ++ nb m ++ nb rl ++ rB pg)) from G6.out.own)
          simpa only [List.append_assoc, List.cons_append, List.nil_append, Int.natCast_add, Int.natCast_one, List.length_append, List.length_cons, ← hrl2] using this
    · obtain rfl : k = 8 := by omega
      obtain ⟨A, c, rfl, hc, ho⟩ := hF.own.clip
      have HO := Lib.hid ho
      have HBE := Lib.hid hF.bel
      have hl := uptoB_len (fun i hi => (HV.out i hi).2.2) 8 (Nat.le_refl _)
      clear hF ho
      go_wp2_with fail
      refine (byt_clip _ _ _ _ hc (by simp only [List.length_cons]; omega)).mono ?_
      rintro e w' ⟨rfl, rfl⟩
      go_wp2
      go_ret
      exact ⟨_, rfl, HO.out, HBE.out⟩
end Go.Proofs.Ytcpiockmkpdkjaa
