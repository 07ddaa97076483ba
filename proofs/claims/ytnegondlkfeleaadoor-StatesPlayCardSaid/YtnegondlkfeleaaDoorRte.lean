/- Both disks side by side: Open, Lift, Fuse, Put, Set. -/
import Derived.Test.YtnegondlkfeleaaDoorRtd
namespace Go.Proofs.YtnegondlkfeleaaDoor
open Go.RowKit

theorem rlift_any (nm : ByteArray) (m : Nat) (s : Dst) (F : List Nat) (lv : Value) (ls : List Int) (w : World) (h : RDk w m nm s F) (hlv : Rd w 1 lv ls.length (lossC ls)) (hls : ∀ x ∈ ls, -9223372036854775808 ≤ x ∧ x ≤ 9223372036854775807) :
    Calls Tryd.prog 26 #[.pointer (some ⟨m, 0, none⟩), lv] w fun e w' => e = .returned (.tuple #[]) ∧ RTo w F m nm (liftS s ls) w' := by
  cases hf : s.file with
  | none => exact rlift_none nm m s F lv ls w h hlv hf
  | some q => exact rlift_file nm m s F lv ls q.1 q.2 w h hlv hls hf

/-- Open of a disk that has no promise. -/
theorem open_bad {X : List (Nat × Obj)} {B : Nat} {W w : World} {d : Nat} {s : Dst} {er : Int} (h : On X B W w d ⟨#[115, 116, 97, 116, 101]⟩ s) (he : (openS s).2.2 = er) (hne : ¬ er = 0) (TB : Tab W) (hB0 : 0 < B) :
    Calls Tryd.prog 21 #[.pointer (some ⟨d, 0, none⟩)] w fun e w' => e = .returned (.tuple #[.pointer none, .int .i64 er]) ∧ On X B W w' d ⟨#[115, 116, 97, 116, 101]⟩ s := by
  rcases readS_cases s with h17 | h7 | ⟨xs, su, hf, hr⟩
  · rw [openS_17 h17] at he
    simp only at he
    subst he
    obtain ⟨xs, hx⟩ : ∃ xs, readS s = (xs, 17) := ⟨(readS s).1, Prod.ext rfl h17⟩
    have H := Lib.hid h
    clear h h17 hne
    go_enter Tryd.func21, Tryd.ntmps21
    go_wp2_with fail
    refine (on_read xs 17 nm_state H.out hx).mono ?_
    rintro e w1 ⟨P1, Y1, rfl, s1, h1, b1⟩
    have O1 := Lib.hid (h1.mono (Y := X) (by intro p hp; exact List.mem_append_right _ hp))
    clear h1 b1 s1
    go_wp2
    go_ret2
    exact ⟨rfl, O1.out⟩
  · rw [openS_7 h7] at he
    exact absurd he.symm hne
  · cases hv : (readV xs).2.2 with
    | true => rw [openS_yes hr hv] at he; exact absurd he.symm hne
    | false =>
      rw [openS_no hr hv] at he
      simp only at he
      subst he
      have H := Lib.hid h
      have HF := Lib.hid (h.file hf)
      have HV := Lib.hid hv
      have TT := Lib.hid TB
      clear h hv TB hf hne
      go_enter Tryd.func21, Tryd.ntmps21
      go_wp2_with fail
      refine (on_read xs 0 nm_state H.out hr).mono ?_
      rintro e w1 ⟨P1, Y1, rfl, s1, h1, b1⟩
      have S1 := Lib.hid (h1.sl s1 (by intro p hp; exact List.mem_append_left _ hp))
      have O1 := Lib.hid (h1.mono (Y := X) (by intro p hp; exact List.mem_append_right _ hp))
      clear h1 b1 s1 hr
      go_wp2_with fail
      have q := sread_any _ xs w1 S1.out HF.out.1 (TT.out.bel hB0 O1.out.bel) (by have := HF.out.2; omega)
      rw [HV.out] at q
      refine q.mono ?_
      rintro e w2 ⟨rfl, b2⟩
      have O2 := Lib.hid ((O1.out.below b2).alloc (.cells #[.int .u64 (readV xs).1, .int .u8 (readV xs).2.1] 110))
      clear q b2
      go_wp2_with fail
      go_ret2
      exact ⟨rfl, O2.out⟩

section
variable {X : List (Nat × Obj)} {B : Nat} {W w : World} {d m : Nat} {sd sm : Dst}
theorem Both.sets {nm : ByteArray} {Y : List (Nat × Obj)} (h : Both X B W w d m nm sd sm) (h' : ∀ p ∈ Y, p ∈ X) : Both Y B W w d m nm sd sm := h.mono h'
theorem bopen_ok {t v : Nat} (h : Both X B W w d m ⟨#[115, 116, 97, 116, 101]⟩ sd sm) (he : openS sd = (t, v, 0)) (TB : Tab W) (hB0 : 0 < B) :
    Calls Tryd.prog 21 #[.pointer (some ⟨d, 0, none⟩)] w fun e w' => ∃ p, e = .returned (.tuple #[.pointer (some ⟨p, 0, none⟩), .int .i64 0]) ∧ Both ((p, prO t v d false) :: X) B W w' d m ⟨#[115, 116, 97, 116, 101]⟩ sd sm ∧ w.heap.size ≤ p := by
  obtain ⟨R, h1, h2, h3, h4⟩ := h
  refine (open_ok h4 he TB hB0).mono ?_
  rintro e w' ⟨p, rfl, ho, hp⟩
  refine ⟨p, rfl, ⟨R, h1, h2, fun q hq hr => ?_, ho.mono fun q hq => ?_⟩, hp⟩
  · rcases List.mem_cons.1 hq with rfl | hq
    · obtain ⟨r, hr', e⟩ := List.mem_map.1 hr
      have := lt_of_heap (h4.keep r (List.mem_append_left _ hr'))
      simp at e
      omega
    · exact h3 q hq hr
  · rcases List.mem_append.1 hq with hq | hq
    · simp [hq]
    · rcases List.mem_cons.1 hq with rfl | hq <;> simp [*]
theorem bopen_bad {er : Int} (h : Both X B W w d m ⟨#[115, 116, 97, 116, 101]⟩ sd sm) (he : (openS sd).2.2 = er) (hne : ¬ er = 0) (TB : Tab W) (hB0 : 0 < B) :
    Calls Tryd.prog 21 #[.pointer (some ⟨d, 0, none⟩)] w fun e w' => e = .returned (.tuple #[.pointer none, .int .i64 er]) ∧ Both X B W w' d m ⟨#[115, 116, 97, 116, 101]⟩ sd sm :=
  h.conc fun _ ho => open_bad ho he hne TB hB0
theorem bropen_ok {t v : Nat} (h : Both X B W w d m ⟨#[115, 116, 97, 116, 101]⟩ sd sm) (he : openS sm = (t, v, 0)) :
    Calls Tryd.prog 22 #[.pointer (some ⟨m, 0, none⟩)] w fun e w' => ∃ q, e = .returned (.tuple #[.pointer (some ⟨q, 0, none⟩), .int .i64 0]) ∧ Both ((q, .cells (rpI m t v false) 81 (0, 0)) :: X) B W w' d m ⟨#[115, 116, 97, 116, 101]⟩ sd sm ∧ w.heap.size ≤ q := by
  obtain ⟨R, hr, -⟩ := h.rdk
  have := ropen_any m sm _ w hr
  rw [he] at this
  refine this.mono ?_
  rintro e w' ⟨hb, ⟨-, q, rfl, hq, hk⟩ | ⟨h0, -⟩⟩
  · exact ⟨q, rfl, h.put hb hq hk, hq⟩
  · exact absurd rfl h0
theorem bropen_bad {er : Int} (h : Both X B W w d m ⟨#[115, 116, 97, 116, 101]⟩ sd sm) (he : (openS sm).2.2 = er) (hne : ¬ er = 0) :
    Calls Tryd.prog 22 #[.pointer (some ⟨m, 0, none⟩)] w fun e w' => e = .returned (.tuple #[.pointer none, .int .i64 er]) ∧ Both X B W w' d m ⟨#[115, 116, 97, 116, 101]⟩ sd sm := by
  obtain ⟨R, hr, -⟩ := h.rdk
  refine (ropen_any m sm _ w hr).mono ?_
  rintro e w' ⟨hb, ⟨h0, -⟩ | ⟨h0, rfl⟩⟩
  · exact absurd (he.symm.trans h0) hne
  · rw [he]; exact ⟨rfl, h.below hb⟩
variable {nm : ByteArray}
/-- A doing of the document's disk. -/
theorem Both.docs {P : Program} {f : FuncId} {args : Array Value} {e0 : Value} {sm' : Dst} (h : Both X B W w d m nm sd sm)
    (hc : ∀ F, RDk w m nm sm F → Calls P f args w fun e w' => e = .returned e0 ∧ RTo w F m nm sm' w') : Calls P f args w fun e w' => e = .returned e0 ∧ Both X B W w' d m nm sd sm' := by
  obtain ⟨R, hr, h2, h3, -, h4⟩ := h.rdk
  exact (hc _ hr).mono fun e w' ⟨he, t⟩ => ⟨he, Both.over h2 h3 h4 t⟩
theorem bfuse (n : Int) (hn : n ≤ 9223372036854775807) (h : Both X B W w d m nm sd sm) :
    Calls Tryd.prog 23 #[.pointer (some ⟨d, 0, none⟩), .int .i64 n] w fun e w' => e = .returned (.tuple #[]) ∧ Both X B W w' d m nm { sd with fuse := max 0 n } sm := h.conc fun _ ho => on_fuse n hn ho
theorem brfuse (n : Int) (hn : n ≤ 9223372036854775807) (h : Both X B W w d m nm sd sm) :
    Calls Tryd.prog 24 #[.pointer (some ⟨m, 0, none⟩), .int .i64 n] w fun e w' => e = .returned (.tuple #[]) ∧ Both X B W w' d m nm sd { sm with fuse := max 0 n } :=
  h.docs fun F hr => (rfuse_any nm m sm F n w hr hn).mono fun e w' ⟨he, h1, k1⟩ => ⟨he, hr.to h1 k1⟩
theorem blift (lv : Value) (ls : List Int) (hls : ∀ x ∈ ls, -9223372036854775808 ≤ x ∧ x ≤ 9223372036854775807) (h : Both X B W w d m nm sd sm) (hlv : Rd w 1 lv ls.length (lossC ls)) :
    Calls Tryd.prog 25 #[.pointer (some ⟨d, 0, none⟩), lv] w fun e w' => e = .returned (.tuple #[]) ∧ Both X B W w' d m nm (liftS sd ls) sm := h.conc fun _ ho => on_lift _ lv ls hls ho hlv rfl
theorem brlift (lv : Value) (ls : List Int) (hls : ∀ x ∈ ls, -9223372036854775808 ≤ x ∧ x ≤ 9223372036854775807) (h : Both X B W w d m nm sd sm) (hlv : Rd w 1 lv ls.length (lossC ls)) :
    Calls Tryd.prog 26 #[.pointer (some ⟨m, 0, none⟩), lv] w fun e w' => e = .returned (.tuple #[]) ∧ Both X B W w' d m nm sd (liftS sm ls) := h.docs fun F hr => rlift_any nm m sm F lv ls w hr hlv hls
theorem bput (s' : Dst) (r : Int) (hn : Nm nm) (bv : Value) (bs : List Int) (hby : ∀ c ∈ bs, byt c) (hlb : bs.length ≤ 4611686018427387904) (h : Both X B W w d m nm sd sm) (hbs : Bs w bv bs)
    (he : doesS sd bs.length true (fun _ => some (bs, bs.length)) = (s', r)) :
    Calls Tryd.prog 27 #[.pointer (some ⟨d, 0, none⟩), .string nm, bv] w fun e w' => e = .returned (.int .i64 r) ∧ Both X B W w' d m nm s' sm := h.conc fun _ ho => on_put s' r hn bv bs hby hlb ho hbs he
/-- A slice that reads bytes does not lie in the document's disk. -/
theorem RDk.off {w : World} {m : Nat} {s : Dst} {F : List Nat} (h : RDk w m nm s F) {v : Value} {xs : List Int} (hs : Bs w v xs) : xs.length = 0 ∨ ∀ k, v.ownBlock = some k → k ∉ [m] := by
  have hL : ∃ A n c, Blk w m 68 (rm s (.slice A n c)) := by
    rcases h.ex with ⟨_, h, _⟩ | ⟨_, _, _, _, _, _, _, h, _⟩
    · exact ⟨_, _, _, h⟩
    · exact ⟨_, _, _, h⟩
  obtain ⟨A, n, c, hL⟩ := hL
  rcases Bs.off hL (fun j c => by
    match j with
    | 0 => simp [rm]
    | 1 => simp [rm]
    | 2 => simp [rm]
    | 3 => simp [rm]
    | j + 4 => simp [rm]) hs with h | h
  · exact .inl h
  · exact .inr fun k hk => by simpa using h k hk
theorem brput (s' : Dst) (r : Int) (hn : 1 ≤ nm.size ∧ nm.size ≤ 16) (bv : Value) (bs : List Int) (hby : ∀ c ∈ bs, byt c) (hlb : bs.length ≤ 4611686018427387904) (h : Both X B W w d m nm sd sm) (hbs : Bs w bv bs)
    (he : doesS sm bs.length true (fun _ => some (bs, bs.length)) = (s', r)) :
    Calls Tryd.prog 28 #[.pointer (some ⟨m, 0, none⟩), .string nm, bv] w fun e w' => e = .returned (.int .i64 r) ∧ Both X B W w' d m nm sd s' :=
  h.docs fun F hr => by
    have := rput_any nm hn m sm F bv bs w hr hbs (hr.off hbs) hby hlb
    rw [he] at this
    exact this
end
/-- The promise and the document's, which are alike, go over. -/
theorem bset {X : List (Nat × Obj)} {B : Nat} {W w : World} {d m p : Nat} {t v : Int} {lost : Bool} {sd sm : Dst} (T V : Nat) (h : Both ((p, prO t v d lost) :: X) B W w d m ⟨#[115, 116, 97, 116, 101]⟩ sd sm)
    (hX : ∀ q ∈ X, q.1 ≠ p) (hB : B ≤ p) (hB0 : 0 < B) (TB : Tab W) (hT : T < 18446744073709551616) (hV : V < 256) (r : Int) (t' v' : Int) (lost' : Bool) (sd' : Dst) (he : setS t v lost sd T V = (r, t', v', lost', sd')) :
    Calls Tryd.prog 29 #[.pointer (some ⟨p, 0, none⟩), .int .u64 T, .int .u8 V] w fun e w' => e = .returned (.int .i64 r) ∧ Both ((p, prO t' v' d lost') :: X) B W w' d m ⟨#[115, 116, 97, 116, 101]⟩ sd' sm := by
  obtain ⟨R, h1, h2, h3, h4⟩ := h
  have hp : p ∉ R.map (·.1) := h3 (p, prO t v d lost) (by simp)
  have h5 : On ((p, prO t v d lost) :: (R ++ X)) B W w d ⟨#[115, 116, 97, 116, 101]⟩ sd := h4.mono fun q hq => by
    rcases List.mem_cons.1 hq with rfl | hq
    · simp
    · rcases List.mem_append.1 hq with hq | hq <;> simp [hq]
  have h6 := set_any T V h5 (fun q hq e => by
    rcases List.mem_append.1 hq with hq | hq
    · exact hp (e ▸ List.mem_map_of_mem hq)
    · exact hX q hq e) hB hB0 TB hT hV
  rw [he] at h6
  refine h6.mono ?_
  rintro e w' ⟨rfl, ho⟩
  refine ⟨rfl, R, h1, h2, fun q hq => ?_, ho.mono fun q hq => ?_⟩
  · rcases List.mem_cons.1 hq with rfl | hq
    · exact hp
    · exact h3 q (by simp [hq])
  · rcases List.mem_append.1 hq with hq | hq
    · simp [hq]
    · rcases List.mem_cons.1 hq with rfl | hq <;> simp [*]
theorem brset {X : List (Nat × Obj)} {B : Nat} {W w : World} {d m q : Nat} {t v : Int} {lost : Bool} {sd sm : Dst} (T V : Nat) (h : Both ((q, .cells (rpI m t v lost) 81 (0, 0)) :: X) B W w d m ⟨#[115, 116, 97, 116, 101]⟩ sd sm)
    (hX : ∀ p ∈ X, p.1 ≠ q) (hB : B ≤ q) (hT : T < 18446744073709551616) (hV : V < 256) (r : Int) (t' v' : Int) (lost' : Bool) (sm' : Dst) (he : setS t v lost sm T V = (r, t', v', lost', sm')) :
    Calls Tryd.prog 30 #[.pointer (some ⟨q, 0, none⟩), .int .u64 T, .int .u8 V] w fun e w' => e = .returned (.int .i64 r) ∧ Both ((q, .cells (rpI m t' v' lost') 81 (0, 0)) :: X) B W w' d m ⟨#[115, 116, 97, 116, 101]⟩ sd sm' := by
  obtain ⟨R, hr, h2, h3, h4, h5⟩ := h.rdk
  have := rpset_any q m t v lost T V sm _ w (h.keep (q, .cells (rpI m t v lost) 81 (0, 0)) (List.mem_cons_self ..)) hr (h3 (q, .cells (rpI m t v lost) 81 (0, 0)) (List.mem_cons_self ..)) hT hV
  rw [he] at this
  refine this.mono ?_
  rintro e w' ⟨rfl, w1, t1, k1, hk⟩
  exact ⟨rfl, (Both.over h2 h3 h5 t1).turn k1 hk hX hB⟩
end Go.Proofs.YtnegondlkfeleaaDoor
