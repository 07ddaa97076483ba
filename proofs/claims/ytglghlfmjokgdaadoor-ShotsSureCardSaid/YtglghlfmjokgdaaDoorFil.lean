/- shots: a shot's file. -/
import Derived.Test.YtglghlfmjokgdaaDoorChk
import Derived.Test.YtglghlfmjokgdaaDoorOwn
import Derived.Deep.CutRange
namespace Go.Proofs.YtglghlfmjokgdaaDoor
open Go.RowKit Go.Shelf
attribute [local go_sem] Oper.semAt_some

theorem chunk_seq (n : Nat) (hn : 1 ≤ n) (Bs Bn rb g o c : Nat) (A : Option Addr) (xs : List Int) (hl : xs.length ≤ 70368744177664) (hcx : xs.length ≤ c) (hA : 0 < xs.length → A = some ⟨g, o, none⟩) (w : World)
    (hBs : Blk w Bs 23 #[.slice A xs.length c]) (hBn : Blk w Bn 3 #[.int .i64 4096]) (hb : Bs ≠ rb) (hbn : Bn ≠ rb) :
    SeqW n Tryd.prog 107 #[.pointer (some ⟨Bs, 0, none⟩), .pointer (some ⟨Bn, 0, none⟩)] (prV g o xs) (KpC rb) (fun ys _ => ys = List.range (parts xs)) (fun _ _ => True) (parts xs) w := by
  intro l J Jx W hW hJ _ hY h0
  exact chunk1_in n hn l Bs Bn rb g o c A xs hl hcx hA J Jx W hJ hY (hBs.below hW hBs.lt) (hBn.below hW hBn.lt) hb hbn h0

/-- The file's bytes behind these parts. -/
def fileL (T V : Nat) (xs : List Int) (pre : List Nat) : List Int := framesB ((nb T ++ nb V) :: pre.map (part xs))
theorem fileL_nil (T V : Nat) (xs : List Int) : fileL T V xs [] = frameB (nb T ++ nb V) := by
  show frameB _ ++ [] = _
  rw [List.append_nil]
theorem fileL_snoc (T V : Nat) (xs : List Int) (pre : List Nat) (x : Nat) : fileL T V xs (pre ++ [x]) = fileL T V xs pre ++ frameB (part xs x) := by
  simp [fileL, framesB]
theorem fileL_range (T V : Nat) (xs : List Int) (k : Nat) : fileL T V xs (List.range k) = fileK T V xs k := (fileK_frames T V xs k).symm
theorem fileL_len (T V : Nat) (xs : List Int) (hT : T < 18446744073709551616) (hV : V < 18446744073709551616) : ∀ (k : Nat) (pre : List Nat), pre.length = k → (fileL T V xs pre).length ≤ 34 + 4110 * k := by
  intro k
  induction k with
  | zero =>
    intro pre h
    obtain rfl := List.eq_nil_of_length_eq_zero h
    rw [fileL_nil]
    exact fileK_len T V xs hT hV 0
  | succ k ih =>
    intro pre h
    have hne : pre ≠ [] := by intro e; subst e; cases h
    obtain ⟨p, x, rfl⟩ : ∃ p x, pre = p ++ [x] := ⟨pre.dropLast, pre.getLast hne, (List.dropLast_concat_getLast hne).symm⟩
    have h1 := ih p (by simpa using h)
    have h2 : (part xs x).length ≤ 4096 := by rw [part_len]; omega
    have h3 := nb_ten (n := (part xs x).length) (by omega)
    rw [fileL_snoc, List.length_append, frameB_len]
    omega
/-- The file behind these parts, in the box rb. -/
def FilI (w0 : World) (rb : Nat) (T V : Nat) (xs : List Int) (pre : List Nat) (W : World) : Prop :=
  ∃ A n c, Blk W rb 23 #[.slice A n c] ∧ Bo w0.heap.size W (.slice A n c) (fileL T V xs pre) ∧ Below w0.heap.size w0 W
def FilS (w0 : World) (T V : Nat) (v : Value) (xs : List Int) (s3 : Value) (W : World) : Prop :=
  ∃ rb, s3 = .pointer (some ⟨rb, 0, none⟩) ∧ w0.heap.size < rb ∧ FilI w0 rb T V xs [] W ∧ Blk W w0.heap.size 25 #[.int .u64 T, .int .u64 V, v]
theorem bch {a b c : World} (h : Below a.heap.size a b) (k : Below b.heap.size b c) : Below a.heap.size a c := h.trans (k.mono h.size)
theorem fil_finD {w X0 : World} {T V : Nat} {v : Value} {xs : List Int} {A : Option Addr} {n c B : Nat} (hX : Below w.heap.size w X0) (hXp : w.heap.size < X0.heap.size) (hp : Blk X0 w.heap.size 25 #[.int .u64 T, .int .u64 V, v])
    (hB : w.heap.size ≤ B) (h3 : Bo B X0 (.slice A n c) (fileL T V xs [])) :
    FilS w T V v xs (.pointer (some ⟨X0.heap.size, 0, none⟩)) (X0.alloc (.cells #[.slice A n c] 23)) :=
  ⟨_, rfl, hXp, ⟨A, n, c, Blk.new X0 23 _, (Bo.le h3 hB).below (below_alloc_ _ _), hX.trans ((below_alloc_ X0 _).mono hX.size)⟩, hp.alloc _⟩
/-- Two cells, kept. -/
theorem keep2 {X Y : World} {p q : Addr} {a b : Value} (h : X.cell? p = some a ∧ X.cell? q = some b) (hb : Below X.heap.size X Y) : Y.cell? p = some a ∧ Y.cell? q = some b :=
  ⟨(hb.cell (block_lt_of_cell h.1)).trans h.1, (hb.cell (block_lt_of_cell h.2)).trans h.2⟩
theorem keep2s {X0 X : World} {p q : Addr} {a b v : Value} (h0 : X0.cell? p = some a ∧ X0.cell? q = some b) (h : X.cell? p = some a ∧ X.cell? q = some b) :
    (X.setCell ⟨X0.heap.size, 0, none⟩ v).cell? p = some a ∧ (X.setCell ⟨X0.heap.size, 0, none⟩ v).cell? q = some b := by
  have h1 := block_lt_of_cell h0.1
  have h2 := block_lt_of_cell h0.2
  exact ⟨(World.cell?_setCell_far _ _ _ _ (by simp; omega)).trans h.1, (World.cell?_setCell_far _ _ _ _ (by simp; omega)).trans h.2⟩
theorem fil_fin {w X0 Z : World} {T V : Nat} {v : Value} {xs : List Int} {A : Option Addr} {n c B : Nat} {o : Obj} {u : Value} (hX : Below w.heap.size w X0) (hXp : w.heap.size < X0.heap.size) (hp : Blk X0 w.heap.size 25 #[.int .u64 T, .int .u64 V, v])
    (ho : o = .cells #[u] 23) (hZ : Below (X0.alloc o).heap.size (X0.alloc o) Z) (hB : w.heap.size ≤ B) (h3 : Bo B Z (.slice A n c) (fileL T V xs [])) :
    FilS w T V v xs (.pointer (some ⟨X0.heap.size, 0, none⟩)) (Z.setCell ⟨X0.heap.size, 0, none⟩ (.slice A n c)) := by
  subst ho
  have k := (Blk.new X0 23 #[u]).below hZ (by simp)
  have bz : Below w.heap.size w Z := (hX.trans ((below_alloc_ X0 _).mono hX.size)).trans (hZ.mono (by simp; have := hX.size; omega))
  refine ⟨_, rfl, hXp, ⟨A, n, c, k.set_ 0 _, ?_, bz.setCell (p := ⟨X0.heap.size, 0, none⟩) hX.size _⟩, ?_⟩
  · exact (Ow.aside (Ow.le h3 hB) k (by decide) 0 _)
  · exact ((hp.alloc _).below hZ (by simp; omega)).far (by simp; omega) _
theorem part_bs {w : World} {g o c : Nat} {A : Option Addr} {xs : List Int} (h : Bs w (.slice A xs.length c) xs) (hA : 0 < xs.length → A = some ⟨g, o, none⟩) (x : Nat) :
    Bs w (.slice (some ⟨g, o + 4096 * x, none⟩) (part xs x).length (part xs x).length) (part xs x) := by
  obtain ⟨A', c', hv, -, -, hh⟩ := h
  cases hv
  refine ⟨_, _, rfl, Nat.le_refl _, by simp [bc], ?_⟩
  by_cases h0 : (part xs x).length = 0
  · exact .inl h0
  · have hl : 4096 * x < xs.length := by rw [part_len] at h0; omega
    rcases hh with hh | ⟨g', o', e, hg, hc⟩
    · omega
    · rw [hA (by omega)] at e
      cases e
      refine .inr ⟨g, _, rfl, hg, fun j u hu => ?_⟩
      rw [Nat.add_assoc]
      refine hc _ u ?_
      unfold part bc at hu
      unfold bc
      rw [List.getElem?_map, List.getElem?_take] at hu
      rw [List.getElem?_map]
      split at hu
      · rw [List.getElem?_drop] at hu
        exact hu
      · cases hu
theorem fil_own {w0 : World} {rb B : Nat} {T V : Nat} {xs : List Int} (hB : w0.heap.size ≤ B) : OwnFrom B (fun (pre : List Nat) W => FilI w0 rb T V xs pre W) := by
  rintro s W W' row ⟨A, n, c, k, h, b⟩ hg hr
  have ne : ∀ {g t : Nat} {cs : Array Value}, Blk W g t cs → some g ≠ row := fun hk e => by
    obtain ⟨_, o, ho, hc⟩ := hr _ e.symm
    unfold Blk at hk
    rw [hk] at ho
    cases ho
    cases hc
  refine ⟨A, n, c, k.grown hg (ne k), ?_, b.grown hg b.size (fun j e => Nat.le_trans hB (hr j e).1)⟩
  rcases h with h | ⟨g, c', cur, hv, hBg, hk, hh⟩
  · exact .inl h
  · exact .inr ⟨g, c', cur, hv, hBg, hk.grown hg (ne hk), hh⟩
set_option maxRecDepth 100000 in
set_option maxHeartbeats 4000000 in
theorem file_any (T V : Nat) (v : Value) (xs : List Int) (w : World) (h : Bs w v xs) (hby : ∀ c ∈ xs, byt c) (TB : Tab w) (hT : T < 18446744073709551616) (hV : V < 18446744073709551616) (hl : xs.length ≤ 1000000) :
    Calls Tryd.prog 43 #[.agg #[.int .u64 T, .int .u64 V, v]] w fun e w' => ∃ v', e = .returned v' ∧ Bo w.heap.size w' v' (shotB T V xs) ∧ Below w.heap.size w w' := by
  have hmix : Tryd.prog.follows .mixedOrders = true := by kernel_rfl
  have k0 := Blk.new w 25 #[.int .u64 T, .int .u64 V, v]
  have B0 := Lib.hid (below_alloc_ w (.cells #[.int .u64 T, .int .u64 V, v] 25))
  have H := Lib.hid h
  have BY := Lib.hid hby
  have TT := Lib.hid TB
  obtain ⟨A0, q0, hv, hq0, -, hA0⟩ := id h
  have HV := Lib.hid hv
  clear hv
  have c0 : (w.alloc (.cells #[.int .u64 T, .int .u64 V, v] 25)).cell? ⟨w.heap.size, 0, none⟩ = some (.int .u64 T) := k0.cell 0
  have c1 : (w.alloc (.cells #[.int .u64 T, .int .u64 V, v] 25)).cell? ⟨w.heap.size, 1, none⟩ = some (.int .u64 V) := k0.cell 1
  have K0 := Lib.hid k0
  have hz : (w.alloc (.cells #[.int .u64 T, .int .u64 V, v] 25)).heap.size = w.heap.size + 1 := by simp
  clear h hby TB k0
  refine (callsIn_wide (n := 5)).1 (callsIn_of_wp_marks Tryd.func43 rfl trivial ?_ rfl)
  simp only [Tryd.ntmps43, List.size_toArray, List.length_cons, List.length_nil, Nat.reduceAdd, Nat.reduceSub, Array.replicate_succ, Array.replicate_zero, List.push_toArray, List.append_toArray, List.nil_append, List.cons_append]
  refine wpIn_wide.2 ?_
  go_upto_region 1 with fail
  go_cut [3, 4] from 6 to 15 (fun s3 s4 wx => s4 = .int .i64 0 ∧ FilS w T V v xs s3 wx)
  case first =>
    have hp : w.heap.size < (w.alloc (.cells #[.int .u64 T, .int .u64 V, v] 25)).heap.size := by simp
    clear hz
    generalize w.alloc (.cells #[.int .u64 T, .int .u64 V, v] 25) = w0 at *
    have hbb : ∀ c ∈ (([] ++ nb T) ++ nb V), byt c := by
      intro c hc
      rw [List.nil_append] at hc
      rcases List.mem_append.1 hc with hc | hc <;> exact nb_byt _ c hc
    have BB := Lib.hid hbb
    have hbl : (([] ++ nb T) ++ nb V).length ≤ 20 := by have := nb_ten hT; have := nb_ten hV; simp only [List.length_append, List.length_nil]; omega
    have BL := Lib.hid hbl
    clear hbb hbl
    have BD := Lib.hid (show Below w.heap.size w w0.drew from bch B0.out ((Below.refl _ w0).drew))
    have KD := Lib.hid (show Blk w0.drew w.heap.size 25 #[.int .u64 T, .int .u64 V, v] from K0.out.drew)
    go_region_held3 (fun w' => w'.cell? ⟨w.heap.size, 0, none⟩ = some (.int .u64 T) ∧ w'.cell? ⟨w.heap.size, 1, none⟩ = some (.int .u64 V)) (first
      | exact keep2 (by assumption) b3
      | exact keep2 (by assumption) b2
      | exact keep2 (by assumption) b1
      | exact ⟨c0, c1⟩
      | exact keep2 (by assumption) (below_alloc_ _ _)
      | exact keep2 (keep2 (keep2 (keep2 (X := w0.drew) ⟨c0, c1⟩ b1) b2) b3) (below_alloc_ _ _)
      | exact keep2s (X0 := w0.drew) ⟨c0, c1⟩ (by assumption)
      | exact keep2s (keep2 (X := w0.drew) ⟨c0, c1⟩ b1) (by assumption)
      | exact keep2s (keep2 (keep2 (X := w0.drew) ⟨c0, c1⟩ b1) b2) (by assumption)
      | fail)
      (first
      | (go_at_call 70; refine (fput_any (.slice none 0 0) _ [] _ _ (Bo.nil_ 0 _).bs h2.bs BB.out (TT.out.below (by first | exact bch BD.out (bch b1 b2) | exact bch BD.out (bch (bch b1 b2) (below_alloc_ _ _)) | exact bch BD.out (bch b1 (bch (below_alloc_ _ _) b2)) | exact bch B0.out (bch (below_alloc_ w0 _) (bch ((Below.refl _ _).drew) (bch b1 b2))))) (by simp) (by have := BL.out; omega)).mono ?_; rintro e w3 ⟨v3, rfl, h3, b3⟩; obtain ⟨A3, n3, c3, rfl⟩ := h3.sl; replace h3 : Bo _ w3 (.slice A3 n3 c3) (fileL T V xs []) := (by simpa [fileL_nil] using h3); first | (have kC := kB.below b3 kB.lt; have ce := kC.cell 0; have cf := kC.free 0; simp at ce) | (have kC : Blk w3 w2.heap.size 23 #[.slice none 0 0] := (Blk.new w2 23 #[.slice none 0 0]).below b3 (by simp); have ce := kC.cell 0; have cf := kC.free 0; simp at ce) | skip)
      | (go_at_call 70; refine (fput_any (.slice none 0 0) _ [] _ _ (Bo.nil_ 0 _).bs (h2.bs.below (below_alloc_ _ _)) BB.out (TT.out.below (by first | exact bch BD.out (bch b1 b2) | exact bch BD.out (bch (bch b1 b2) (below_alloc_ _ _)) | exact bch BD.out (bch b1 (bch (below_alloc_ _ _) b2)) | exact bch B0.out (bch (below_alloc_ w0 _) (bch ((Below.refl _ _).drew) (bch b1 b2))))) (by simp) (by have := BL.out; omega)).mono ?_; rintro e w3 ⟨v3, rfl, h3, b3⟩; obtain ⟨A3, n3, c3, rfl⟩ := h3.sl; replace h3 : Bo _ w3 (.slice A3 n3 c3) (fileL T V xs []) := (by simpa [fileL_nil] using h3); first | (have kC := kB.below b3 kB.lt; have ce := kC.cell 0; have cf := kC.free 0; simp at ce) | (have kC : Blk w3 w2.heap.size 23 #[.slice none 0 0] := (Blk.new w2 23 #[.slice none 0 0]).below b3 (by simp); have ce := kC.cell 0; have cf := kC.free 0; simp at ce) | skip)
      | (go_at_call 71; refine (num_any _ _ V _ h1.bs hV (by have := nb_ten hT; simp; omega)).mono ?_; rintro e w2 ⟨v2, rfl, h2, b2⟩; first | (have kB := kA.below b2 kA.lt) | (have kB : Blk w2 w1.heap.size 23 #[.slice none 0 0] := (Blk.new w1 23 #[.slice none 0 0]).below b2 (by simp)) | skip)
      | (go_at_call 71; refine (num_any _ _ V _ (h1.bs.below (below_alloc_ _ _)) hV (by have := nb_ten hT; simp; omega)).mono ?_; rintro e w2 ⟨v2, rfl, h2, b2⟩; first | (have kB := kA.below b2 kA.lt) | (have kB : Blk w2 w1.heap.size 23 #[.slice none 0 0] := (Blk.new w1 23 #[.slice none 0 0]).below b2 (by simp)) | skip)
      | (go_at_call 71; refine (num_any (.slice none 0 0) [] T _ (Bo.nil_ 0 _).bs hT (by simp)).mono ?_; rintro e w1 ⟨v1, rfl, h1, b1⟩; first | (have kA : Blk w1 w0.heap.size 23 #[.slice none 0 0] := (Blk.new w0.drew 23 #[.slice none 0 0]).below b1 (by simp)) | skip))
    · go_wp2
      go_meet
      refine ⟨rfl, fil_finD (bch BD.out (bch b1 (bch b2 b3))) ?_ (KD.out.below (bch b1 (bch b2 b3)) KD.out.lt) (B := w2.heap.size) ?_ h3⟩
      · have := b1.size; have := b2.size; have := b3.size; have : w.heap.size < w0.drew.heap.size := hp; omega
      · have := b1.size; have := b2.size; have : w.heap.size < w0.drew.heap.size := hp; omega
    · go_wp2
      go_meet
      refine ⟨rfl, fil_fin (X0 := w2) (bch BD.out (bch b1 b2)) ?_ (KD.out.below (bch b1 b2) KD.out.lt) rfl b3 (B := w2.heap.size + 1) ?_ h3⟩
      · have := b1.size; have := b2.size; have : w.heap.size < w0.drew.heap.size := hp; omega
      · have := b1.size; have := b2.size; have : w.heap.size < w0.drew.heap.size := hp; omega
    · go_wp2
      go_meet
      refine ⟨rfl, fil_fin (X0 := w1) (bch BD.out b1) ?_ (KD.out.below b1 KD.out.lt) rfl (bch b2 b3) (B := w2.heap.size) ?_ h3⟩
      · have := b1.size; have : w.heap.size < w0.drew.heap.size := hp; omega
      · have := b1.size; have := b2.size; simp at this; have : w.heap.size < w0.drew.heap.size := hp; omega
    · go_wp2
      go_meet
      refine ⟨rfl, fil_fin (X0 := w0) B0.out hp K0.out rfl (bch ((Below.refl _ _).drew) (bch b1 (bch b2 b3))) (B := w2.heap.size) ?_ h3⟩
      · have h1 := b1.size; have h2 := b2.size; have h0 : w0.heap.size + 1 ≤ w1.heap.size := (by simpa using h1); omega
  case rest =>
    obtain ⟨rfl, rb, rfl, hrb, hI, hKS⟩ := hcut
    have FI := Lib.hid hI
    have c2 : wc.cell? ⟨w.heap.size, 2, none⟩ = some v := by have := hKS.cell 2; simpa using this
    rw [HV.out] at c2 H
    have BW := Lib.hid (show Below w.heap.size w wc from by obtain ⟨_, _, _, _, _, h⟩ := hI; exact h)
    have RL := Lib.hid (show rb < wc.heap.size from by obtain ⟨_, _, _, h, _⟩ := hI; exact h.lt)
    obtain ⟨gd, od, hAd⟩ : ∃ g o, 0 < xs.length → A0 = some ⟨g, o, none⟩ := by
      rcases hA0 with h0 | ⟨g, o, hA, _⟩
      · exact ⟨0, 0, fun h => by omega⟩
      · exact ⟨g, o, fun _ => hA⟩
    clear hI hKS hA0
    have hL := Lib.hid hl
    go_wp2_with fail
    refine (chunk_any A0 xs.length q0 wc).mono ?_
    rintro e w' ⟨rfl, rfl⟩
    have KQ := Lib.hid ((Blk.new wc 23 #[.slice A0 xs.length q0]).alloc (.cells #[.int .i64 4096] 3))
    have KN := Lib.hid (show Blk ((wc.alloc (.cells #[.slice A0 xs.length q0] 23)).alloc (.cells #[.int .i64 4096] 3)) (wc.heap.size + 1) 3 #[.int .i64 4096] from by have := Blk.new (wc.alloc (.cells #[.slice A0 xs.length q0] 23)) 3 #[.int .i64 4096]; simpa using this)
    have B2 := Lib.hid (below_alloc2_ wc (.cells #[.slice A0 xs.length q0] 23) (.cells #[.int .i64 4096] 3))
    go_wp2_with fail
    refine (wpIn_wide (n := 5)).1 ?_
    refine wp_rangeW (n := 5) (by omega) (gf := 107) (lb := #[.pointer (some ⟨wc.heap.size, 0, none⟩), .pointer (some ⟨wc.heap.size + 1, 0, none⟩)]) rfl (enters_of Tryd.func107 (by kernel_rfl) rfl)
      (chunk_seq 4 (by omega) wc.heap.size (wc.heap.size + 1) rb gd od q0 A0 xs (by have := hL.out; omega) hq0 hAd _ KQ.out KN.out (by have := RL.out; omega) (by have := RL.out; omega))
      KpC.trans (fun W l o o' _ hl hc _ => KpC.put W l o o' hl hc) (Below.refl _ _) (fun _ => rfl)
      (fun pre W => FilI w rb T V xs pre W) (fil_own (by have := BW.out.size; have := B2.out.size; omega)) (fun _ _ _ _ hs _ _ => hs)
      (by obtain ⟨A, n, c, h1, h2, h3⟩ := FI.out; exact ⟨A, n, c, (h1.alloc _).alloc _, h2.below B2.out, bch h3 B2.out⟩)
      (fun x => { tmps := #[.agg #[.int .u64 T, .int .u64 V, v], .pointer (some ⟨w.heap.size, 0, none⟩), .slice none 0 0, .pointer (some ⟨rb, 0, none⟩), .int .i64 0, .slice (some ⟨gd, od + 4096 * x, none⟩) (part xs x).length (part xs x).length, u6, u7, u8, u9, u10, u11, u12, u13, u14, u15,
        .pointer (some ⟨w.heap.size, 2, none⟩), .slice A0 xs.length q0, .func (.func 107) #[] #[.pointer (some ⟨wc.heap.size, 0, none⟩), .pointer (some ⟨wc.heap.size + 1, 0, none⟩)], .slice (some ⟨gd, od + 4096 * x, none⟩) (part xs x).length (part xs x).length, undef, undef, undef, undef, undef, undef, undef], defers := [] })
      ?assign ?body ?done
    case assign =>
      intro l x W K hK
      unfold prV
      gi_wp2
      exact hK
    case body =>
      intro l pre x W hI hlt
      obtain ⟨A, n, c, KB, HB, BX⟩ := hI
      have KB' := Lib.hid KB
      have HB' := Lib.hid HB
      have BX' := Lib.hid BX
      have hlen : (part xs x).length ≤ 8192 := by rw [part_len]; omega
      have hpn : pre.length ≤ 1000 := by have := hL.out; unfold parts at hlt; omega
      have hfl := fileL_len T V xs hT hV pre.length pre rfl
      have HP := Lib.hid (show Bs W (.slice (some ⟨gd, od + 4096 * x, none⟩) (part xs x).length (part xs x).length) (part xs x) from part_bs (H.out.below BX) hAd x)
      have FP := Lib.hid (CallsIn.inRound l ((callsIn_wide (n := 2)).2 (fput_any (.slice A n c) (.slice (some ⟨gd, od + 4096 * x, none⟩) (part xs x).length (part xs x).length) (fileL T V xs pre) (part xs x) W HB.bs HP.out (part_byt BY.out x) (TT.out.below BX) (by omega) hlen)))
      have cb := KB.cell 0
      have fb := KB.free 0
      simp at cb
      clear KB HB BX hlen hpn hfl hlt
      gi_wp2_with fail
      refine ⟨trivial, FP.out.mono ?_⟩
      rintro e w3 ⟨v3, rfl, h3, b3⟩
      obtain ⟨A3, n3, c3, rfl⟩ := h3.sl
      have kb := KB'.out.below b3 KB'.out.lt
      have cb3 := kb.cell 0
      have fb3 := kb.free 0
      simp at cb3
      gi_wp2
      have hg : W.grownBy (w3.setCell ⟨rb, 0, none⟩ (.slice A3 n3 c3)) (some rb) := grown_trans_ (grown_below_ b3 _) (grown_set_ w3 rb 0 _)
      refine ⟨KeepsFrom.of_grownBy hg (fun j e => by cases e; have := RL.out; have := B2.out.size; omega), KpC.of_grown hg, A3, n3, c3, kb.set_ 0 _, ?_, ?_⟩
      · rw [fileL_snoc]
        exact Ow.aside (Bo.le h3 BX'.out.size) kb (by decide) 0 _
      · exact (BX'.out.trans (b3.mono BX'.out.size)).setCell (p := ⟨rb, 0, none⟩) (by have := hrb; show w.heap.size ≤ rb; omega) _
    case done =>
      intro D ys W hD hS hI hK
      subst hS
      have hp := (fil_own (w0 := w) (rb := rb) (T := T) (V := V) (xs := xs) (B := ((wc.alloc (.cells #[.slice A0 xs.length q0] 23)).alloc (.cells #[.int .i64 4096] 3)).heap.size) (by have := BW.out.size; have := B2.out.size; omega)).putObj (.deferred none) hI hD hK rfl
      obtain ⟨A, n, c, KB, -, -⟩ := hI
      obtain ⟨A', n', c', k', h', b'⟩ := hp
      have hne : D ≠ rb := fun e => by subst e; unfold Blk at KB; rw [KB] at hK; cases hK
      have e : some (Obj.cells #[.slice A' n' c'] 23 (0, 0)) = some (Obj.cells #[.slice A n c] 23 (0, 0)) := k'.symm.trans ((World.putObj_heap_other hne.symm).trans KB)
      simp only [Option.some.injEq, Obj.cells.injEq, Array.mk.injEq, List.cons.injEq, Value.slice.injEq, and_true] at e
      obtain ⟨rfl, rfl, rfl⟩ := e
      have HP := Lib.hid h'
      have BP := Lib.hid b'
      have cb := KB.cell 0
      simp at cb
      clear KB k' h' b'
      go_wp2
      refine ⟨by simp, .inl ⟨_, _, rfl, run_takeDeferred hK, ?_⟩⟩
      refine ⟨_, results_tmp rfl _ _ _, _, rfl, ?_, BP.out⟩
      have := HP.out
      rw [fileL_range] at this
      exact this
end Go.Proofs.YtglghlfmjokgdaaDoor
