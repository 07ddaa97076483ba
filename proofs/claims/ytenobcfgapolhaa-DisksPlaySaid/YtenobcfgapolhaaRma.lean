/- The document's disk of any files: at, asked, burn, SetFuse. -/
import Derived.Test.YtenobcfgapolhaaMdf
import Derived.Test.YtenobcfgapolhaaRow
namespace Go.Proofs.Ytenobcfgapolhaa
open Go.RowKit

/-- A file of the document's disk. -/
structure Rl where
  nm : ByteArray
  v : Value
  xs : List Int
  su : Nat
def rlC (r : Rl) : List Value := [.string r.nm, r.v, .int .i64 (r.su : Nat)]
theorem rlC_len (r : Rl) : (rlC r).length = 3 := rfl
def Rl.pf (r : Rl) : ByteArray × List Int × Nat := (r.nm, r.xs, r.su)
def Rl.bl (r : Rl) : List Nat := r.v.ownBlock.toList
structure RlOk (w : World) (r : Rl) : Prop where
  own : Bo 0 w r.v r.xs
  by_ : ∀ c ∈ r.xs, byt c
  su : r.su ≤ r.xs.length
  len : r.xs.length ≤ 1048576
def rmC (fu : Int) (dead : Bool) (L : Value) : Array Value := #[L, .bool (decide (0 ≤ fu)), .int .i64 (if 0 ≤ fu then fu else 0), .bool dead]
/-- The document's disk in block m. -/
structure RMd (w : World) (m : Nat) (s : Mst) (F : List Nat) : Prop where
  lo : -1 ≤ s.fuse
  hi : s.fuse ≤ 9223372036854775807
  ex : ∃ (L : Value) (rs : List Rl), Blk w m 30 (rmC s.fuse s.dead L) ∧ Ow 0 w 56 3 L rs.length (rs.flatMap rlC) ∧ (∀ r ∈ rs, RlOk w r) ∧ s.fs = rs.map Rl.pf ∧ F = m :: (L.ownBlock.toList ++ rs.flatMap Rl.bl)
  most : s.fs.length ≤ 16
  sorted : (s.fs.map (·.1)).Pairwise fun a b => ltB a b = true
structure RMTo (w : World) (F : List Nat) (m : Nat) (s : Mst) (w' : World) : Prop where
  ex : ∃ F', RMd w' m s F' ∧ ∀ k ∈ F', k ∈ F ∨ w.heap.size ≤ k
  kp : Kp w F w'
section
variable {w w' : World} {m : Nat} {s s' : Mst} {F G : List Nat}
theorem RlOk.kp {r : Rl} (h : RlOk w r) (k : Kp w G w') (hG : ∀ i ∈ r.bl, i ∉ G) : RlOk w' r := ⟨k.ow h.own fun j hj => hG j (by simp [Rl.bl, hj]), h.by_, h.su, h.len⟩
theorem RlOk.lt {r : Rl} (h : RlOk w r) : ∀ k ∈ r.bl, k < w.heap.size := fun k hk => h.own.lt k (by simpa [Rl.bl] using hk)
theorem RlOk.ne {r : Rl} (h : RlOk w r) {g : Nat} {t : TypeId} {cs : Array Value} (hg : Blk w g t cs) (ht : t ≠ 5) : ∀ k ∈ r.bl, k ≠ g := by
  intro k hk
  rcases h.own with ⟨hv, _⟩ | ⟨g', c, cur, hv, _, hg', _⟩
  · rw [Rl.bl, hv] at hk; simp [Value.ownBlock] at hk
  · rw [Rl.bl, hv] at hk
    simp [Value.ownBlock] at hk
    subst hk
    exact hg'.ne_ hg (Ne.symm ht)
theorem Ow.lt_ {B e size n : Nat} {v : Value} {xs : List Value} (h : Ow B w e size v n xs) : ∀ k ∈ v.ownBlock.toList, k < w.heap.size := by
  intro k hk
  rcases h with ⟨rfl, _⟩ | ⟨g, c, cur, rfl, _, hg, _⟩
  · simp [Value.ownBlock] at hk
  · simp [Value.ownBlock] at hk; subst hk; exact hg.lt
theorem RMd.lt (h : RMd w m s F) : ∀ k ∈ F, k < w.heap.size := by
  obtain ⟨L, rs, hk, ho, hr, -, rfl⟩ := h.ex
  intro k hk'
  rcases List.mem_cons.1 hk' with rfl | hk'
  · exact hk.lt
  · rcases List.mem_append.1 hk' with h1 | h1
    · exact ho.lt_ k h1
    · obtain ⟨r, hr', h2⟩ := List.mem_flatMap.1 h1
      exact (hr r hr').lt k h2
theorem RMd.kp (h : RMd w m s F) (k : Kp w G w') (hF : ∀ i ∈ F, i ∉ G) : RMd w' m s F := by
  obtain ⟨lo, hi, ⟨L, rs, hk, ho, hr, hs, rfl⟩, h1, h2⟩ := h
  exact ⟨lo, hi, ⟨L, rs, k.blk hk (hF m (by simp)), k.ow ho (fun j hj => hF j (by simp [hj])), fun r hr' => (hr r hr').kp k fun i hi => hF i (by simp only [List.mem_cons, List.mem_append]; exact .inr (.inr (List.mem_flatMap.2 ⟨r, hr', hi⟩))), hs, rfl⟩, h1, h2⟩
theorem RMd.below (h : RMd w m s F) (hb : Below w.heap.size w w') : RMd w' m s F := h.kp (Kp.of_below hb []) (by simp)
theorem RMd.mem (h : RMd w m s F) : m ∈ F := by obtain ⟨L, rs, -, -, -, -, rfl⟩ := h.ex; simp
theorem RMd.to (h : RMd w m s F) : RMTo w F m s w := ⟨⟨F, h, fun _ hk => .inl hk⟩, Kp.refl _ _⟩
theorem RMTo.of_below {w1 : World} (hb : Below w.heap.size w w1) (t : RMTo w1 F m s w') : RMTo w F m s w' := by
  obtain ⟨⟨F', h, hF⟩, k⟩ := t
  exact ⟨⟨F', h, fun k hk => (hF k hk).imp id (fun h => Nat.le_trans hb.size h)⟩, (Kp.of_below hb F).trans k fun _ hi => .inl hi⟩
theorem RMTo.trans {a b c : World} (h : RMTo a F m s b) (h2 : ∀ F', RMd b m s F' → RMTo b F' m s' c) : RMTo a F m s' c := by
  obtain ⟨⟨F', hd, hF⟩, k⟩ := h
  obtain ⟨⟨F'', hd', hF'⟩, k'⟩ := h2 F' hd
  refine ⟨⟨F'', hd', fun i hi => ?_⟩, k.trans k' hF⟩
  rcases hF' i hi with h | h
  · exact hF i h
  · exact .inr (Nat.le_trans k.size h)
/-- The disk's own block turns. -/
theorem RMd.turn (h : RMd w m s F) (hf : s'.fs = s.fs) (lo : -1 ≤ s'.fuse) (hi : s'.fuse ≤ 9223372036854775807) (hm : ∀ L, Blk w m 30 (rmC s.fuse s.dead L) → Blk w' m 30 (rmC s'.fuse s'.dead L)) (kp : Kp w [m] w') : RMd w' m s' F := by
  obtain ⟨_, _, ⟨L, rs, hk, ho, hr, hs, rfl⟩, h1, h2⟩ := h
  refine ⟨lo, hi, ⟨L, rs, hm L hk, kp.ow ho fun j hj => ?_, fun r hr' => (hr r hr').kp kp fun i hi => ?_, hf.trans hs, rfl⟩, by rw [hf]; exact h1, by rw [hf]; exact h2⟩
  · rcases ho with ⟨rfl, _⟩ | ⟨g, c, cur, rfl, _, hg, _⟩
    · simp [Value.ownBlock] at hj
    · simp [Value.ownBlock] at hj
      subst hj
      simpa using hg.ne_ hk (by decide)
  · simpa using (hr r hr').ne hk (by decide) i hi
theorem RMd.blk (h : RMd w m s F) : ∃ L, Blk w m 30 (rmC s.fuse s.dead L) := by obtain ⟨L, rs, hk, -⟩ := h.ex; exact ⟨L, hk⟩
/-- The disk's files, as its walk reads them. -/
theorem RMd.rows (h : RMd w m s F) : ∃ (A : Option Addr) (c : Nat) (rs : List Rl), Blk w m 30 (rmC s.fuse s.dead (.slice A rs.length c)) ∧ rs.length ≤ c ∧ Ow 0 w 56 3 (.slice A rs.length c) rs.length (rs.flatMap rlC) ∧ (∀ r ∈ rs, RlOk w r) ∧ s.fs = rs.map Rl.pf ∧ F = m :: ((Value.slice A rs.length c).ownBlock.toList ++ rs.flatMap Rl.bl) ∧ rs.length ≤ 16 := by
  obtain ⟨L, rs, hk, ho, hr, hs, hF⟩ := h.ex
  obtain ⟨A, c, rfl, hc, -⟩ := id (Ow.clip ho)
  exact ⟨A, c, rs, hk, hc, ho, hr, hs, hF, by have := h.most; rw [hs, List.length_map] at this; exact this⟩
/-- The i-th file's cells. -/
theorem row_at {A : Option Addr} {c : Nat} {rs : List Rl} (ho : Ow 0 w 56 3 (.slice A rs.length c) rs.length (rs.flatMap rlC)) (i : Nat) (hi : i < rs.length) :
    ∃ g, A = some ⟨g, 0, none⟩ ∧ (∃ cur, Blk w g 56 cur ∧ i * 3 + 2 < cur.size) ∧ w.cell? ⟨g, i * 3, none⟩ = some (.string rs[i].nm) ∧ w.cell? ⟨g, i * 3 + 1, none⟩ = some rs[i].v ∧ w.cell? ⟨g, i * 3 + 2, none⟩ = some (.int .i64 (rs[i].su : Nat)) := by
  have hfl := flatMap_get rlC 3 rlC_len rs i
  rcases ho with ⟨_, h0, _⟩ | ⟨g, c', cur, hv, -, hg, hc, hl, hs, ht⟩
  · omega
  · injection hv with h1 _ h3
    subst h3
    have q : ∀ j, j < rs.length * 3 → cur[j]? = (rs.flatMap rlC)[j]? := fun j hj => by
      have h := congrArg (fun l : List Value => l[j]?) ht
      simp only [List.getElem?_take] at h
      rw [if_pos hj] at h
      simpa using h
    refine ⟨g, h1, ⟨cur, hg, by omega⟩, ?_, ?_, ?_⟩
    · rw [hg.cell, q _ (by omega)]; have := hfl 0 hi (by omega); rw [Nat.add_zero] at this; rw [this]; rfl
    · rw [hg.cell, q _ (by omega), hfl 1 hi (by omega)]; rfl
    · rw [hg.cell, q _ (by omega), hfl 2 hi (by omega)]; rfl
end

theorem str_dec_ (s t : ByteArray) : (s.toList == t.toList) = decide (s = t) := by
  rw [ByteArray.toList_eq, ByteArray.toList_eq, Bool.eq_iff_iff, beq_iff_eq, decide_eq_true_iff]
  exact ⟨WideShapes.bytes_inj, fun h => by rw [h]⟩
set_option maxHeartbeats 1000000 in
set_option maxRecDepth 100000 in
theorem mat_any (nm : ByteArray) (m : Nat) (s : Mst) (F : List Nat) (k : Nat) (w : World) (h : RMd w m s F) (hk : ∀ i (hi : i < s.fs.length), i < k → s.fs[i].1 ≠ nm) (r : Int) (hr : (k = s.fs.length ∧ r = -1) ∨ (∃ hi : k < s.fs.length, s.fs[k].1 = nm ∧ r = k)) :
    Calls Try.prog 41 #[.pointer (some ⟨m, 0, none⟩), .string nm] w fun e w' => e = .returned (.int .i64 r) ∧ w = w' := by
  obtain ⟨A, c, rs, hb, hc, ho, -, hs, -, h16⟩ := h.rows
  have c0 := hb.cell 0
  simp only [rmC, List.getElem?_toArray, List.getElem?_cons_zero] at c0
  have hlen : s.fs.length = rs.length := by rw [hs, List.length_map]
  have NE := Lib.hid (show ∀ i (hi : i < rs.length), i < k → rs[i].nm ≠ nm from fun i hi hik => by
    have := hk i (by omega) hik
    simp only [hs, List.getElem_map] at this
    exact this)
  have HR := Lib.hid (show (k = rs.length ∧ r = -1) ∨ (∃ hi : k < rs.length, rs[k].nm = nm ∧ r = k) from by
    rcases hr with ⟨h1, h2⟩ | ⟨hi, h1, h2⟩
    · exact .inl ⟨by omega, h2⟩
    · refine .inr ⟨by omega, ?_, h2⟩
      simp only [hs, List.getElem_map] at h1
      exact h1)
  have HO := Lib.hid ho
  have KL := Lib.hid (show k ≤ rs.length from by rcases hr with ⟨h1, _⟩ | ⟨hi, _⟩ <;> omega)
  obtain ⟨n, hn⟩ : ∃ n, n = rs.length := ⟨_, rfl⟩
  have NN := Lib.hid hn
  rw [← hn] at c0 hc h16
  clear h hb ho hs hlen hk hr hn
  go_enter Try.func41, Try.ntmps41
  go_wp2
  go_loopg [5] n (fun g c5 wr => ∃ i : Nat, i ≤ k ∧ g = n - i ∧ c5 = .int .i64 i ∧ wr = w)
  case atStart => exact ⟨0, by omega, by omega, rfl, rfl⟩
  case round =>
    obtain ⟨i, hik, hg, rfl, rfl⟩ := hrel
    have G := Lib.hid hg
    clear hg
    by_cases hin : i < n
    · obtain ⟨g, hA, -, e0, -, -⟩ := row_at HO.out i (by have := NN.out; omega)
      subst hA
      have hi' : (i : Int) < (n : Int) := by omega
      have hw : IntKind.i64.wrap ((i : Int) + 1) = (i : Int) + 1 := IntWalk.i64_in _ (by omega)
      obtain ⟨x, hx⟩ : ∃ x, x = rs[i].nm := ⟨_, rfl⟩
      rw [← hx] at e0
      have hd := str_dec_ x nm
      by_cases hki : i < k
      · have hne : ¬ x = nm := by rw [hx]; exact NE.out i (by have := NN.out; omega) hki
        rw [decide_eq_false hne] at hd
        clear hx
        go_wp2
        go_roundg (n - (i + 1))
        case measure => have := G.out; omega
        case rel => exact ⟨i + 1, by omega, by omega, by go_num, rfl⟩
      · obtain rfl : i = k := by omega
        rcases HR.out with ⟨h1, -⟩ | ⟨hi2, h1, rfl⟩
        · have := NN.out; omega
        · have hne : x = nm := by rw [hx]; exact h1
          rw [decide_eq_true hne] at hd
          clear hx
          go_wp2
          go_ret
          exact ⟨rfl, rfl⟩
    · rcases HR.out with ⟨h1, rfl⟩ | ⟨hi2, h1, rfl⟩
      · have hi' : ¬ (i : Int) < (n : Int) := by omega
        go_wp2
        go_ret
        exact ⟨rfl, rfl⟩
      · have := NN.out; omega

theorem masked_ref (nm : ByteArray) (m : Nat) (s : Mst) (F : List Nat) (w : World) (h : RMd w m s F) :
    Calls Try.prog 40 #[.pointer (some ⟨m, 0, none⟩), .string nm] w fun e w' => e = .returned (.int .i64 (askM s nm)) ∧ w = w' := by
  obtain ⟨L, hk⟩ := h.blk
  have c3 := hk.cell 3
  simp only [rmC, List.getElem?_toArray, List.getElem?_cons_zero, List.getElem?_cons_succ] at c3
  clear hk h
  obtain ⟨fs, fu, dead⟩ := s
  simp only at c3
  cases dead
  · by_cases h1 : nm.size < 1
    · have E := Lib.hid (show askM ⟨fs, fu, false⟩ nm = 1 from by simp [askM, h1])
      rw [E.out]
      have h2 : (nm.size : Int) < 1 := by omega
      clear h1
      go_enter Try.func40, Try.ntmps40
      go_wp2
      go_ret
      exact ⟨rfl, rfl⟩
    · have h2 : ¬ (nm.size : Int) < 1 := by omega
      by_cases h16 : 16 < nm.size
      · have E := Lib.hid (show askM ⟨fs, fu, false⟩ nm = 1 from by simp [askM, h16])
        rw [E.out]
        have h4 : (16 : Int) < (nm.size : Int) := by omega
        clear h1 h16
        go_enter Try.func40, Try.ntmps40
        go_wp2
        go_ret
        exact ⟨rfl, rfl⟩
      · have E := Lib.hid (show askM ⟨fs, fu, false⟩ nm = 0 from by simp [askM, h16, h1])
        rw [E.out]
        have h4 : ¬ (16 : Int) < (nm.size : Int) := by omega
        clear h1 h16
        go_enter Try.func40, Try.ntmps40
        go_wp2
        go_ret
        exact ⟨rfl, rfl⟩
  · have E := Lib.hid (show askM ⟨fs, fu, true⟩ nm = 17 from rfl)
    rw [E.out]
    go_enter Try.func40, Try.ntmps40
    go_wp2
    go_ret
    exact ⟨rfl, rfl⟩

theorem mburn_ref (m : Nat) (s : Mst) (F : List Nat) (w : World) (h : RMd w m s F) :
    Calls Try.prog 44 #[.pointer (some ⟨m, 0, none⟩)] w fun e w' => e = .returned (.bool (decide (s.fuse ≠ 0))) ∧ RMd w' m (burnM s).1 F ∧ Kp w [m] w' := by
  have H := Lib.hid h
  obtain ⟨L, hk⟩ := h.blk
  have c1 := hk.cell 1
  have c2 := hk.cell 2
  have c3 := hk.cell 3
  have f2 := hk.free 2
  have f3 := hk.free 3
  simp only [rmC, List.getElem?_toArray, List.getElem?_cons_zero, List.getElem?_cons_succ] at c1 c2 c3
  have lo := h.lo
  have hi := h.hi
  clear h hk
  obtain ⟨fs, fu, dead⟩ := s
  simp only at c1 c2 c3 lo hi
  by_cases hm : fu < 0
  · have hd : decide (0 ≤ fu) = false := decide_eq_false (by omega)
    rw [hd] at c1
    have E := Lib.hid (show (burnM ⟨fs, fu, dead⟩).1 = ⟨fs, fu, dead⟩ from by unfold burnM; rw [if_neg (show ¬ fu = 0 by omega), if_neg (show ¬ 0 < fu by omega)])
    have E2 := Lib.hid (show decide (fu ≠ 0) = true from decide_eq_true (by omega))
    rw [E.out, E2.out]
    clear hd
    go_enter Try.func44, Try.ntmps44
    go_wp2
    go_ret
    exact ⟨rfl, H.out, Kp.refl _ _⟩
  have hd : decide (0 ≤ fu) = true := decide_eq_true (by omega)
  rw [hd] at c1
  rw [if_pos (show 0 ≤ fu by omega)] at c2
  by_cases h0 : fu = 0
  · subst h0
    have E := Lib.hid (show (burnM ⟨fs, 0, dead⟩).1 = ⟨fs, 0, true⟩ from rfl)
    rw [E.out]
    clear hd
    go_enter Try.func44, Try.ntmps44
    go_wp2
    go_ret
    refine ⟨rfl, H.out.turn rfl (by simp) (by simp) (fun L hL => ?_) ((Kp.refl _ _).setCell (.inl (by simp)) _), (Kp.refl _ _).setCell (.inl (by simp)) _⟩
    have := hL.set_ 3 (.bool true)
    simpa [rmC] using this
  · have h0' : (fu == 0) = false := beq_eq_false_iff_ne.2 h0
    have hp : 0 < fu := by omega
    have E := Lib.hid (show (burnM ⟨fs, fu, dead⟩).1 = ⟨fs, fu - 1, dead⟩ from by unfold burnM; rw [if_neg (show ¬ fu = 0 from h0), if_pos (show 0 < fu from hp)])
    have E2 := Lib.hid (show decide (fu ≠ 0) = true from decide_eq_true h0)
    rw [E.out, E2.out]
    have wr1 : IntKind.i64.wrap (fu - 1) = fu - 1 := IntWalk.i64_in _ (by omega)
    clear hd h0
    go_enter Try.func44, Try.ntmps44
    go_wp2
    go_ret
    refine ⟨rfl, H.out.turn rfl (by simp only; omega) (by simp only; omega) (fun L hL => ?_) ((Kp.refl _ _).setCell (.inl (by simp)) _), (Kp.refl _ _).setCell (.inl (by simp)) _⟩
    have := hL.set_ 2 (.int .i64 (fu - 1))
    simpa [rmC, show 0 ≤ fu from by omega, show 0 ≤ fu - 1 from by omega, show 1 ≤ fu from by omega] using this

theorem mfuse_ref (m : Nat) (s : Mst) (F : List Nat) (n : Int) (w : World) (h : RMd w m s F) (hn : n ≤ 9223372036854775807) :
    Calls Try.prog 22 #[.pointer (some ⟨m, 0, none⟩), .int .i64 n] w fun e w' => e = .returned (.tuple #[]) ∧ RMTo w F m { s with fuse := max 0 n } w' := by
  have H := Lib.hid h
  obtain ⟨L, hk⟩ := h.blk
  have c1 := hk.cell 1
  have c2 := hk.cell 2
  have f1 := hk.free 1
  have f2 := hk.free 2
  simp only [rmC, List.getElem?_toArray, List.getElem?_cons_zero, List.getElem?_cons_succ] at c1 c2
  have MF := Lib.hid h.mem
  clear h hk
  by_cases hm : n < 0
  · have e1 : max 0 n = 0 := by omega
    rw [e1]
    go_enter Try.func22, Try.ntmps22
    go_wp2
    refine bodyPost_end (results_none rfl _ _ _) rfl ?_
    have k : Kp w [m] (((w.setCell ⟨m, 1, none⟩ (.bool true)).setCell ⟨m, 2, none⟩ (.int .i64 n)).setCell ⟨m, 2, none⟩ (.int .i64 0)) := (((Kp.refl _ _).setCell (.inl (by simp)) _).setCell (.inl (by simp)) _).setCell (.inl (by simp)) _
    refine ⟨rfl, ⟨F, H.out.turn rfl (by simp) (by simp) (fun L hL => ?_) k, fun _ hk => .inl hk⟩, k.mono (by simpa using MF.out)⟩
    have := ((hL.set_ 1 (.bool true)).set_ 2 (.int .i64 n)).set_ 2 (.int .i64 0)
    simpa [rmC] using this
  · have e1 : max 0 n = n := by omega
    rw [e1]
    go_enter Try.func22, Try.ntmps22
    go_wp2
    refine bodyPost_end (results_none rfl _ _ _) rfl ?_
    have k : Kp w [m] ((w.setCell ⟨m, 1, none⟩ (.bool true)).setCell ⟨m, 2, none⟩ (.int .i64 n)) := ((Kp.refl _ _).setCell (.inl (by simp)) _).setCell (.inl (by simp)) _
    refine ⟨rfl, ⟨F, H.out.turn rfl (by simp only; omega) (by simp only; omega) (fun L hL => ?_) k, fun _ hk => .inl hk⟩, k.mono (by simpa using MF.out)⟩
    have := (hL.set_ 1 (.bool true)).set_ 2 (.int .i64 n)
    simpa [rmC, show 0 ≤ n from by omega] using this
end Go.Proofs.Ytenobcfgapolhaa
