import Derived.Test.YtoiclicechfmgaaGreatDoorZl
import Derived.Test.YtoiclicechfmgaaGreatDoorMdd
import Derived.Test.YtoiclicechfmgaaGreatDoorZaz
import Derived.RegionTactic
import Derived.BigRegion
/- slices.Sort at string. -/
namespace Go.Proofs.YtoiclicechfmgaaGreatDoor
open Go.RowKit

theorem bitLen_lim (n : Nat) (h : n ≤ 1000000) : Lib.bitLen n ≤ 100 := by have := Lib.bitLen_le n 20 (by omega) (by omega); omega
theorem ltB_anti {a b : ByteArray} (h1 : ltB a b = false) (h2 : ltB b a = false) : a = b := by
  unfold ltB Go.Sort.ltStr at h1 h2
  rw [decide_eq_false_iff_not] at h1 h2
  have := List.le_antisymm h2 h1
  exact ByteArray.ext (Array.toList_inj.1 this)
theorem ltB_irrefl (a : ByteArray) : ltB a a = false := swo_ltB.irrefl a
theorem ltB_asymm {a b : ByteArray} (h : ltB a b = true) : ltB b a = false := by
  cases hb : ltB b a with
  | false => rfl
  | true => have := swo_ltB.trans _ _ _ h hb; rw [ltB_irrefl] at this; cases this
/-- Strings in order: there is one such row. -/
theorem row_unique {zs N : List ByteArray} {ds : Array ByteArray} (hp : Go.Sort.PermIn 0 zs.length zs.toArray ds) (ho : Go.Sort.SortedIn ltB 0 zs.length ds) (hz : zs.Perm N) (hN : N.Pairwise fun a b => ltB a b = true) : ds = N.toArray := by
  have hs : ds.size = zs.length := by have := hp.1; simpa using this
  have h1 : ds.toList.Perm zs := by
    have := hp.2.2
    rw [← hs, Array.extract_size] at this
    simpa [hs] using this
  have h2 : ds.toList.Pairwise fun a b => ltB b a = false := by
    rw [List.pairwise_iff_getElem]
    intro i j hi hj hij
    have hj' : j < ds.size := by simpa using hj
    have hi' : i < ds.size := by simpa using hi
    have := ho i j (Nat.zero_le _) hij (by omega)
    rw [getElem!_pos ds i hi', getElem!_pos ds j hj'] at this
    simpa using this
  have h3 : N.Pairwise fun a b => ltB b a = false := hN.imp fun h => ltB_asymm h
  have h4 : ds.toList = N := List.Perm.eq_of_pairwise (le := fun a b => ltB b a = false) (fun a b _ _ h5 h6 => ltB_anti h6 h5) h2 h3 (h1.trans hz)
  rw [← h4, Array.toArray_toList]
def SortsS (w : World) (g : Nat) (N : List ByteArray) (rest : List Value) (e : Ending) (w' : World) : Prop := e = .returned (.tuple #[]) ∧ Sd w w' g N.toArray rest
set_option maxHeartbeats 1000000 in
theorem ssort_any {w : World} {g c : Nat} {zs N : List ByteArray} {rest : List Value} (h : Sd w w g zs.toArray rest) (hs : zs.length ≤ 1000000) (hc : zs.length ≤ c) (hz : zs.Perm N) (hN : N.Pairwise fun a b => ltB a b = true) :
    Calls Tryz.prog 52 #[.slice (some ⟨g, 0, none⟩) zs.length c] w (SortsS w g N rest) := by
  obtain ⟨n, hn⟩ : ∃ n, n = zs.length := ⟨_, rfl⟩
  have NN := Lib.hid hn
  have HZ := Lib.hid hz
  have HN := Lib.hid hN
  have hl := bitLen_lim zs.length hs
  have PC := Lib.hid (show ∀ k : Nat, k ≤ 100 → Calls Tryz.prog 74 #[.slice (some ⟨g, 0, none⟩) n c, .int .i64 0, .int .i64 n, .int .i64 k] w (Srt w g zs.toArray rest 0 n) from fun k hk => by
    have := pdq_any c rest w g zs.length 0 zs.length k zs.toArray w (by omega) h (Nat.zero_le _) (by simp) (by simpa using hs) (by simpa using hc) hk (Or.inl rfl)
    simp only [List.size_toArray] at this
    rw [← hn] at this
    exact this)
  have LC := Lib.hid (show ∀ u, Calls Tryz.prog 75 #[.int .u64 (n : Int)] u fun e w' => e = .returned (.int .i64 (Lib.bitLen n : Nat)) ∧ w' = u from fun u => by
    have := len_any (n : Int) u (by omega) (by omega)
    rwa [Int.toNat_natCast] at this)
  rw [← hn] at hl hs hc ⊢
  obtain ⟨k, hk⟩ : ∃ k, k = Lib.bitLen n := ⟨_, rfl⟩
  rw [← hk] at hl LC
  clear h hn hk hz hN
  go_enter Tryz.func52, Tryz.ntmps52
  go_wp2_with fail
  refine (LC.out _).mono ?_
  rintro e w1 ⟨rfl, rfl⟩
  go_wp2_with fail
  refine (PC.out k hl).mono ?_
  rintro e w2 ⟨ds, rfl, hp, ho, h2⟩
  rw [NN.out] at hp ho
  have H2 := Lib.hid (show Sd w1 w2 g N.toArray rest from by have := row_unique hp ho HZ.out HN.out; rw [← this]; exact h2)
  clear h2 hp ho
  go_wp2
  refine bodyPost_end (results_none rfl _ _ _) rfl ?_
  exact ⟨rfl, H2.out⟩
/-- An owned row of strings. -/
theorem ow_sd {w : World} {B : Nat} {v : Value} {zs : List ByteArray} (h : Ow B w 9 1 v zs.length (zs.map Value.string)) (h0 : 0 < zs.length) : ∃ g c rest, v = .slice (some ⟨g, 0, none⟩) zs.length c ∧ Sd w w g zs.toArray rest ∧ zs.length ≤ c ∧ B ≤ g := by
  rcases h with ⟨_, h, _⟩ | ⟨g, c, cur, hv, hB, hg, hc, hl, hs, ht⟩
  · omega
  · refine ⟨g, c, cur.toList.drop zs.length, hv, ⟨?_, grown_refl_ _ _⟩, hc, hB⟩
    have : ((zs.toArray.toList.map fun x => Value.string x) ++ cur.toList.drop zs.length).toArray = cur := by
      have e : zs.map (fun x => Value.string x) = cur.toList.take zs.length := by rw [← ht, Nat.mul_one]
      show (zs.map (fun x => Value.string x) ++ cur.toList.drop zs.length).toArray = cur
      rw [e, List.take_append_drop]
    rw [this]
    exact hg
theorem sd_rd {W w : World} {g c : Nat} {zs : List ByteArray} {rest : List Value} (h : Sd W w g zs.toArray rest) (hc : zs.length ≤ c) : Rd w 1 (.slice (some ⟨g, 0, none⟩) zs.length c) zs.length (zs.map Value.string) := by
  refine ⟨_, _, rfl, hc, by simp, .inr ⟨g, 0, rfl, h.blk.lt, fun j u hu => ?_⟩⟩
  have hj : j < zs.length := by
    rcases Nat.lt_or_ge j zs.length with h | h
    · exact h
    · rw [List.getElem?_eq_none (by simpa using h)] at hu; cases hu
  have := h.cell j (by simpa using hj)
  rw [Nat.zero_add, this]
  simp [hj] at hu ⊢
  exact hu
end Go.Proofs.YtoiclicechfmgaaGreatDoor

/- A disk of any files: its names. -/
namespace Go.Proofs.YtoiclicechfmgaaGreatDoor
open Go.RowKit

section
variable {P : Program} {W : World} {it m since c0 clock : Nat} {seen : Array Nat} {es : Array MapEntry}
theorem run_next_any (ty : TypeId) (hi : W.heap[it]? = some (.mapIter (some m) since seen c0)) (hb : W.heap[m]? = some (.map es clock)) (hold : ∀ x ∈ es.toList, x.born < since) (hsc : since ≤ c0) :
    ((leftOf es seen).size = 0 ∧ (Instr.next (.pointer (some ⟨it, 0, none⟩)) false ty).run P W = .ok (.tuple #[.bool false]) W) ∨
    ∃ e ∈ (leftOf es seen).toList, ∃ n, (Instr.next (.pointer (some ⟨it, 0, none⟩)) false ty).run P W = .ok (.tuple #[.bool true, e.key, e.val]) (setH (W.drewN n) it (.mapIter (some m) since (seen.push e.born) clock)) := by
  simp only [Instr.next, getObj, Sem.run_bind, Sem.run, hi, hb, Result.andThen, next_test_false seen es since c0 hold hsc, Bool.false_eq_true, if_false]
  unfold leftOf
  have hmem : ∀ x ∈ (Array.filter (fun e => !seen.contains e.born) es).toList, x.born < since := fun x hx => hold x (by simp at hx ⊢; exact hx.1)
  generalize Array.filter (fun e => !seen.contains e.born) es = L at hmem ⊢
  have e1 : L.filter (fun x => decide (x.born < since)) = L := Array.filter_eq_self.2 (fun x hx => by simpa using hmem x (by simpa using hx))
  have e2 : L.filter (fun x => decide (x.born ≥ since)) = #[] := by
    rw [Array.filter_eq_empty_iff]
    intro x hx
    have := hmem x (by simpa using hx)
    simp
    omega
  simp only [e1, e2, Array.append_empty]
  by_cases h0 : L.size = 0
  · left
    have : L = #[] := Array.eq_empty_of_size_eq_zero h0
    subst this
    refine ⟨rfl, ?_⟩
    simp [choose, Sem.run, Question.forced]
  · right
    have hne : L.isEmpty = false := by simp [Array.isEmpty, h0]
    simp only [hne, Bool.false_eq_true, if_false, Array.empty_append, Array.size_map]
    have hch : ∃ (j : Nat) (n : Nat), j < L.size ∧ (choose (Question.mapNext L.size)).run P W = .ok j (W.drewN n) := by
      by_cases hf : L.size ≤ 1
      · exact ⟨0, 0, by omega, by simp [choose, Sem.run, Question.forced, hf, World.drewN]⟩
      · exact ⟨_, 1, Nat.mod_lt _ (by omega), by
          simp only [choose, Sem.run, Question.forced, decide_eq_true_eq, hf, if_false, Question.cut]
          rfl⟩
    obtain ⟨j, n, hj, hrun⟩ := hch
    refine ⟨L[j], by simp, n, ?_⟩
    have hset : ∀ (o' : Obj), (setObj it o').run P (W.drewN n) = .ok () (setH (W.drewN n) it o') := fun o' => by
      simp only [setObj, Sem.run]
      rw [show (W.drewN n).heap[it]? = _ from hi]
      rfl
    simp only [hrun, Array.getElem?_map, Array.getElem?_eq_getElem hj, Option.map_some, Sem.run_bind, hset, Result.andThen]
    rfl
theorem run_entry_any {e : MapEntry} (hi : W.heap[it]? = some (.mapIter (some m) since (seen.push e.born) clock)) (hb : W.heap[m]? = some (.map es clock)) (he : e ∈ es.toList) (hn : (es.toList.map (·.born)).Nodup) :
    (Instr.entry (.pointer (some ⟨it, 0, none⟩))).run P W = .ok (.tuple #[e.key, e.val]) W := by
  have hf : es.find? (·.born == e.born) = some e := by rw [← Array.find?_toList]; exact find_born e es.toList hn he
  simp only [Instr.entry, getObj, Sem.run_bind, Sem.run, hi, hb, Result.andThen, Array.back?_push, bne_self_eq_false, Bool.false_eq_true, if_false, hf]
  rfl
end

/-- Some of the files, as the loop met them. -/
structure Met (rs ys : List Fl) : Prop where
  sub : ∀ y ∈ ys, y ∈ rs
  nd : (ys.map (·.born)).Nodup
theorem Met.nil (rs : List Fl) : Met rs [] := ⟨by simp, by simp⟩
theorem born_inj_ {rs : List Fl} (h : (rs.map (·.born)).Nodup) {x y : Fl} (hx : x ∈ rs) (hy : y ∈ rs) (e : x.born = y.born) : x = y := by
  induction rs with
  | nil => cases hx
  | cons a l ih =>
    rw [List.map_cons, List.nodup_cons] at h
    rcases List.mem_cons.1 hx with hx | hx
    · rcases List.mem_cons.1 hy with hy | hy
      · exact hx.trans hy.symm
      · exact absurd (by rw [← hx, e]; exact List.mem_map_of_mem hy) h.1
    · rcases List.mem_cons.1 hy with hy | hy
      · exact absurd (by rw [← hy, ← e]; exact List.mem_map_of_mem hx) h.1
      · exact ih h.2 hx hy
theorem nodup_of_map_ {rs : List Fl} (h : (rs.map (·.born)).Nodup) : rs.Nodup := by
  induction rs with
  | nil => exact List.nodup_nil
  | cons a l ih =>
    rw [List.map_cons, List.nodup_cons] at h
    exact List.nodup_cons.2 ⟨fun hm => h.1 (List.mem_map_of_mem hm), ih h.2⟩
theorem Met.snoc {rs ys : List Fl} {r : Fl} (h : Met rs ys) (hr : r ∈ rs) (hn : r.born ∉ ys.map (·.born)) : Met rs (ys ++ [r]) := by
  refine ⟨fun y hy => ?_, ?_⟩
  · rcases List.mem_append.1 hy with hy | hy
    · exact h.sub y hy
    · simp at hy; subst hy; exact hr
  · rw [List.map_append, List.nodup_append]
    exact ⟨h.nd, by simp, fun a ha b hb e => by simp at hb; subst hb; subst e; exact hn ha⟩
theorem len_le_sub : ∀ {ys rs : List Fl}, ys.Nodup → (∀ y ∈ ys, y ∈ rs) → ys.length ≤ rs.length
  | [], _, _, _ => by simp
  | y :: ys, rs, hn, h => by
    obtain ⟨pre, post, rfl⟩ := List.append_of_mem (h y (by simp))
    have hn' := List.nodup_cons.1 hn
    have := len_le_sub (rs := pre ++ post) hn'.2 fun z hz => by
      have hzy : z ≠ y := fun e => hn'.1 (e ▸ hz)
      have := h z (by simp [hz])
      simp [hzy] at this ⊢
      exact this
    simp at this ⊢
    omega
theorem Met.le {rs ys : List Fl} (h : Met rs ys) : ys.length ≤ rs.length := len_le_sub (nodup_of_map_ h.nd) h.sub
theorem Met.all {rs ys : List Fl} (h : Met rs ys) (hb : (rs.map (·.born)).Nodup) (ha : ∀ r ∈ rs, r.born ∈ ys.map (·.born)) : ys.Perm rs := by
  refine (List.perm_ext_iff_of_nodup (nodup_of_map_ h.nd) (nodup_of_map_ hb)).2 fun x => ⟨h.sub x, fun hx => ?_⟩
  obtain ⟨y, hy, e⟩ := List.mem_map.1 (ha x hx)
  rw [← born_inj_ hb (h.sub y hy) hx e]
  exact hy

set_option maxRecDepth 100000 in
set_option maxHeartbeats 4000000 in
theorem mnames (d : Nat) (s : Mst) (F : List Nat) (N : List ByteArray) (w : World) (h : Md w d s F) (hp : (s.fs.map (·.1)).Perm N) (hN : N.Pairwise fun a b => ltB a b = true) :
    Calls Tryz.prog 20 #[.pointer (some ⟨d, 0, none⟩)] w fun e w' => ∃ P, e = .returned (.slice P N.length N.length) ∧ Rd w' 1 (.slice P N.length N.length) N.length (N.map Value.string) ∧ Below w.heap.size w w' ∧ (N.length = 0 ∨ ∀ k, (Value.slice P N.length N.length).ownBlock = some k → w.heap.size ≤ k) := by
  obtain ⟨m, ck, rs, hd, hf, hs, -⟩ := h.ex
  have hp' : (rs.map (·.nm)).Perm N := by
    have : s.fs.map (·.1) = rs.map (·.nm) := by rw [hs, List.map_map]; rfl
    rwa [this] at hp
  have PN := Lib.hid (And.intro hp' hN)
  have c0 := hd.cell 0
  simp at c0
  have qm := fun (w : World) (r : Option Nat) => run_neq_map_nil (P := Tryz.prog) w _ _ _ r Tryz.underlying28
  have hml := lt_of_heap hf.map_
  have hr := run_range_map (P := Tryz.prog) w 28 _ _ m _ ck Tryz.underlying28 hf.map_
  have I0 := Lib.hid (heap_alloc_new w (.mapIter (some m) ck #[] ck))
  have MB := Lib.hid (show ∀ u, Below w.heap.size w u → u.heap[m]? = some (.map (rs.map Fl.en).toArray ck) from fun u hu => (hu.block m hml).trans hf.map_)
  have B0 := Lib.hid (below_alloc_ w (.mapIter (some m) ck #[] ck))
  have BO := Lib.hid hf.borns
  have OLD := Lib.hid (show ∀ x ∈ (rs.map Fl.en).toArray.toList, x.born < ck from fun x hx => by
    obtain ⟨r, hr, rfl⟩ := List.mem_map.1 (show x ∈ rs.map Fl.en by simpa using hx)
    exact (hf.ok r hr).born)
  have MOST := Lib.hid hf.most
  have NL := Lib.hid (show N.length = rs.length from by have := hp'.length_eq; simpa using this.symm)
  clear hd hf hs h hp hN hp' hml
  go_enter Tryz.func20, Tryz.ntmps20
  go_wp2
  go_loopg [2, 3] rs.length (fun g c2 c3 wr => ∃ ys : List Fl, g = rs.length - ys.length ∧ Met rs ys ∧ wr.heap[w.heap.size]? = some (.mapIter (some m) ck (ys.map (·.born)).toArray ck) ∧ Below w.heap.size w wr ∧ w.heap.size < wr.heap.size ∧
    Ow (w.heap.size + 1) wr 9 1 c2 ys.length (ys.map fun y => Value.string y.nm))
  case atStart => exact ⟨[], by simp, Met.nil _, I0.out, B0.out, by simp, .inl ⟨rfl, rfl, rfl⟩⟩
  case round =>
    obtain ⟨ys, hg, hmet, hi, hb, hlt, ho⟩ := hrel
    obtain ⟨A, c, rfl, hcc, -⟩ := id (Ow.clip ho)
    have MET := Lib.hid hmet
    have IT := Lib.hid hi
    have BL := Lib.hid hb
    have LT := Lib.hid hlt
    have OY := Lib.hid ho
    have GG := Lib.hid hg
    have hm := MB.out _ hb
    have HM := Lib.hid hm
    rcases run_next_any (P := Tryz.prog) 0 hi hm OLD.out (Nat.le_refl _) with ⟨h0, -⟩ | ⟨e, he, nd, hx0⟩
    · have hx : ∀ ty, (Instr.next (.pointer (some ⟨w.heap.size, 0, none⟩)) false ty).run Tryz.prog wr = .ok (.tuple #[.bool false]) wr := fun ty => by
        rcases run_next_any (P := Tryz.prog) ty hi hm OLD.out (Nat.le_refl _) with ⟨_, h⟩ | ⟨e, he, _⟩
        · exact h
        · exact absurd he (by rw [Array.eq_empty_of_size_eq_zero h0]; simp)
      have hperm : ys.Perm rs := hmet.all BO.out fun r hr => by
        have := all_seen _ _ h0 r.en (by simpa using ⟨r, hr, rfl⟩)
        rw [Array.contains_iff_mem] at this
        simpa [Fl.en, ent] using this
      have hz : (ys.map (·.nm)).Perm N := (hperm.map _).trans PN.out.1
      have HZ := Lib.hid hz
      have hyl : ys.length = N.length := by have := hz.length_eq; simpa using this
      have HYL := Lib.hid hyl
      clear hmet hi hb hlt ho hg hm hperm hz h0 hr
      by_cases hy0 : ys.length = 0
      · have hN0 : N = [] := List.eq_nil_of_length_eq_zero (by omega)
        subst hN0
        rw [hy0]
        clear hyl hy0
        go_wp2_with (first | (go_at_call 52; refine (ssort_small _ _ _ _ (by omega)).mono ?_; rintro e w' ⟨rfl, rfl⟩) | (go_at_call 53; refine (sclip_any _ _ _ _ (by omega) (by omega)).mono ?_; rintro e w' ⟨rfl, rfl⟩))
        go_ret
        exact ⟨A, rfl, ⟨A, 0, rfl, Nat.le_refl _, rfl, .inl rfl⟩, BL.out, .inl rfl⟩
      · obtain ⟨g, c', rest, hv, hsd, hcl, hB⟩ := ow_sd (w := wr) (B := w.heap.size + 1) (v := .slice A ys.length c) (zs := ys.map (·.nm)) (by rw [List.map_map, List.length_map]; exact OY.out) (by simp; omega)
        simp only [List.length_map] at hv hcl
        injection hv with h1 _ h3
        subst h1 h3
        have SC := Lib.hid (show Calls Tryz.prog 52 #[.slice (some ⟨g, 0, none⟩) ys.length c] wr (SortsS wr g N rest) from by
          have := ssort_any (c := c) hsd (by simp; have := MOST.out; have := NL.out; omega) (by simpa using hcl) HZ.out PN.out.2
          simpa using this)
        have GB := Lib.hid hB
        have YM := Lib.hid (show ys.length ≤ 16 from by have := MOST.out; have := NL.out; omega)
        obtain ⟨k, hk⟩ : ∃ k, k = ys.length := ⟨_, rfl⟩
        rw [← hk] at SC YM hcl ⊢
        have KN := Lib.hid (show k = N.length from hk.trans hyl)
        clear hsd hyl hy0 hB hk
        go_wp2_with fail
        refine SC.out.mono ?_
        rintro e w2 ⟨rfl, h2⟩
        have H2 := Lib.hid h2
        clear h2
        go_wp2_with fail
        refine (sclip_any _ _ _ _ hcl (by have := YM.out; omega)).mono ?_
        rintro e w3 ⟨rfl, rfl⟩
        go_wp2
        go_ret
        rw [KN.out]
        exact ⟨_, rfl, sd_rd H2.out (Nat.le_refl _), below_grown_ BL.out H2.out.kp BL.out.size (by have := GB.out; omega), .inr fun k hk => by simp [Value.ownBlock] at hk; have := GB.out; omega⟩
    · obtain ⟨hee, hes⟩ := mem_left he
      have hee2 : e ∈ rs.map Fl.en := by simpa using hee
      obtain ⟨r, hrr, rfl⟩ := List.mem_map.1 hee2
      have hnew : r.born ∉ ys.map (·.born) := fun hm => by
        have h1 : (ys.map (·.born)).toArray.contains r.born = true := by rw [Array.contains_iff_mem]; simpa using hm
        have h2 : (ys.map (·.born)).toArray.contains r.en.born = false := hes
        rw [show r.en.born = r.born from rfl, h1] at h2
        cases h2
      have hx : ∀ ty, (Instr.next (.pointer (some ⟨w.heap.size, 0, none⟩)) false ty).run Tryz.prog wr = .ok (.tuple #[.bool true, .string r.nm, .pointer (some ⟨r.f, 0, none⟩)]) (setH (wr.drewN nd) w.heap.size (.mapIter (some m) ck ((ys.map (·.born)).toArray.push r.born) ck)) := fun ty => hx0
      have hset := MapKept.heap_set (o' := Obj.mapIter (some m) ck ((ys.map (·.born)).toArray.push r.born) ck) (show (wr.drewN nd).heap[w.heap.size]? = _ from hi)
      obtain ⟨W1, hW1⟩ : ∃ W1, W1 = setH (wr.drewN nd) w.heap.size (.mapIter (some m) ck ((ys.map (·.born)).toArray.push r.born) ck) := ⟨_, rfl⟩
      have hi1 : W1.heap[w.heap.size]? = some (.mapIter (some m) ck ((ys.map (·.born)).toArray.push r.born) ck) := by rw [hW1]; exact hset.1
      have k1 : Kp wr [w.heap.size] W1 := by rw [hW1]; exact ((Kp.refl wr _).below (below_drewN_ _ _ nd)).setH (.inl (by simp)) _
      have b1 : Below w.heap.size w W1 := hb.trans (k1.to_below (by simp) hb.size)
      have he1 := run_entry_any (P := Tryz.prog) hi1 (MB.out _ b1) (e := r.en) (by simpa using ⟨r, hrr, rfl⟩) (by rw [show (rs.map Fl.en).toArray.toList = rs.map Fl.en from rfl, List.map_map]; exact BO.out)
      have he2 : (Instr.entry (.pointer (some ⟨w.heap.size, 0, none⟩))).run Tryz.prog W1 = .ok (.tuple #[.string r.nm, .pointer (some ⟨r.f, 0, none⟩)]) W1 := he1
      rw [← hW1] at hx
      have ON := Lib.hid (k1.ow ho (fun j hj => by
        have := Ow.blk_lt ho j hj
        simp
        omega))
      have IT1 := Lib.hid hi1
      have B1 := Lib.hid b1
      have SZ1 := Lib.hid (Nat.lt_of_lt_of_le hlt k1.size)
      have SNO := Lib.hid (hmet.snoc hrr hnew)
      have YL := Lib.hid (show ys.length + 1 ≤ rs.length from by have := (hmet.snoc hrr hnew).le; simpa using this)
      have hyl : ys.length < rs.length := by have := YL.out; omega
      have hmost : ys.length ≤ 16 := by have := MOST.out; omega
      obtain ⟨rn, rf, rb, rv, rx, rsu⟩ := r
      simp only at hx he2 SNO hi1 hnew
      obtain ⟨yl, hyl2⟩ : ∃ yl, yl = ys.length := ⟨_, rfl⟩
      rw [← hyl2] at ON hmost ⊢
      have YLE := Lib.hid hyl2
      clear hmet hi hb hlt ho hg hm he hee hes hee2 hrr hnew hx0 hset hW1 hi1 k1 b1 he1 hr hyl hyl2
      go_wp2_with (at_builtin; refine wpList_ow rfl _ _ 58 9 (.string ⟨#[]⟩) 1 16 rfl Tryz.underlying58 str_info rfl (by decide) rfl #[.string rn] ON.out (by have := SZ1.out; omega) rfl (by simp [Value.oneCell']) rfl (by omega) (by unfold maxLen; omega) ?_; intro v3 w3 hO3 hg3; have O3 := Lib.hid hO3; have G3 := Lib.hid hg3; clear hO3 hg3)
      go_roundg (rs.length - (yl + 1))
      case measure => have := GG.out; have := YL.out; have := YLE.out; omega
      case rel =>
        have hlo : ∀ k, (Value.slice A yl c).ownBlock = some k → w.heap.size + 1 ≤ k := Ow.blk_lt ON.out
        have b3 : Below (w.heap.size + 1) W1 w3 := ⟨G3.out.1.os, G3.out.1.tape, G3.out.1.output, G3.out.1.size, fun i hi => G3.out.1.block i (by have := SZ1.out; omega) (fun e => by have := hlo i e.symm; omega)⟩
        refine ⟨ys ++ [⟨rn, rf, rb, rv, rx, rsu⟩], by simp; have := YLE.out; omega, SNO.out, ?_, B1.out.trans (b3.mono (by omega)), Nat.lt_of_lt_of_le SZ1.out G3.out.1.size, ?_⟩
        · have := (b3.block w.heap.size (by omega)).trans IT1.out
          rw [this]
          simp
        · have := O3.out
          rw [YLE.out] at this
          simpa using this
end Go.Proofs.YtoiclicechfmgaaGreatDoor

/- A disk of any files: Lift. -/
namespace Go.Proofs.YtoiclicechfmgaaGreatDoor
open Go.RowKit

def losC (ls : List Int) : List Value := ls.map (.int .i64 ·)
/-- What a lift leaves of a file, the i-th one by its name. -/
def liftF (ls : List Int) (i : Nat) (q : List Int × Nat) : List Int × Nat := (q.1.take (q.2 + min (max 0 (ls.getD i 0)).toNat (q.1.length - q.2)), q.2 + min (max 0 (ls.getD i 0)).toNat (q.1.length - q.2))
/-- The files when the first i names are lifted. -/
def liftK (N : List ByteArray) (ls : List Int) : Nat → List (ByteArray × List Int × Nat) → List (ByteArray × List Int × Nat)
  | 0, fs => fs
  | i + 1, fs => match getM (liftK N ls i fs) (N.getD i ⟨#[]⟩) with
    | none => liftK N ls i fs
    | some q => putM (liftK N ls i fs) (N.getD i ⟨#[]⟩) (some (liftF ls i q))
theorem putM_names : ∀ {fs : List (ByteArray × List Int × Nat)} {nm : ByteArray} {q : List Int × Nat} (q' : List Int × Nat), getM fs nm = some q → (putM fs nm (some q')).map (·.1) = fs.map (·.1)
  | [], nm, q, q', h => by simp [getM] at h
  | x :: fs, nm, q, q', h => by
    unfold putM
    by_cases hx : x.1 = nm
    · rw [if_pos hx]; simp [hx]
    · rw [if_neg hx]
      have hb := bytes_ne hx
      have : getM fs nm = some q := by
        unfold getM at h ⊢
        rw [List.find?_cons, hb] at h
        exact h
      simp [putM_names q' this]
theorem liftK_names (N : List ByteArray) (ls : List Int) (fs : List (ByteArray × List Int × Nat)) : ∀ i, (liftK N ls i fs).map (·.1) = fs.map (·.1)
  | 0 => rfl
  | i + 1 => by
    unfold liftK
    cases h : getM (liftK N ls i fs) (N.getD i ⟨#[]⟩) with
    | none => exact liftK_names N ls fs i
    | some q => rw [putM_names _ h]; exact liftK_names N ls fs i
/-- The disk, lifted. -/
def liftM (N : List ByteArray) (s : Mst) (ls : List Int) : Mst := ⟨liftK N ls N.length s.fs, -1, false⟩
theorem bcut_take (xs : List Int) (k : Nat) : bc (xs.take k) = (bc xs).take k := by simp [bc, List.map_take]
theorem Bo.cut_ {w : World} {A : Option Addr} {n c : Nat} {xs : List Int} (h : Bo 0 w (.slice A n c) xs) (k : Nat) (hk : k ≤ n) : Bo 0 w (.slice A k k) (xs.take k) := by
  rcases h with ⟨hv, h0, hx⟩ | ⟨g, c', cur, hv, hB, hg, hc, hl, hs, ht⟩
  · injection hv with h1 h2 h3
    subst h1 h2
    obtain rfl : k = 0 := by omega
    exact .inl ⟨rfl, by simp, by simp [bc]⟩
  · injection hv with h1 h2 h3
    subst h1 h2 h3
    have hlt : (xs.take k).length = k := by simp; omega
    refine .inr ⟨g, k, cur, by rw [hlt], hB, hg, by omega, by rw [bc_len, hlt]; omega, by omega, ?_⟩
    rw [hlt, bcut_take, ← ht, List.take_take]
    congr 1
    omega
/-- What a round leaves. -/
theorem lift_step {wr : World} {d m ck : Nat} {fu : Int} {dead : Bool} {pre post : List Fl} {rn : ByteArray} {rf rb rsu : Nat} {rx : List Int} {A : Option Addr} {n c : Nat} (hfu : -1 ≤ fu ∧ fu ≤ 9223372036854775807) (hd : Blk wr d 30 #[.map (some m), .int .i64 fu, .bool dead])
    (hf : Fls wr m ck (pre ++ ⟨rn, rf, rb, .slice A n c, rx, rsu⟩ :: post)) (hn : n = rx.length) (k : Nat) (hk : k ≤ n) :
    (∃ F', Md ((wr.setCell ⟨rf, 1, none⟩ (.int .i64 k)).setCell ⟨rf, 0, none⟩ (.slice A k k)).drew.drew d ⟨pre.map Fl.pf ++ (rn, rx.take k, k) :: post.map Fl.pf, fu, dead⟩ F' ∧ ∀ j ∈ F', j ∈ d :: m :: (pre ++ ⟨rn, rf, rb, .slice A n c, rx, rsu⟩ :: post).flatMap Fl.bl) ∧
      Kp wr (d :: m :: (pre ++ ⟨rn, rf, rb, .slice A n c, rx, rsu⟩ :: post).flatMap Fl.bl) ((wr.setCell ⟨rf, 1, none⟩ (.int .i64 k)).setCell ⟨rf, 0, none⟩ (.slice A k k)).drew.drew := by
  have ho := hf.ok ⟨rn, rf, rb, .slice A n c, rx, rsu⟩ (by simp)
  have hblk := ho.blk
  have hown := ho.own
  simp only at hblk hown
  have kk : Kp wr [rf] ((wr.setCell ⟨rf, 1, none⟩ (.int .i64 k)).setCell ⟨rf, 0, none⟩ (.slice A k k)).drew.drew := ((((Kp.refl wr [rf]).setCell (p := ⟨rf, 1, none⟩) (.inl (by simp)) _).setCell (p := ⟨rf, 0, none⟩) (.inl (by simp)) _).below (Below.refl _ _).drew).below (Below.refl _ _).drew
  have kb := hblk.set_ 1 (.int .i64 k)
  have kb2 := kb.set_ 0 (.slice A k k)
  have hb : Blk ((wr.setCell ⟨rf, 1, none⟩ (.int .i64 k)).setCell ⟨rf, 0, none⟩ (.slice A k k)).drew.drew rf 100 #[.slice A k k, .int .i64 k, .string rn] := by
    have : Blk ((wr.setCell ⟨rf, 1, none⟩ (.int .i64 k)).setCell ⟨rf, 0, none⟩ (.slice A k k)) rf 100 #[.slice A k k, .int .i64 k, .string rn] := by simpa using kb2
    exact this
  have hbo : Bo 0 ((wr.setCell ⟨rf, 1, none⟩ (.int .i64 k)).setCell ⟨rf, 0, none⟩ (.slice A k k)).drew.drew (.slice A k k) (rx.take k) := ((hown.cut_ k hk).aside hblk (by decide) 1 (.int .i64 k)).aside kb (by decide) 0 (.slice A k k)
  have hlen := ho.len
  simp only at hlen
  have t := md_refile hfu hd hf (kk.mono (by simp [Fl.bl])) hb hbo (fun x hx => ho.by_ x (List.mem_of_mem_take hx)) (by simp; omega) (by simp; omega) (.inl (by cases A <;> rfl))
  obtain ⟨⟨F', hm, hF⟩, kp⟩ := t
  refine ⟨⟨F', hm, fun j hj => ?_⟩, kp⟩
  rcases hF j hj with h | h
  · exact h
  · have := hm.lt j hj
    have hs : ((wr.setCell ⟨rf, 1, none⟩ (.int .i64 k)).setCell ⟨rf, 0, none⟩ (.slice A k k)).drew.drew.heap.size = wr.heap.size := by
      show ((wr.setCell ⟨rf, 1, none⟩ (.int .i64 k)).setCell ⟨rf, 0, none⟩ (.slice A k k)).heap.size = wr.heap.size
      simp
    omega
theorem mthere (d m : Nat) (w : World) (c0 : w.cell? ⟨d, 0, none⟩ = some (.map (some m))) : Calls Tryz.prog 41 #[.pointer (some ⟨d, 0, none⟩)] w fun e w' => e = .returned (.bool true) ∧ w = w' := by
  have qm := fun (w : World) (r : Option Nat) => run_neq_map_nil (P := Tryz.prog) w _ _ _ r Tryz.underlying28
  go_enter Tryz.func41, Tryz.ntmps41
  go_wp2
  go_ret
  exact ⟨rfl, rfl⟩

set_option maxRecDepth 100000 in
set_option maxHeartbeats 4000000 in
theorem mlift (d : Nat) (s : Mst) (F : List Nat) (N : List ByteArray) (lv : Value) (ls : List Int) (w : World) (h : Md w d s F) (hp : (s.fs.map (·.1)).Perm N) (hN : N.Pairwise fun a b => ltB a b = true) (hlv : Rd w 1 lv ls.length (losC ls)) (hls : ∀ x ∈ ls, -9223372036854775808 ≤ x ∧ x ≤ 9223372036854775807) (hlv2 : ls.length = 0 ∨ ∀ k, lv.ownBlock = some k → k ∉ F) :
    Calls Tryz.prog 18 #[.pointer (some ⟨d, 0, none⟩), lv] w fun e w' => e = .returned (.tuple #[]) ∧ MdTo w F d (liftM N s ls) w' := by
  have NM := Lib.hid (mnames d s F N w h hp hN)
  have H := Lib.hid h
  have HP := Lib.hid hp
  have HLS := Lib.hid hls
  have HLV := Lib.hid hlv
  have HL2 := Lib.hid hlv2
  obtain ⟨m, hd, -⟩ := h.parts
  have c0 := hd.cell 0
  simp at c0
  obtain ⟨AL, cl, rfl, hlc, -, hlh⟩ := id hlv
  obtain ⟨ll, hll⟩ : ∃ ll, ll = ls.length := ⟨_, rfl⟩
  have LL := Lib.hid hll
  obtain ⟨n, hn⟩ : ∃ n, n = N.length := ⟨_, rfl⟩
  have NN := Lib.hid hn
  have MOST := Lib.hid (show N.length ≤ 16 from by
    obtain ⟨m, ck, rs, -, hf, hs, -⟩ := h.ex
    have := hp.length_eq
    rw [List.length_map, hs, List.length_map] at this
    have := hf.most
    omega)
  rw [← hn] at NM
  rw [← hll] at HLV HL2 ⊢
  clear h hp hN hlv hls hlv2 hd hll hn hlc hlh
  go_enter Tryz.func18, Tryz.ntmps18
  go_wp2_with fail
  refine (mthere d m _ c0).mono ?_
  rintro e w1 ⟨rfl, rfl⟩
  go_wp2_with fail
  refine NM.out.mono ?_
  rintro e w2 ⟨P, rfl, hr, hb, hfr⟩
  have RD := Lib.hid hr
  have FR := Lib.hid hfr
  have BW := Lib.hid hb
  clear hr hb hfr c0
  go_wp2
  go_loopg [4, 5, 6, 7, 14] n (fun g c4 c5 c6 c7 c14 wr => ∃ i : Nat, i ≤ n ∧ g = n - i ∧ c14 = .int .i64 i ∧ (∃ F', Md wr d ⟨liftK N ls i s.fs, s.fuse, s.dead⟩ F' ∧ ∀ j ∈ F', j ∈ F) ∧ Kp w F wr ∧ Rd wr 1 (.slice P n n) n (N.map Value.string))
  case atStart => exact ⟨0, by omega, by omega, rfl, ⟨F, H.out.below BW.out, fun _ h => h⟩, Kp.of_below BW.out F, RD.out⟩
  case round =>
    obtain ⟨i, hi, hg, rfl, ⟨F', hm, hF'⟩, hk, hrd⟩ := hrel
    have GG := Lib.hid hg
    have HM := Lib.hid hm
    have HF := Lib.hid hF'
    have HK := Lib.hid hk
    have HR := Lib.hid hrd
    obtain ⟨⟨m2, ck, rs, hd, hf, hs, hFe⟩, hfu⟩ := id hm
    simp only at hd hs hfu
    have e0 := hd.cell 0
    have e1 := hd.cell 1
    have e2 := hd.cell 2
    have fz := hd.free
    simp at e0 e1 e2
    have HD := Lib.hid hd
    have FU := Lib.hid hfu
    by_cases hin : i < n
    · have hiN : i < N.length := by have := NN.out; omega
      obtain ⟨nm, hnm⟩ : ∃ nm, nm = N[i] := ⟨_, rfl⟩
      have hgetD : N.getD i ⟨#[]⟩ = nm := by rw [List.getD_eq_getElem?_getD, List.getElem?_eq_getElem hiN, hnm]; rfl
      have hmem : nm ∈ rs.map (·.nm) := by
        have h1 : nm ∈ s.fs.map (·.1) := HP.out.mem_iff.2 (by rw [hnm]; exact List.getElem_mem hiN)
        rw [← liftK_names N ls s.fs i, hs, List.map_map] at h1
        exact h1
      obtain ⟨gP, oP, rfl, hcP⟩ : ∃ gP oP, P = some ⟨gP, oP, none⟩ ∧ wr.cell? ⟨gP, oP + i, none⟩ = some (.string nm) := by
        obtain ⟨A', c', hv, -, -, h0 | ⟨g, o, rfl, -, hc⟩⟩ := hrd
        · omega
        · injection hv with h1 _ _
          exact ⟨g, o, h1, hc i _ (by simp [hiN, hnm])⟩
      rcases hf.find nm with hno | ⟨pre, r, post, hrs, hrn, hpre, -⟩
      · obtain ⟨r, hr, e⟩ := List.mem_map.1 hmem
        exact absurd e (hno r hr)
      subst hrs
      obtain ⟨rn, rf, rb, rv, rx, rsu⟩ := r
      simp only at hrn
      subst hrn
      have ho := hf.ok ⟨rn, rf, rb, rv, rx, rsu⟩ (by simp)
      obtain ⟨A, c, hv, hc, -⟩ := ho.own.clip
      simp only at hv hc
      subst hv
      have hblk := ho.blk
      have hsule := ho.su
      have hlen := ho.len
      simp only at hblk hsule hlen
      have s0 := hblk.cell 0
      have s1 := hblk.cell 1
      have fzf := hblk.free
      simp at s0 s1
      have hdf : ¬ rf = d := fun e => (hd.ne_ hblk (by decide)) e.symm
      have hdf2 : ¬ d = rf := fun e => hdf e.symm
      have hmm := hf.map_
      rw [List.map_append, List.map_cons] at hmm
      have hl := run_mlook_at (P := Tryz.prog) Tryz.underlying28 Tryz.underlying9 rn (f := rf) (born := rb) hmm (keys_ne hpre)
      obtain ⟨x, hx⟩ : ∃ x, x = ls.getD i 0 := ⟨_, rfl⟩
      obtain ⟨nl, hnl⟩ : ∃ nl, nl = rx.length := ⟨_, rfl⟩
      obtain ⟨k, hkk⟩ : ∃ k, k = rsu + min (max 0 x).toNat (nl - rsu) := ⟨_, rfl⟩
      have XB := Lib.hid (show -9223372036854775808 ≤ x ∧ x ≤ 9223372036854775807 from by
        rw [hx]
        by_cases h : i < ls.length
        · rw [List.getD_eq_getElem?_getD, List.getElem?_eq_getElem h]; exact HLS.out _ (List.getElem_mem h)
        · rw [List.getD_eq_getElem?_getD, List.getElem?_eq_none (by omega)]; simp)
      have XC := Lib.hid (show i < ll → ∃ g o, AL = some ⟨g, o, none⟩ ∧ wr.cell? ⟨g, o + i, none⟩ = some (.int .i64 x) from fun hil => by
        have hrl := hk.rd HLV.out HL2.out
        obtain ⟨A', c', hv, -, -, h0 | ⟨g, o, rfl, -, hcl⟩⟩ := hrl
        · omega
        · injection hv with h1 _ _
          refine ⟨g, o, h1, hcl i _ ?_⟩
          have := LL.out
          rw [hx, List.getD_eq_getElem?_getD, List.getElem?_eq_getElem (show i < ls.length by omega)]
          simp [losC, show i < ls.length by omega])
      have XN := Lib.hid (show ¬ i < ll → x = 0 from fun hil => by
        have := LL.out
        rw [hx, List.getD_eq_getElem?_getD, List.getElem?_eq_none (show ls.length ≤ i by omega)]
        rfl)
      have KLE := Lib.hid (show k ≤ nl from by rw [hkk]; omega)
      have END := Lib.hid (show ∀ k2 : Nat, k2 = k → ∃ i' : Nat, i' ≤ n ∧ n - (i + 1) = n - i' ∧ Value.int .i64 ((i : Int) + 1) = .int .i64 i' ∧
          (∃ F'', Md ((wr.setCell ⟨rf, 1, none⟩ (.int .i64 k2)).setCell ⟨rf, 0, none⟩ (.slice A k2 k2)).drew.drew d ⟨liftK N ls i' s.fs, s.fuse, s.dead⟩ F'' ∧ ∀ j ∈ F'', j ∈ F) ∧
          Kp w F ((wr.setCell ⟨rf, 1, none⟩ (.int .i64 k2)).setCell ⟨rf, 0, none⟩ (.slice A k2 k2)).drew.drew ∧ Rd ((wr.setCell ⟨rf, 1, none⟩ (.int .i64 k2)).setCell ⟨rf, 0, none⟩ (.slice A k2 k2)).drew.drew 1 (.slice (some ⟨gP, oP, none⟩) n n) n (N.map Value.string) from fun k2 hk2 => by
        subst hk2
        have hkn : k2 ≤ rx.length := by have := KLE.out; omega
        obtain ⟨⟨F'', h1, h2⟩, h3⟩ := lift_step (rsu := rsu) hfu hd hf rfl k2 hkn
        rw [← hFe] at h2 h3
        refine ⟨i + 1, by omega, rfl, by simp, ⟨F'', ?_, fun j hj => hF' j (h2 j hj)⟩, hk.trans h3 (fun j hj => .inl (hF' j hj)), h3.rd hrd ?_⟩
        · have e : liftK N ls (i + 1) s.fs = pre.map Fl.pf ++ (rn, rx.take k2, k2) :: post.map Fl.pf := by
            show (match getM (liftK N ls i s.fs) (N.getD i ⟨#[]⟩) with | none => _ | some q => _) = _
            have hg : getM (liftK N ls i s.fs) rn = some (rx, rsu) := by rw [hs]; exact getM_at (r := ⟨rn, rf, rb, .slice A rx.length c, rx, rsu⟩) hpre
            rw [hgetD, hg]
            simp only
            rw [hs, List.map_append, List.map_cons]
            have := putM_at (pre := pre.map Fl.pf) (post := post.map Fl.pf) (nm := rn) (rx, rsu) (some (liftF ls i (rx, rsu))) (fun y hy => by
              obtain ⟨r', hr', rfl⟩ := List.mem_map.1 hy
              exact hpre r' hr')
            rw [show Fl.pf ⟨rn, rf, rb, .slice A rx.length c, rx, rsu⟩ = (rn, (rx, rsu)) from rfl, this]
            have hL : liftF ls i (rx, rsu) = (rx.take k2, k2) := by
              unfold liftF
              simp only
              rw [← hx, ← hnl, ← hkk]
            rw [hL]
            simp
          rw [e]; exact h1
        · rcases FR.out with h | h
          · exact .inl h
          · exact .inr fun j hj hin => by
              have h4 := h j hj
              have h5 := H.out.lt j (hF' j hin)
              omega)
      have KE := Lib.hid hkk
      rw [← hnl] at s0 hc hsule hlen
      have hkc : (k : Int) ≤ (c : Int) := by have := KLE.out; omega
      have hk0 : (0 : Int) ≤ (k : Int) := by omega
      have hs1 : IntKind.i64.wrap ((nl : Int) - (rsu : Int)) = (nl : Int) - (rsu : Int) := IntWalk.i64_in _ (by omega)
      have hw1 : IntKind.i64.wrap ((i : Int) + 1) = (i : Int) + 1 := IntWalk.i64_in _ (by have := MOST.out; omega)
      have hi0 : (0 : Int) ≤ (i : Int) := by omega
      have hi1 : (i : Int) < (n : Int) := by omega
      have XBB := XB.out
      by_cases hil : i < ll
      · obtain ⟨gL, oL, rfl, hcL⟩ := XC.out hil
        have hil' : (i : Int) < (ll : Int) := by omega
        have hs2 : IntKind.i64.wrap ((rsu : Int) + min (max 0 x) ((nl : Int) - (rsu : Int))) = (k : Int) := (IntWalk.i64_in _ (by omega)).trans (by omega)
        clear hg hm hF' hk hrd hd hf hs hFe hfu hiN hnm hgetD hmem ho hblk hlen hmm hpre hx hnl XBB hkk hsule
        go_wp2
        go_region
        all_goals go_wp2
        go_region
        all_goals go_wp2
        go_roundg (n - (i + 1))
        case measure => have := GG.out; omega
        case rel => exact END.out k rfl
      · have hil' : ¬ (i : Int) < (ll : Int) := by omega
        have hx0 := XN.out hil
        have hs2 : IntKind.i64.wrap ((rsu : Int) + min 0 ((nl : Int) - (rsu : Int))) = (k : Int) := (IntWalk.i64_in _ (by omega)).trans (by omega)
        clear hg hm hF' hk hrd hd hf hs hFe hfu hiN hnm hgetD hmem ho hblk hlen hmm hpre hx hnl XBB hkk hsule hx0
        go_wp2
        go_region
        all_goals go_wp2
        go_region
        all_goals go_wp2
        go_roundg (n - (i + 1))
        case measure => have := GG.out; omega
        case rel => exact END.out k rfl
    · obtain rfl : i = n := by omega
      have hw1 : ¬ (i : Int) < (i : Int) := by omega
      clear hg hm hF' hk hrd hd hf hs hFe hfu
      go_wp2
      go_end0
      have k : Kp wr [d] ((wr.setCell ⟨d, 2, none⟩ (.bool false)).setCell ⟨d, 1, none⟩ (.int .i64 (-1))) := ((Kp.refl _ _).setCell (.inl (by simp)) _).setCell (.inl (by simp)) _
      have hdF : d ∈ F := by
        obtain ⟨_, _, h⟩ := H.out.parts
        exact h
      refine ⟨rfl, ⟨F', HM.out.own (s' := liftM N s ls) (by unfold liftM; simp only; rw [← NN.out]) (by unfold liftM; simp) k fun m3 h3 => ?_, fun _ hk => .inl (HF.out _ hk)⟩, HK.out.trans k (by simp; exact .inl hdF)⟩
      have := (h3.set_ 2 (.bool false)).set_ 1 (.int .i64 (-1))
      simpa [liftM] using this
end Go.Proofs.YtoiclicechfmgaaGreatDoor
