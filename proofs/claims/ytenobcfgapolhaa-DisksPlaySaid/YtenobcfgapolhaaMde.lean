/- A disk of any files: its names. -/
import Derived.Test.YtenobcfgapolhaaMdd
import Derived.Test.YtenobcfgapolhaaDskN
import Derived.Test.YtenobcfgapolhaaZy
namespace Go.Proofs.Ytenobcfgapolhaa
open Go.RowKit

section
variable {P : Program} {W : World} {it m since c0 clock : Nat} {seen : Array Nat} {es : Array MapEntry}
theorem run_next_any (ty : TypeId) (hi : W.heap[it]? = some (.mapIter (some m) since seen c0)) (hb : W.heap[m]? = some (.map es clock)) (hold : ∀ x ∈ es.toList, x.born < since) (hsc : since ≤ c0) :
    ((leftOf es seen).size = 0 ∧ (Instr.next (.pointer (some ⟨it, 0, none⟩)) false ty).run P W = .ok (.tuple #[.bool false]) W) ∨
    ∃ e ∈ (leftOf es seen).toList, ∃ n, (Instr.next (.pointer (some ⟨it, 0, none⟩)) false ty).run P W = .ok (.tuple #[.bool true, e.key, e.val]) (setH (W.drewN n) it (.mapIter (some m) since (seen.push e.born) clock)) := by
  simp only [Instr.next, getObj, Sem.run_bind, Sem.run, hi, hb, Result.andThen, next_test_false seen es since c0 hold hsc, Bool.false_eq_true, if_false]
  unfold leftOf
  have hmem : ∀ x ∈ (Array.filter (fun e => !seen.contains e.born) es).toList, x.born < since := fun x hx => hold x (by simp at hx ⊢; exact hx.1)
  generalize Array.filter (fun e => !seen.contains e.born) es = L at hmem ⊢
  have e1 : L.filter (fun x => decide (x.born < since)) = L := Array.filter_eq_self.2 (fun x hx => by simpa using hmem x (by simpa using hx))
  have e2 : L.filter (fun x => decide (x.born ≥ since)) = #[] := by
    rw [Array.filter_eq_empty_iff]
    intro x hx
    have := hmem x (by simpa using hx)
    simp
    omega
  simp only [e1, e2, Array.append_empty]
  by_cases h0 : L.size = 0
  · left
    have : L = #[] := Array.eq_empty_of_size_eq_zero h0
    subst this
    refine ⟨rfl, ?_⟩
    simp [choose, Sem.run, Question.forced]
  · right
    have hne : L.isEmpty = false := by simp [Array.isEmpty, h0]
    simp only [hne, Bool.false_eq_true, if_false, Array.empty_append, Array.size_map]
    have hch : ∃ (j : Nat) (n : Nat), j < L.size ∧ (choose (Question.mapNext L.size)).run P W = .ok j (W.drewN n) := by
      by_cases hf : L.size ≤ 1
      · exact ⟨0, 0, by omega, by simp [choose, Sem.run, Question.forced, hf, World.drewN]⟩
      · exact ⟨_, 1, Nat.mod_lt _ (by omega), by
          simp only [choose, Sem.run, Question.forced, decide_eq_true_eq, hf, if_false, Question.cut]
          rfl⟩
    obtain ⟨j, n, hj, hrun⟩ := hch
    refine ⟨L[j], by simp, n, ?_⟩
    have hset : ∀ (o' : Obj), (setObj it o').run P (W.drewN n) = .ok () (setH (W.drewN n) it o') := fun o' => by
      simp only [setObj, Sem.run]
      rw [show (W.drewN n).heap[it]? = _ from hi]
      rfl
    simp only [hrun, Array.getElem?_map, Array.getElem?_eq_getElem hj, Option.map_some, Sem.run_bind, hset, Result.andThen]
    rfl
theorem run_entry_any {e : MapEntry} (hi : W.heap[it]? = some (.mapIter (some m) since (seen.push e.born) clock)) (hb : W.heap[m]? = some (.map es clock)) (he : e ∈ es.toList) (hn : (es.toList.map (·.born)).Nodup) :
    (Instr.entry (.pointer (some ⟨it, 0, none⟩))).run P W = .ok (.tuple #[e.key, e.val]) W := by
  have hf : es.find? (·.born == e.born) = some e := by rw [← Array.find?_toList]; exact find_born e es.toList hn he
  simp only [Instr.entry, getObj, Sem.run_bind, Sem.run, hi, hb, Result.andThen, Array.back?_push, bne_self_eq_false, Bool.false_eq_true, if_false, hf]
  rfl
end

/-- Some of the files, as the loop met them. -/
structure Met (rs ys : List Fl) : Prop where
  sub : ∀ y ∈ ys, y ∈ rs
  nd : (ys.map (·.born)).Nodup
theorem Met.nil (rs : List Fl) : Met rs [] := ⟨by simp, by simp⟩
theorem born_inj_ {rs : List Fl} (h : (rs.map (·.born)).Nodup) {x y : Fl} (hx : x ∈ rs) (hy : y ∈ rs) (e : x.born = y.born) : x = y := by
  induction rs with
  | nil => cases hx
  | cons a l ih =>
    rw [List.map_cons, List.nodup_cons] at h
    rcases List.mem_cons.1 hx with hx | hx
    · rcases List.mem_cons.1 hy with hy | hy
      · exact hx.trans hy.symm
      · exact absurd (by rw [← hx, e]; exact List.mem_map_of_mem hy) h.1
    · rcases List.mem_cons.1 hy with hy | hy
      · exact absurd (by rw [← hy, ← e]; exact List.mem_map_of_mem hx) h.1
      · exact ih h.2 hx hy
theorem nodup_of_map_ {rs : List Fl} (h : (rs.map (·.born)).Nodup) : rs.Nodup := by
  induction rs with
  | nil => exact List.nodup_nil
  | cons a l ih =>
    rw [List.map_cons, List.nodup_cons] at h
    exact List.nodup_cons.2 ⟨fun hm => h.1 (List.mem_map_of_mem hm), ih h.2⟩
theorem Met.snoc {rs ys : List Fl} {r : Fl} (h : Met rs ys) (hr : r ∈ rs) (hn : r.born ∉ ys.map (·.born)) : Met rs (ys ++ [r]) := by
  refine ⟨fun y hy => ?_, ?_⟩
  · rcases List.mem_append.1 hy with hy | hy
    · exact h.sub y hy
    · simp at hy; subst hy; exact hr
  · rw [List.map_append, List.nodup_append]
    exact ⟨h.nd, by simp, fun a ha b hb e => by simp at hb; subst hb; subst e; exact hn ha⟩
theorem len_le_sub : ∀ {ys rs : List Fl}, ys.Nodup → (∀ y ∈ ys, y ∈ rs) → ys.length ≤ rs.length
  | [], _, _, _ => by simp
  | y :: ys, rs, hn, h => by
    obtain ⟨pre, post, rfl⟩ := List.append_of_mem (h y (by simp))
    have hn' := List.nodup_cons.1 hn
    have := len_le_sub (rs := pre ++ post) hn'.2 fun z hz => by
      have hzy : z ≠ y := fun e => hn'.1 (e ▸ hz)
      have := h z (by simp [hz])
      simp [hzy] at this ⊢
      exact this
    simp at this ⊢
    omega
theorem Met.le {rs ys : List Fl} (h : Met rs ys) : ys.length ≤ rs.length := len_le_sub (nodup_of_map_ h.nd) h.sub
theorem Met.all {rs ys : List Fl} (h : Met rs ys) (hb : (rs.map (·.born)).Nodup) (ha : ∀ r ∈ rs, r.born ∈ ys.map (·.born)) : ys.Perm rs := by
  refine (List.perm_ext_iff_of_nodup (nodup_of_map_ h.nd) (nodup_of_map_ hb)).2 fun x => ⟨h.sub x, fun hx => ?_⟩
  obtain ⟨y, hy, e⟩ := List.mem_map.1 (ha x hx)
  rw [← born_inj_ hb (h.sub y hy) hx e]
  exact hy

set_option maxRecDepth 100000 in
set_option maxHeartbeats 4000000 in
theorem mnames (d : Nat) (s : Mst) (F : List Nat) (N : List ByteArray) (w : World) (h : Md w d s F) (hp : (s.fs.map (·.1)).Perm N) (hN : N.Pairwise fun a b => ltB a b = true) :
    Calls Try.prog 29 #[.pointer (some ⟨d, 0, none⟩)] w fun e w' => ∃ P, e = .returned (.slice P N.length N.length) ∧ Rd w' 1 (.slice P N.length N.length) N.length (N.map Value.string) ∧ Below w.heap.size w w' ∧ (N.length = 0 ∨ ∀ k, (Value.slice P N.length N.length).ownBlock = some k → w.heap.size ≤ k) := by
  obtain ⟨m, ck, rs, hd, hf, hs, -⟩ := h.ex
  have hp' : (rs.map (·.nm)).Perm N := by
    have : s.fs.map (·.1) = rs.map (·.nm) := by rw [hs, List.map_map]; rfl
    rwa [this] at hp
  have PN := Lib.hid (And.intro hp' hN)
  have c0 := hd.cell 0
  simp at c0
  have qm := fun (w : World) (r : Option Nat) => run_neq_map_nil (P := Try.prog) w _ _ _ r Try.underlying44
  have hml := lt_of_heap hf.map_
  have hr := run_range_map (P := Try.prog) w 44 _ _ m _ ck Try.underlying44 hf.map_
  have I0 := Lib.hid (heap_alloc_new w (.mapIter (some m) ck #[] ck))
  have MB := Lib.hid (show ∀ u, Below w.heap.size w u → u.heap[m]? = some (.map (rs.map Fl.en).toArray ck) from fun u hu => (hu.block m hml).trans hf.map_)
  have B0 := Lib.hid (below_alloc_ w (.mapIter (some m) ck #[] ck))
  have BO := Lib.hid hf.borns
  have OLD := Lib.hid (show ∀ x ∈ (rs.map Fl.en).toArray.toList, x.born < ck from fun x hx => by
    obtain ⟨r, hr, rfl⟩ := List.mem_map.1 (show x ∈ rs.map Fl.en by simpa using hx)
    exact (hf.ok r hr).born)
  have MOST := Lib.hid hf.most
  have NL := Lib.hid (show N.length = rs.length from by have := hp'.length_eq; simpa using this.symm)
  clear hd hf hs h hp hN hp' hml
  go_enter Try.func29, Try.ntmps29
  go_wp2
  go_loopg [2, 3] rs.length (fun g c2 c3 wr => ∃ ys : List Fl, g = rs.length - ys.length ∧ Met rs ys ∧ wr.heap[w.heap.size]? = some (.mapIter (some m) ck (ys.map (·.born)).toArray ck) ∧ Below w.heap.size w wr ∧ w.heap.size < wr.heap.size ∧
    Ow (w.heap.size + 1) wr 9 1 c2 ys.length (ys.map fun y => Value.string y.nm))
  case atStart => exact ⟨[], by simp, Met.nil _, I0.out, B0.out, by simp, .inl ⟨rfl, rfl, rfl⟩⟩
  case round =>
    obtain ⟨ys, hg, hmet, hi, hb, hlt, ho⟩ := hrel
    obtain ⟨A, c, rfl, hcc, -⟩ := id (Ow.clip ho)
    have MET := Lib.hid hmet
    have IT := Lib.hid hi
    have BL := Lib.hid hb
    have LT := Lib.hid hlt
    have OY := Lib.hid ho
    have GG := Lib.hid hg
    have hm := MB.out _ hb
    have HM := Lib.hid hm
    rcases run_next_any (P := Try.prog) 0 hi hm OLD.out (Nat.le_refl _) with ⟨h0, -⟩ | ⟨e, he, nd, hx0⟩
    · have hx : ∀ ty, (Instr.next (.pointer (some ⟨w.heap.size, 0, none⟩)) false ty).run Try.prog wr = .ok (.tuple #[.bool false]) wr := fun ty => by
        rcases run_next_any (P := Try.prog) ty hi hm OLD.out (Nat.le_refl _) with ⟨_, h⟩ | ⟨e, he, _⟩
        · exact h
        · exact absurd he (by rw [Array.eq_empty_of_size_eq_zero h0]; simp)
      have hperm : ys.Perm rs := hmet.all BO.out fun r hr => by
        have := all_seen _ _ h0 r.en (by simpa using ⟨r, hr, rfl⟩)
        rw [Array.contains_iff_mem] at this
        simpa [Fl.en, ent] using this
      have hz : (ys.map (·.nm)).Perm N := (hperm.map _).trans PN.out.1
      have HZ := Lib.hid hz
      have hyl : ys.length = N.length := by have := hz.length_eq; simpa using this
      have HYL := Lib.hid hyl
      clear hmet hi hb hlt ho hg hm hperm hz h0 hr
      by_cases hy0 : ys.length = 0
      · have hN0 : N = [] := List.eq_nil_of_length_eq_zero (by omega)
        subst hN0
        rw [hy0]
        clear hyl hy0
        go_wp2_with (first | (go_at_call 48; refine (ssort_small _ _ _ _ (by omega)).mono ?_; rintro e w' ⟨rfl, rfl⟩) | (go_at_call 49; refine (sclip_any _ _ _ _ (by omega) (by omega)).mono ?_; rintro e w' ⟨rfl, rfl⟩))
        go_ret
        exact ⟨A, rfl, ⟨A, 0, rfl, Nat.le_refl _, rfl, .inl rfl⟩, BL.out, .inl rfl⟩
      · obtain ⟨g, c', rest, hv, hsd, hcl, hB⟩ := ow_sd (w := wr) (B := w.heap.size + 1) (v := .slice A ys.length c) (zs := ys.map (·.nm)) (by rw [List.map_map, List.length_map]; exact OY.out) (by simp; omega)
        simp only [List.length_map] at hv hcl
        injection hv with h1 _ h3
        subst h1 h3
        have SC := Lib.hid (show Calls Try.prog 48 #[.slice (some ⟨g, 0, none⟩) ys.length c] wr (SortsS wr g N rest) from by
          have := ssort_any (c := c) hsd (by simp; have := MOST.out; have := NL.out; omega) (by simpa using hcl) HZ.out PN.out.2
          simpa using this)
        have GB := Lib.hid hB
        have YM := Lib.hid (show ys.length ≤ 16 from by have := MOST.out; have := NL.out; omega)
        obtain ⟨k, hk⟩ : ∃ k, k = ys.length := ⟨_, rfl⟩
        rw [← hk] at SC YM hcl ⊢
        have KN := Lib.hid (show k = N.length from hk.trans hyl)
        clear hsd hyl hy0 hB hk
        go_wp2_with fail
        refine SC.out.mono ?_
        rintro e w2 ⟨rfl, h2⟩
        have H2 := Lib.hid h2
        clear h2
        go_wp2_with fail
        refine (sclip_any _ _ _ _ hcl (by have := YM.out; omega)).mono ?_
        rintro e w3 ⟨rfl, rfl⟩
        go_wp2
        go_ret
        rw [KN.out]
        exact ⟨_, rfl, sd_rd H2.out (Nat.le_refl _), below_grown_ BL.out H2.out.kp BL.out.size (by have := GB.out; omega), .inr fun k hk => by simp [Value.ownBlock] at hk; have := GB.out; omega⟩
    · obtain ⟨hee, hes⟩ := mem_left he
      have hee2 : e ∈ rs.map Fl.en := by simpa using hee
      obtain ⟨r, hrr, rfl⟩ := List.mem_map.1 hee2
      have hnew : r.born ∉ ys.map (·.born) := fun hm => by
        have h1 : (ys.map (·.born)).toArray.contains r.born = true := by rw [Array.contains_iff_mem]; simpa using hm
        have h2 : (ys.map (·.born)).toArray.contains r.en.born = false := hes
        rw [show r.en.born = r.born from rfl, h1] at h2
        cases h2
      have hx : ∀ ty, (Instr.next (.pointer (some ⟨w.heap.size, 0, none⟩)) false ty).run Try.prog wr = .ok (.tuple #[.bool true, .string r.nm, .pointer (some ⟨r.f, 0, none⟩)]) (setH (wr.drewN nd) w.heap.size (.mapIter (some m) ck ((ys.map (·.born)).toArray.push r.born) ck)) := fun ty => hx0
      have hset := MapKept.heap_set (o' := Obj.mapIter (some m) ck ((ys.map (·.born)).toArray.push r.born) ck) (show (wr.drewN nd).heap[w.heap.size]? = _ from hi)
      obtain ⟨W1, hW1⟩ : ∃ W1, W1 = setH (wr.drewN nd) w.heap.size (.mapIter (some m) ck ((ys.map (·.born)).toArray.push r.born) ck) := ⟨_, rfl⟩
      have hi1 : W1.heap[w.heap.size]? = some (.mapIter (some m) ck ((ys.map (·.born)).toArray.push r.born) ck) := by rw [hW1]; exact hset.1
      have k1 : Kp wr [w.heap.size] W1 := by rw [hW1]; exact ((Kp.refl wr _).below (below_drewN_ _ _ nd)).setH (.inl (by simp)) _
      have b1 : Below w.heap.size w W1 := hb.trans (k1.to_below (by simp) hb.size)
      have he1 := run_entry_any (P := Try.prog) hi1 (MB.out _ b1) (e := r.en) (by simpa using ⟨r, hrr, rfl⟩) (by rw [show (rs.map Fl.en).toArray.toList = rs.map Fl.en from rfl, List.map_map]; exact BO.out)
      have he2 : (Instr.entry (.pointer (some ⟨w.heap.size, 0, none⟩))).run Try.prog W1 = .ok (.tuple #[.string r.nm, .pointer (some ⟨r.f, 0, none⟩)]) W1 := he1
      rw [← hW1] at hx
      have ON := Lib.hid (k1.ow ho (fun j hj => by
        have := Ow.blk_lt ho j hj
        simp
        omega))
      have IT1 := Lib.hid hi1
      have B1 := Lib.hid b1
      have SZ1 := Lib.hid (Nat.lt_of_lt_of_le hlt k1.size)
      have SNO := Lib.hid (hmet.snoc hrr hnew)
      have YL := Lib.hid (show ys.length + 1 ≤ rs.length from by have := (hmet.snoc hrr hnew).le; simpa using this)
      have hyl : ys.length < rs.length := by have := YL.out; omega
      have hmost : ys.length ≤ 16 := by have := MOST.out; omega
      obtain ⟨rn, rf, rb, rv, rx, rsu⟩ := r
      simp only at hx he2 SNO hi1 hnew
      obtain ⟨yl, hyl2⟩ : ∃ yl, yl = ys.length := ⟨_, rfl⟩
      rw [← hyl2] at ON hmost ⊢
      have YLE := Lib.hid hyl2
      clear hmet hi hb hlt ho hg hm he hee hes hee2 hrr hnew hx0 hset hW1 hi1 k1 b1 he1 hr hyl hyl2
      go_wp2_with (at_builtin; refine wpList_ow rfl _ _ 53 9 (.string ⟨#[]⟩) 1 16 rfl Try.underlying53 str_info rfl (by decide) rfl #[.string rn] ON.out (by have := SZ1.out; omega) rfl (by simp [Value.oneCell']) rfl (by omega) (by unfold maxLen; omega) ?_; intro v3 w3 hO3 hg3; have O3 := Lib.hid hO3; have G3 := Lib.hid hg3; clear hO3 hg3)
      go_roundg (rs.length - (yl + 1))
      case measure => have := GG.out; have := YL.out; have := YLE.out; omega
      case rel =>
        have hlo : ∀ k, (Value.slice A yl c).ownBlock = some k → w.heap.size + 1 ≤ k := Ow.blk_lt ON.out
        have b3 : Below (w.heap.size + 1) W1 w3 := ⟨G3.out.1.os, G3.out.1.tape, G3.out.1.output, G3.out.1.size, fun i hi => G3.out.1.block i (by have := SZ1.out; omega) (fun e => by have := hlo i e.symm; omega)⟩
        refine ⟨ys ++ [⟨rn, rf, rb, rv, rx, rsu⟩], by simp; have := YLE.out; omega, SNO.out, ?_, B1.out.trans (b3.mono (by omega)), Nat.lt_of_lt_of_le SZ1.out G3.out.1.size, ?_⟩
        · have := (b3.block w.heap.size (by omega)).trans IT1.out
          rw [this]
          simp
        · have := O3.out
          rw [YLE.out] at this
          simpa using this
end Go.Proofs.Ytenobcfgapolhaa
