import Derived.Test.YtoiclicechfmgaaGreatDoorUbz
import Derived.Test.YtoiclicechfmgaaGreatDoorUhz
/- A disk's twin, in plain Lean. -/
namespace Go.Proofs.YtoiclicechfmgaaGreatDoor
open Go.RowKit

def twN (s : Mst) (N : List ByteArray) : Pfs := N.map fun nm => (nm, (readM s nm).1, (readM s nm).1.length)
/-- The twin behind the first names. -/
def twS (s : Mst) (N : List ByteArray) (i : Nat) : Mst := ⟨twN s (N.take i), -1, false⟩
theorem twN_names (s : Mst) (N : List ByteArray) : (twN s N).map (·.1) = N := by
  unfold twN
  rw [List.map_map]
  exact List.map_id _
theorem tw_step {s : Mst} {N : List ByteArray} (hN : N.Nodup) (h16 : N.length ≤ 16) (hn : ∀ nm ∈ N, 1 ≤ nm.size ∧ nm.size ≤ 16) (hlen : ∀ nm, (readM s nm).1.length ≤ 1048576) {i : Nat} (hi : i < N.length) :
    doesM (twS s N i) N[i] (readM s N[i]).1.length true (fun _ => some ((readM s N[i]).1, (readM s N[i]).1.length)) = (twS s N (i + 1), 0) := by
  have hnot : N[i] ∉ N.take i := fun h => by
    have h1 : N.take (i + 1) = N.take i ++ [N[i]] := by rw [List.take_add_one]; simp [List.getElem?_eq_getElem hi]
    have h2 : (N.take (i + 1)).Nodup := hN.sublist (List.take_sublist _ _)
    rw [h1, List.nodup_append] at h2
    exact h2.2.2 _ h _ (by simp) rfl
  have hfs : ∀ x ∈ (twS s N i).fs, x.1 ≠ N[i] := fun x hx e => by
    have : x.1 ∈ (twN s (N.take i)).map (·.1) := List.mem_map_of_mem hx
    rw [twN_names, e] at this
    exact hnot this
  have hg : getM (twS s N i).fs N[i] = none := by
    unfold getM
    rw [List.find?_eq_none.2]
    · rfl
    · intro q hq
      simpa using bytes_ne (hfs q hq)
  have ha : askM (twS s N i) N[i] = 0 := by
    obtain ⟨h1, h2⟩ := hn N[i] (List.getElem_mem _)
    unfold askM
    rw [if_neg (by simp [twS]), if_neg (by omega)]
  have hl : (twS s N i).fs.length = i := by simp [twS, twN]; omega
  have hb : burnM (twS s N i) = (twS s N i, 0) := rfl
  unfold doesM
  rw [if_neg (by rw [ha]; simp), if_neg (by simp), if_neg (by rw [hl]; have := hlen N[i]; rintro (h | ⟨_, h⟩) <;> omega), if_neg (by simp [twS]), hb, hg, putM_new _ hfs]
  simp only [Option.getD_none, Option.toList_some, List.map_cons, List.map_nil]
  congr 1
  unfold twS
  congr 1
  rw [show N.take (i + 1) = N.take i ++ [N[i]] from by rw [List.take_add_one]; simp [List.getElem?_eq_getElem hi]]
  unfold twN
  rw [List.map_append]
  rfl
/-- The document's twin behind the first files. -/
def rtS (s : Mst) : Nat → Mst
  | 0 => ⟨[], -1, false⟩
  | i + 1 => (doesL (rtS s i) ((s.fs.map (·.1)).getD i ⟨#[]⟩) (readM s ((s.fs.map (·.1)).getD i ⟨#[]⟩)).1.length true
      (fun _ => some ((readM s ((s.fs.map (·.1)).getD i ⟨#[]⟩)).1, (readM s ((s.fs.map (·.1)).getD i ⟨#[]⟩)).1.length))).1
theorem tw_al {a b : Mst} (ha : Al a b) (h16 : b.fs.length ≤ 16) (hn : ∀ nm ∈ b.fs.map (·.1), 1 ≤ nm.size ∧ nm.size ≤ 16) (hlen : ∀ nm, (readM a nm).1.length ≤ 1048576) :
    ∀ i, i ≤ b.fs.length → Al (twS a (b.fs.map (·.1)) i) (rtS b i)
  | 0, _ => ⟨.refl _, List.Pairwise.nil, rfl, rfl⟩
  | i + 1, hi => by
    have ih := tw_al ha h16 hn hlen i (by omega)
    have hil : i < (b.fs.map (·.1)).length := by simp; omega
    have hs := tw_step (s := a) (N := b.fs.map (·.1)) ha.so.nodup (by simpa using h16) hn hlen (i := i) hil
    have hd := ih.does (b.fs.map (·.1))[i] (readM a (b.fs.map (·.1))[i]).1.length true (fun _ => some ((readM a (b.fs.map (·.1))[i]).1, (readM a (b.fs.map (·.1))[i]).1.length))
    rw [hs] at hd
    have he : (b.fs.map (·.1)).getD i ⟨#[]⟩ = (b.fs.map (·.1))[i] := by rw [List.getD_eq_getElem?_getD, List.getElem?_eq_getElem hil]; rfl
    unfold rtS
    rw [he, ← ha.read]
    exact hd.2
theorem Md.names {w : World} {d : Nat} {s : Mst} {F : List Nat} (h : Md w d s F) : ∀ nm ∈ s.fs.map (·.1), 1 ≤ nm.size ∧ nm.size ≤ 16 := by
  obtain ⟨m, ck, rs, -, hf, hs, -⟩ := h.ex
  intro nm hn
  rw [hs, List.map_map] at hn
  obtain ⟨r, hr, rfl⟩ := List.mem_map.1 hn
  exact ⟨(hf.ok r hr).n1, (hf.ok r hr).n16⟩
theorem Md.most {w : World} {d : Nat} {s : Mst} {F : List Nat} (h : Md w d s F) : s.fs.length ≤ 16 := by
  obtain ⟨m, ck, rs, -, hf, hs, -⟩ := h.ex
  rw [hs, List.length_map]; exact hf.most
end Go.Proofs.YtoiclicechfmgaaGreatDoor

/- checkups.Twin: a disk's twin. -/
namespace Go.Proofs.YtoiclicechfmgaaGreatDoor
open Go.RowKit

theorem getM_name : ∀ {fs : Pfs} {nm : ByteArray}, nm ∈ fs.map (·.1) → ∃ q, getM fs nm = some q
  | [], nm, h => by simp at h
  | x :: fs, nm, h => by
    by_cases hx : x.1 = nm
    · refine ⟨x.2, ?_⟩
      unfold getM
      rw [List.find?_cons, show (x.1 == nm) = true from (MapKept.bytes_beq _ _).2 hx]
      rfl
    · rcases List.mem_cons.1 (show nm ∈ x.1 :: fs.map (·.1) from h) with h | h
      · exact absurd h.symm hx
      · obtain ⟨q, hq⟩ := getM_name h
        refine ⟨q, ?_⟩
        unfold getM at hq ⊢
        rw [List.find?_cons, bytes_ne hx]
        exact hq
theorem readM_name {s : Mst} {nm : ByteArray} (hd : s.dead = false) (h1 : 1 ≤ nm.size ∧ nm.size ≤ 16) (h : nm ∈ s.fs.map (·.1)) : ∃ xs, readM s nm = (xs, 0) := by
  obtain ⟨q, hq⟩ := getM_name h
  have ha : askM s nm = 0 := by unfold askM; rw [if_neg (by simp [hd]), if_neg (by omega)]
  exact ⟨q.1, by unfold readM; rw [if_neg (by simp [ha]), hq]⟩
theorem Md.byt {w : World} {d : Nat} {s : Mst} {F : List Nat} (h : Md w d s F) (nm : ByteArray) : ∀ c ∈ (readM s nm).1, byt c := by
  obtain ⟨m, ck, rs, -, hf, hs, -⟩ := h.ex
  unfold readM
  split
  · simp
  · rcases hf.find nm with hn | ⟨pre, r, post, rfl, rfl, hn, -⟩
    · rw [hs, getM_none hn]; simp
    · rw [hs, getM_at hn]; exact (hf.ok r (by simp)).by_

set_option maxHeartbeats 2000000 in
set_option maxRecDepth 100000 in
theorem mtwin (d : Nat) (s : Mst) (F : List Nat) (N : List ByteArray) (w : World) (h : Md w d s F) (hdd : s.dead = false) (hp : (s.fs.map (·.1)).Perm N) (hN : N.Pairwise fun a b => ltB a b = true) :
    Calls Tryz.prog 13 #[.pointer (some ⟨d, 0, none⟩)] w fun e w' => ∃ t, e = .returned (.pointer (some ⟨t, 0, none⟩)) ∧ (∃ F', Md w' t (twS s N N.length) F' ∧ ∀ k ∈ F', w.heap.size ≤ k) ∧ Below w.heap.size w w' := by
  have DD := Lib.hid (mdead_at d s F false hdd w h)
  have HD := Lib.hid h
  have HP := Lib.hid hp
  have HN := Lib.hid hN
  have ND : N.Nodup := List.Pairwise.imp (fun h => ltB_ne h) hN
  have N16 := Lib.hid (show N.length ≤ 16 from by have := h.most; have := hp.length_eq; simp at this; omega)
  have NS := Lib.hid (show ∀ nm ∈ N, 1 ≤ nm.size ∧ nm.size ≤ 16 from fun nm hn => h.names nm (hp.mem_iff.2 hn))
  have RN := Lib.hid (show ∀ nm ∈ N, ∃ xs, readM s nm = (xs, 0) from fun nm hn => readM_name hdd (h.names nm (hp.mem_iff.2 hn)) (hp.mem_iff.2 hn))
  have RB := Lib.hid (fun nm => h.byt nm)
  have RL := Lib.hid (fun nm => readM_len h nm)
  have ST := Lib.hid (fun (i : Nat) (hi : i < N.length) => tw_step (s := s) ND N16.out NS.out RL.out hi)
  clear h hdd hp hN ND
  go_enter Tryz.func13, Tryz.ntmps13
  go_wp2_with fail
  refine DD.out.mono ?_
  rintro e w1 ⟨rfl, rfl⟩
  go_wp2_with fail
  refine (mnew _).mono ?_
  rintro e w1 ⟨rfl, h1, b1⟩
  obtain ⟨t, ht⟩ : ∃ t, t = w.heap.size + 1 := ⟨_, rfl⟩
  have T0 := Lib.hid (show ∃ F', Md w1 t (twS s N 0) F' ∧ ∀ k ∈ F', w.heap.size ≤ k ∧ k < w1.heap.size from ⟨_, by rw [ht]; exact h1, fun k hk => ⟨by simp at hk; omega, h1.lt k hk⟩⟩)
  have B1 := Lib.hid b1
  rw [← ht]
  have HD1 := Lib.hid (HD.out.below b1)
  clear h1 b1 ht
  go_wp2_with fail
  refine (mnames d s F N _ HD1.out HP.out HN.out).mono ?_
  rintro e w2 ⟨P, rfl, hrd, b2, hbk⟩
  have T1 := Lib.hid (show ∃ F', Md w2 t (twS s N 0) F' ∧ ∀ k ∈ F', w.heap.size ≤ k ∧ (N.length = 0 ∨ (Value.slice P N.length N.length).ownBlock ≠ some k) from by
    obtain ⟨F', hm, hF⟩ := T0.out
    refine ⟨F', hm.below b2, fun k hk => ⟨(hF k hk).1, hbk.imp id fun h e => ?_⟩⟩
    have := h k e; have := (hF k hk).2; omega)
  have B2 := Lib.hid (B1.out.trans (b2.mono B1.out.size))
  have BK := Lib.hid (show N.length = 0 ∨ ∀ k, (Value.slice P N.length N.length).ownBlock = some k → w.heap.size ≤ k from hbk.imp id fun h k e => Nat.le_trans B1.out.size (h k e))
  have RD := Lib.hid hrd
  clear hrd b2 hbk
  obtain ⟨n, hn⟩ : ∃ n, n = N.length := ⟨_, rfl⟩
  have NN := Lib.hid hn
  rw [← hn]
  clear hn
  go_wp2
  go_loopg [5, 6, 7, 14] n (fun q c5 c6 c7 c14 wr => ∃ i : Nat, i ≤ n ∧ q = n - i ∧ c14 = .int .i64 i ∧ Below w.heap.size w wr ∧ Rd wr 1 (.slice P N.length N.length) N.length (N.map Value.string) ∧
    ∃ F', Md wr t (twS s N i) F' ∧ ∀ k ∈ F', w.heap.size ≤ k ∧ (N.length = 0 ∨ (Value.slice P N.length N.length).ownBlock ≠ some k))
  case atStart => exact ⟨0, by omega, by omega, rfl, B2.out, RD.out, T1.out⟩
  case round =>
    obtain ⟨i, hi, hq, rfl, hb, hrd, F', hm, hF⟩ := hrel
    have BB := Lib.hid hb
    have GG := Lib.hid hq
    have MM := Lib.hid hm
    have FF := Lib.hid hF
    have RR := Lib.hid hrd
    by_cases hin : i < n
    · have hir : i < N.length := by have := NN.out; omega
      obtain ⟨A', c', hv, -, -, h0 | ⟨g, o, rfl, hgl, hcl⟩⟩ := hrd
      · omega
      injection hv with hP h2 h3
      subst hP
      clear h2 h3
      have hcell := hcl i (.string N[i]) (by rw [List.getElem?_map, List.getElem?_eq_getElem hir]; rfl)
      obtain ⟨nm, hnm⟩ : ∃ nm, nm = N[i] := ⟨_, rfl⟩
      have hmem : nm ∈ N := by rw [hnm]; exact List.getElem_mem _
      obtain ⟨xs, hxs⟩ := RN.out nm hmem
      have STi := ST.out i hir
      rw [← hnm] at hcell STi
      have by_ := RB.out nm
      have ln := RL.out nm
      rw [hxs] at STi by_ ln
      simp only at STi by_ ln
      have BY := Lib.hid by_
      have LN := Lib.hid ln
      have SI := Lib.hid STi
      have XS := Lib.hid hxs
      have hin' : (i : Int) < (n : Int) := by omega
      have hw1 : IntKind.i64.wrap ((i : Int) + 1) = (i : Int) + 1 := IntWalk.i64_in _ (by have := N16.out; omega)
      have DR := mread nm d s F wr (HD.out.below BB.out)
      rw [hxs] at DR
      have IN := Lib.hid hin
      clear hq hb hm hF hcl hgl hnm hmem hxs STi by_ ln hin hir
      go_wp2_with fail
      refine DR.mono ?_
      rintro e w3 ⟨P3, rfl, o3, b3⟩
      have O3 := Lib.hid o3.bs
      have M3 := Lib.hid (MM.out.below b3)
      have B3 := Lib.hid (BB.out.trans (b3.mono BB.out.size))
      have R3 := Lib.hid (RR.out.below b3)
      clear DR o3 b3 hcell
      obtain ⟨L, hL⟩ : ∃ L, L = xs.length := ⟨_, rfl⟩
      have PU := Lib.hid (mput nm t (twS s N i) F' _ xs BY.out (by have := LN.out; omega) w3 M3.out O3.out)
      rw [SI.out] at PU
      rw [← hL] at PU ⊢
      clear hL
      go_wp2_with fail
      refine PU.out.mono ?_
      rintro e w4 ⟨rfl, t4⟩
      have T4 := Lib.hid t4
      clear t4
      go_wp2
      go_roundg (n - (i + 1))
      case measure => have := GG.out; have := IN.out; omega
      case rel =>
        obtain ⟨F4, hm4, hF4⟩ := T4.out.ex
        refine ⟨i + 1, by have := IN.out; omega, rfl, by simp, B3.out.trans ((T4.out.kp.to_below (fun k hk => (FF.out k hk).1) B3.out.size)), T4.out.kp.rd R3.out ?_, F4, hm4, fun k hk => ?_⟩
        · by_cases h0 : N.length = 0
          · exact .inl h0
          · exact .inr fun k e hk => ((FF.out k hk).2.resolve_left h0) e
        · rcases hF4 k hk with h | h
          · exact FF.out k h
          · refine ⟨Nat.le_trans B3.out.size h, .inr fun e => ?_⟩
            injection e with e
            have e' : g = k := e
            have hg : g < w3.heap.size := by
              obtain ⟨A', c', hv, -, -, h0 | ⟨g', o', hg', hgl, -⟩⟩ := R3.out
              · have := IN.out; have := NN.out; omega
              · injection hv with hv _ _
                rw [← hv] at hg'
                injection hg' with hg'
                injection hg' with hg'
                omega
            omega
    · obtain rfl : i = n := by omega
      have hw1 : ¬ (i : Int) < (i : Int) := by omega
      have NI := Lib.hid NN.out
      clear hq hb hm hF hrd
      go_wp2
      go_ret
      refine ⟨t, rfl, ⟨F', ?_, fun k hk => (FF.out k hk).1⟩, BB.out⟩
      rw [← NI.out]
      exact MM.out
end Go.Proofs.YtoiclicechfmgaaGreatDoor

/- What Look needs: a slice that reads among other things; Contains; Clip; a disk of strange files. -/
namespace Go.Proofs.YtoiclicechfmgaaGreatDoor
open Go.RowKit

/-- A slice that reads as these cells. -/
def rdO (size : Nat) (v : Value) (n : Nat) (xs : List Value) : Ob := ⟨fun w F => Rd w size v n xs ∧ F = if n = 0 then [] else v.ownBlock.toList, fun h k hk => by
  obtain ⟨⟨A, c, rfl, -, -, h⟩, rfl⟩ := h
  split at hk
  · cases hk
  · rename_i h0
    obtain ⟨g, o, rfl, hg, -⟩ := h.resolve_left h0
    simp [Value.ownBlock] at hk; subst hk; exact hg, fun h k hG => ⟨k.rd h.1 (by
    by_cases h0 : n = 0
    · exact .inl h0
    · exact .inr fun j hj => hG j (by rw [h.2, if_neg h0, hj]; simp)), h.2⟩⟩
section
variable {B : Nat} {W w w' : World} {os : List Ob}
theorem Sy.rdv {size n : Nat} {v : Value} {xs : List Value} (h : Sy B W w os) (hm : rdO size v n xs ∈ os) : Rd w size v n xs := by
  obtain ⟨F, h1, -⟩ := h.get hm; exact h1.1
theorem Sy.putRd {size n : Nat} {v : Value} {xs : List Value} (h : Sy B W w os) (hb : Below w.heap.size w w') (hr : Rd w' size v n xs) (hn : n = 0 ∨ ∀ k, v.ownBlock = some k → w.heap.size ≤ k) : Sy B W w' (rdO size v n xs :: os) :=
  h.put hb (F := if n = 0 then [] else v.ownBlock.toList) ⟨hr, rfl⟩ fun k hk => by
    split at hk
    · cases hk
    · rename_i h0; exact (hn.resolve_left h0) k (by simpa using hk)
/-- The first thing, a slice, has grown. -/
theorem Sy.grow {e size n n' : Nat} {v v' : Value} {xs xs' : List Value} (h : Sy B W w (owO e size v n xs :: os)) (ho : Ow 0 w' e size v' n' xs') (hg : w.grownBy w' v.ownBlock) (hv : v'.ownBlock = v.ownBlock ∨ ∀ k, v'.ownBlock = some k → w.heap.size ≤ k) : Sy B W w' (owO e size v' n' xs' :: os) := by
  obtain ⟨F, ⟨h1, rfl⟩, -, h2⟩ := h.take_
  refine h2 ⟨⟨_, ⟨ho, rfl⟩, fun k hk => ?_⟩, ⟨hg.os, hg.tape, hg.output, hg.size, fun i hi hn => hg.block i hi (fun e => hn (by rw [← e]; simp))⟩⟩
  rcases hv with hv | hv
  · rw [hv] at hk; exact .inl hk
  · exact .inr (hv k (by simpa using hk))
theorem Sy.owB {e size n : Nat} {v : Value} {xs : List Value} (h : Sy B W w (owO e size v n xs :: os)) : Ow B w e size v n xs := by
  obtain ⟨F, ⟨h1, rfl⟩, h2, -⟩ := h.take_
  rcases h1 with h | ⟨g, c, cur, rfl, _, h⟩
  · exact .inl h
  · exact .inr ⟨g, c, cur, rfl, h2 g (by simp [Value.ownBlock]), h⟩
end

set_option maxHeartbeats 1000000 in
set_option maxRecDepth 100000 in
theorem idx_none (P : Option Addr) (N : List ByteArray) (x : ByteArray) (hx : x ∉ N) (hl : N.length ≤ 16) (w : World) (h : Rd w 1 (.slice P N.length N.length) N.length (N.map Value.string)) :
    Calls Tryz.prog 66 #[.slice P N.length N.length, .string x] w fun e w' => e = .returned (.int .i64 (-1)) ∧ w = w' := by
  have HX := Lib.hid hx
  obtain ⟨n, hn⟩ : ∃ n, n = N.length := ⟨_, rfl⟩
  have NN := Lib.hid hn
  have HR := Lib.hid h
  have LL := Lib.hid hl
  rw [← hn]
  clear hn h hx hl
  go_enter Tryz.func66, Tryz.ntmps66
  go_wp2
  go_loopg [5, 8] n (fun q c5 c8 wr => ∃ i : Nat, i ≤ n ∧ q = n - i ∧ c8 = .int .i64 i ∧ wr = w)
  case atStart => exact ⟨0, by omega, by omega, rfl, rfl⟩
  case round =>
    obtain ⟨i, hi, hq, rfl, rfl⟩ := hrel
    have GG := Lib.hid hq
    by_cases hin : i < n
    · have hir : i < N.length := by have := NN.out; omega
      obtain ⟨A', c', hv, -, -, h0 | ⟨g, o, rfl, hgl, hcl⟩⟩ := HR.out
      · omega
      injection hv with hP h2 h3
      subst hP
      clear h2 h3
      have hcell := hcl i (.string N[i]) (by rw [List.getElem?_map, List.getElem?_eq_getElem hir]; rfl)
      have hne : ¬ x = N[i] := fun e => HX.out (e ▸ List.getElem_mem _)
      obtain ⟨nm, hnm⟩ : ∃ nm, nm = N[i] := ⟨_, rfl⟩
      rw [← hnm] at hcell hne
      have hin' : (i : Int) < (n : Int) := by omega
      have hi0 : (0 : Int) ≤ (i : Int) := by omega
      have hw1 : IntKind.i64.wrap ((i : Int) + 1) = (i : Int) + 1 := IntWalk.i64_in _ (by have := LL.out; have := NN.out; omega)
      have hb : (x.toList == nm.toList) = false := by rw [str_dec_]; simpa using hne
      have IN := Lib.hid hin
      clear hq hcl hgl hne hnm hin hir
      go_wp2
      go_roundg (n - (i + 1))
      case measure => have := GG.out; have := IN.out; omega
      case rel => exact ⟨i + 1, by have := IN.out; omega, rfl, by simp, rfl⟩
    · obtain rfl : i = n := by omega
      have hw1 : ¬ (i : Int) < (i : Int) := by omega
      clear hq
      go_wp2
      go_ret
      exact ⟨rfl, rfl⟩
set_option maxRecDepth 100000 in
theorem cont_none (P : Option Addr) (N : List ByteArray) (x : ByteArray) (hx : x ∉ N) (hl : N.length ≤ 16) (w : World) (h : Rd w 1 (.slice P N.length N.length) N.length (N.map Value.string)) :
    Calls Tryz.prog 33 #[.slice P N.length N.length, .string x] w fun e w' => e = .returned (.bool false) ∧ w = w' := by
  have IX := Lib.hid (idx_none P N x hx hl w h)
  clear h hx
  generalize N.length = n at *
  go_enter Tryz.func33, Tryz.ntmps33
  go_wp2_with fail
  refine IX.out.mono ?_
  rintro e w' ⟨rfl, rfl⟩
  go_wp2
  go_ret
  exact ⟨rfl, rfl⟩
theorem fclip_any (A : Option Addr) (n c : Nat) (w : World) (hc : n ≤ c) (hn : n ≤ 4611686018427387904) :
    Calls Tryz.prog 35 #[.slice A n c] w fun e w' => e = .returned (.slice A n n) ∧ w = w' := by
  have h1 : (n : Int) ≤ (c : Int) := by omega
  have h2 : (n : Int) ≤ 4611686018427387904 := by omega
  have h3 : ¬ (c : Int) < (n : Int) := by omega
  go_enter Tryz.func35, Tryz.ntmps35
  go_wp2
  go_ret
  exact ⟨by cases A <;> simp, rfl⟩

/-- A disk all of whose files are none of a node's. -/
structure Stg (s : Mst) (N : List ByteArray) : Prop where
  dead : s.dead = false
  perm : (s.fs.map (·.1)).Perm N
  so : N.Pairwise fun a b => ltB a b = true
  few : N.length ≤ 15
  no : ∀ nm ∈ N, ¬ Own3 nm
theorem getM_no {fs : Pfs} {nm : ByteArray} (h : nm ∉ fs.map (·.1)) : getM fs nm = none := by
  unfold getM
  rw [List.find?_eq_none.2]
  · rfl
  · intro q hq
    simpa using bytes_ne (fun e => h (e ▸ List.mem_map_of_mem hq) : q.1 ≠ nm)
theorem Stg.read {s : Mst} {N : List ByteArray} (h : Stg s N) {nm : ByteArray} (ho : Own3 nm) : readM s nm = ([], 7) := by
  have ha : askM s nm = 0 := by
    unfold askM
    rw [if_neg (by simp [h.dead]), if_neg (by rcases ho with rfl | rfl | rfl <;> decide)]
  have hg : getM s.fs nm = none := getM_no fun hm => h.no nm (h.perm.mem_iff.1 hm) ho
  unfold readM
  rw [if_neg (by simp [ha]), hg]
theorem Stg.twin {s : Mst} {N : List ByteArray} (h : Stg s N) : Stg (twS s N N.length) N :=
  ⟨rfl, by unfold twS; rw [List.take_length, twN_names], h.so, h.few, h.no⟩
theorem logE_len : logE.length ≤ 34 := by
  have := logB_len 0 0 (by omega) (by omega) [] (by simp)
  simpa [logE] using this
theorem Stg.put {s : Mst} {N : List ByteArray} (h : Stg s N) (hf : s.fuse = -1) : ∃ s1, doesM s nmL logE.length true (fun _ => some (logE, logE.length)) = (s1, 0) := by
  have ha : askM s nmL = 0 := by
    unfold askM
    rw [if_neg (by simp [h.dead]), if_neg (by decide)]
  have hl : s.fs.length = N.length := by have := h.perm.length_eq; simpa using this
  have h2 : (doesM s nmL logE.length true (fun _ => some (logE, logE.length))).2 = 0 := by
    unfold doesM
    rw [if_neg (by simp [ha]), if_neg (by simp), if_neg (by have := logE_len; have := h.few; rintro (h | ⟨_, h⟩) <;> omega), if_neg (by rw [hf]; decide)]
  exact ⟨_, Prod.ext rfl h2⟩
end Go.Proofs.YtoiclicechfmgaaGreatDoor
