/- A disk of any files: Lift. -/
import Derived.Test.YtenobcfgapolhaaMde
import Derived.RegionTactic
import Derived.BigRegion
namespace Go.Proofs.Ytenobcfgapolhaa
open Go.RowKit

def losC (ls : List Int) : List Value := ls.map (.int .i64 ·)
/-- What a lift leaves of a file, the i-th one by its name. -/
def liftF (ls : List Int) (i : Nat) (q : List Int × Nat) : List Int × Nat := (q.1.take (q.2 + min (max 0 (ls.getD i 0)).toNat (q.1.length - q.2)), q.2 + min (max 0 (ls.getD i 0)).toNat (q.1.length - q.2))
/-- The files when the first i names are lifted. -/
def liftK (N : List ByteArray) (ls : List Int) : Nat → List (ByteArray × List Int × Nat) → List (ByteArray × List Int × Nat)
  | 0, fs => fs
  | i + 1, fs => match getM (liftK N ls i fs) (N.getD i ⟨#[]⟩) with
    | none => liftK N ls i fs
    | some q => putM (liftK N ls i fs) (N.getD i ⟨#[]⟩) (some (liftF ls i q))
theorem putM_names : ∀ {fs : List (ByteArray × List Int × Nat)} {nm : ByteArray} {q : List Int × Nat} (q' : List Int × Nat), getM fs nm = some q → (putM fs nm (some q')).map (·.1) = fs.map (·.1)
  | [], nm, q, q', h => by simp [getM] at h
  | x :: fs, nm, q, q', h => by
    unfold putM
    by_cases hx : x.1 = nm
    · rw [if_pos hx]; simp [hx]
    · rw [if_neg hx]
      have hb := bytes_ne hx
      have : getM fs nm = some q := by
        unfold getM at h ⊢
        rw [List.find?_cons, hb] at h
        exact h
      simp [putM_names q' this]
theorem liftK_names (N : List ByteArray) (ls : List Int) (fs : List (ByteArray × List Int × Nat)) : ∀ i, (liftK N ls i fs).map (·.1) = fs.map (·.1)
  | 0 => rfl
  | i + 1 => by
    unfold liftK
    cases h : getM (liftK N ls i fs) (N.getD i ⟨#[]⟩) with
    | none => exact liftK_names N ls fs i
    | some q => rw [putM_names _ h]; exact liftK_names N ls fs i
/-- The disk, lifted. -/
def liftM (N : List ByteArray) (s : Mst) (ls : List Int) : Mst := ⟨liftK N ls N.length s.fs, -1, false⟩
theorem bcut_take (xs : List Int) (k : Nat) : bc (xs.take k) = (bc xs).take k := by simp [bc, List.map_take]
theorem Bo.cut_ {w : World} {A : Option Addr} {n c : Nat} {xs : List Int} (h : Bo 0 w (.slice A n c) xs) (k : Nat) (hk : k ≤ n) : Bo 0 w (.slice A k k) (xs.take k) := by
  rcases h with ⟨hv, h0, hx⟩ | ⟨g, c', cur, hv, hB, hg, hc, hl, hs, ht⟩
  · injection hv with h1 h2 h3
    subst h1 h2
    obtain rfl : k = 0 := by omega
    exact .inl ⟨rfl, by simp, by simp [bc]⟩
  · injection hv with h1 h2 h3
    subst h1 h2 h3
    have hlt : (xs.take k).length = k := by simp; omega
    refine .inr ⟨g, k, cur, by rw [hlt], hB, hg, by omega, by rw [bc_len, hlt]; omega, by omega, ?_⟩
    rw [hlt, bcut_take, ← ht, List.take_take]
    congr 1
    omega
/-- What a round leaves. -/
theorem lift_step {wr : World} {d m ck : Nat} {fu : Int} {dead : Bool} {pre post : List Fl} {rn : ByteArray} {rf rb rsu : Nat} {rx : List Int} {A : Option Addr} {n c : Nat} (hfu : -1 ≤ fu ∧ fu ≤ 9223372036854775807) (hd : Blk wr d 46 #[.map (some m), .int .i64 fu, .bool dead])
    (hf : Fls wr m ck (pre ++ ⟨rn, rf, rb, .slice A n c, rx, rsu⟩ :: post)) (hn : n = rx.length) (k : Nat) (hk : k ≤ n) :
    (∃ F', Md ((wr.setCell ⟨rf, 1, none⟩ (.int .i64 k)).setCell ⟨rf, 0, none⟩ (.slice A k k)).drew.drew d ⟨pre.map Fl.pf ++ (rn, rx.take k, k) :: post.map Fl.pf, fu, dead⟩ F' ∧ ∀ j ∈ F', j ∈ d :: m :: (pre ++ ⟨rn, rf, rb, .slice A n c, rx, rsu⟩ :: post).flatMap Fl.bl) ∧
      Kp wr (d :: m :: (pre ++ ⟨rn, rf, rb, .slice A n c, rx, rsu⟩ :: post).flatMap Fl.bl) ((wr.setCell ⟨rf, 1, none⟩ (.int .i64 k)).setCell ⟨rf, 0, none⟩ (.slice A k k)).drew.drew := by
  have ho := hf.ok ⟨rn, rf, rb, .slice A n c, rx, rsu⟩ (by simp)
  have hblk := ho.blk
  have hown := ho.own
  simp only at hblk hown
  have kk : Kp wr [rf] ((wr.setCell ⟨rf, 1, none⟩ (.int .i64 k)).setCell ⟨rf, 0, none⟩ (.slice A k k)).drew.drew := ((((Kp.refl wr [rf]).setCell (p := ⟨rf, 1, none⟩) (.inl (by simp)) _).setCell (p := ⟨rf, 0, none⟩) (.inl (by simp)) _).below (Below.refl _ _).drew).below (Below.refl _ _).drew
  have kb := hblk.set_ 1 (.int .i64 k)
  have kb2 := kb.set_ 0 (.slice A k k)
  have hb : Blk ((wr.setCell ⟨rf, 1, none⟩ (.int .i64 k)).setCell ⟨rf, 0, none⟩ (.slice A k k)).drew.drew rf 63 #[.slice A k k, .int .i64 k, .string rn] := by
    have : Blk ((wr.setCell ⟨rf, 1, none⟩ (.int .i64 k)).setCell ⟨rf, 0, none⟩ (.slice A k k)) rf 63 #[.slice A k k, .int .i64 k, .string rn] := by simpa using kb2
    exact this
  have hbo : Bo 0 ((wr.setCell ⟨rf, 1, none⟩ (.int .i64 k)).setCell ⟨rf, 0, none⟩ (.slice A k k)).drew.drew (.slice A k k) (rx.take k) := ((hown.cut_ k hk).aside hblk (by decide) 1 (.int .i64 k)).aside kb (by decide) 0 (.slice A k k)
  have hlen := ho.len
  simp only at hlen
  have t := md_refile hfu hd hf (kk.mono (by simp [Fl.bl])) hb hbo (fun x hx => ho.by_ x (List.mem_of_mem_take hx)) (by simp; omega) (by simp; omega) (.inl (by cases A <;> rfl))
  obtain ⟨⟨F', hm, hF⟩, kp⟩ := t
  refine ⟨⟨F', hm, fun j hj => ?_⟩, kp⟩
  rcases hF j hj with h | h
  · exact h
  · have := hm.lt j hj
    have hs : ((wr.setCell ⟨rf, 1, none⟩ (.int .i64 k)).setCell ⟨rf, 0, none⟩ (.slice A k k)).drew.drew.heap.size = wr.heap.size := by
      show ((wr.setCell ⟨rf, 1, none⟩ (.int .i64 k)).setCell ⟨rf, 0, none⟩ (.slice A k k)).heap.size = wr.heap.size
      simp
    omega
theorem mthere (d m : Nat) (w : World) (c0 : w.cell? ⟨d, 0, none⟩ = some (.map (some m))) : Calls Try.prog 34 #[.pointer (some ⟨d, 0, none⟩)] w fun e w' => e = .returned (.bool true) ∧ w = w' := by
  have qm := fun (w : World) (r : Option Nat) => run_neq_map_nil (P := Try.prog) w _ _ _ r Try.underlying44
  go_enter Try.func34, Try.ntmps34
  go_wp2
  go_ret
  exact ⟨rfl, rfl⟩

set_option maxRecDepth 100000 in
set_option maxHeartbeats 4000000 in
theorem mlift (d : Nat) (s : Mst) (F : List Nat) (N : List ByteArray) (lv : Value) (ls : List Int) (w : World) (h : Md w d s F) (hp : (s.fs.map (·.1)).Perm N) (hN : N.Pairwise fun a b => ltB a b = true) (hlv : Rd w 1 lv ls.length (losC ls)) (hls : ∀ x ∈ ls, -9223372036854775808 ≤ x ∧ x ≤ 9223372036854775807) (hlv2 : ls.length = 0 ∨ ∀ k, lv.ownBlock = some k → k ∉ F) :
    Calls Try.prog 11 #[.pointer (some ⟨d, 0, none⟩), lv] w fun e w' => e = .returned (.tuple #[]) ∧ MdTo w F d (liftM N s ls) w' := by
  have NM := Lib.hid (mnames d s F N w h hp hN)
  have H := Lib.hid h
  have HP := Lib.hid hp
  have HLS := Lib.hid hls
  have HLV := Lib.hid hlv
  have HL2 := Lib.hid hlv2
  obtain ⟨m, hd, -⟩ := h.parts
  have c0 := hd.cell 0
  simp at c0
  obtain ⟨AL, cl, rfl, hlc, -, hlh⟩ := id hlv
  obtain ⟨ll, hll⟩ : ∃ ll, ll = ls.length := ⟨_, rfl⟩
  have LL := Lib.hid hll
  obtain ⟨n, hn⟩ : ∃ n, n = N.length := ⟨_, rfl⟩
  have NN := Lib.hid hn
  have MOST := Lib.hid (show N.length ≤ 16 from by
    obtain ⟨m, ck, rs, -, hf, hs, -⟩ := h.ex
    have := hp.length_eq
    rw [List.length_map, hs, List.length_map] at this
    have := hf.most
    omega)
  rw [← hn] at NM
  rw [← hll] at HLV HL2 ⊢
  clear h hp hN hlv hls hlv2 hd hll hn hlc hlh
  go_enter Try.func11, Try.ntmps11
  go_wp2_with fail
  refine (mthere d m _ c0).mono ?_
  rintro e w1 ⟨rfl, rfl⟩
  go_wp2_with fail
  refine NM.out.mono ?_
  rintro e w2 ⟨P, rfl, hr, hb, hfr⟩
  have RD := Lib.hid hr
  have FR := Lib.hid hfr
  have BW := Lib.hid hb
  clear hr hb hfr c0
  go_wp2
  go_loopg [4, 5, 6, 7, 14] n (fun g c4 c5 c6 c7 c14 wr => ∃ i : Nat, i ≤ n ∧ g = n - i ∧ c14 = .int .i64 i ∧ (∃ F', Md wr d ⟨liftK N ls i s.fs, s.fuse, s.dead⟩ F' ∧ ∀ j ∈ F', j ∈ F) ∧ Kp w F wr ∧ Rd wr 1 (.slice P n n) n (N.map Value.string))
  case atStart => exact ⟨0, by omega, by omega, rfl, ⟨F, H.out.below BW.out, fun _ h => h⟩, Kp.of_below BW.out F, RD.out⟩
  case round =>
    obtain ⟨i, hi, hg, rfl, ⟨F', hm, hF'⟩, hk, hrd⟩ := hrel
    have GG := Lib.hid hg
    have HM := Lib.hid hm
    have HF := Lib.hid hF'
    have HK := Lib.hid hk
    have HR := Lib.hid hrd
    obtain ⟨⟨m2, ck, rs, hd, hf, hs, hFe⟩, hfu⟩ := id hm
    simp only at hd hs hfu
    have e0 := hd.cell 0
    have e1 := hd.cell 1
    have e2 := hd.cell 2
    have fz := hd.free
    simp at e0 e1 e2
    have HD := Lib.hid hd
    have FU := Lib.hid hfu
    by_cases hin : i < n
    · have hiN : i < N.length := by have := NN.out; omega
      obtain ⟨nm, hnm⟩ : ∃ nm, nm = N[i] := ⟨_, rfl⟩
      have hgetD : N.getD i ⟨#[]⟩ = nm := by rw [List.getD_eq_getElem?_getD, List.getElem?_eq_getElem hiN, hnm]; rfl
      have hmem : nm ∈ rs.map (·.nm) := by
        have h1 : nm ∈ s.fs.map (·.1) := HP.out.mem_iff.2 (by rw [hnm]; exact List.getElem_mem hiN)
        rw [← liftK_names N ls s.fs i, hs, List.map_map] at h1
        exact h1
      obtain ⟨gP, oP, rfl, hcP⟩ : ∃ gP oP, P = some ⟨gP, oP, none⟩ ∧ wr.cell? ⟨gP, oP + i, none⟩ = some (.string nm) := by
        obtain ⟨A', c', hv, -, -, h0 | ⟨g, o, rfl, -, hc⟩⟩ := hrd
        · omega
        · injection hv with h1 _ _
          exact ⟨g, o, h1, hc i _ (by simp [hiN, hnm])⟩
      rcases hf.find nm with hno | ⟨pre, r, post, hrs, hrn, hpre, -⟩
      · obtain ⟨r, hr, e⟩ := List.mem_map.1 hmem
        exact absurd e (hno r hr)
      subst hrs
      obtain ⟨rn, rf, rb, rv, rx, rsu⟩ := r
      simp only at hrn
      subst hrn
      have ho := hf.ok ⟨rn, rf, rb, rv, rx, rsu⟩ (by simp)
      obtain ⟨A, c, hv, hc, -⟩ := ho.own.clip
      simp only at hv hc
      subst hv
      have hblk := ho.blk
      have hsule := ho.su
      have hlen := ho.len
      simp only at hblk hsule hlen
      have s0 := hblk.cell 0
      have s1 := hblk.cell 1
      have fzf := hblk.free
      simp at s0 s1
      have hdf : ¬ rf = d := fun e => (hd.ne_ hblk (by decide)) e.symm
      have hdf2 : ¬ d = rf := fun e => hdf e.symm
      have hmm := hf.map_
      rw [List.map_append, List.map_cons] at hmm
      have hl := run_mlook_at (P := Try.prog) Try.underlying44 Try.underlying9 rn (f := rf) (born := rb) hmm (keys_ne hpre)
      obtain ⟨x, hx⟩ : ∃ x, x = ls.getD i 0 := ⟨_, rfl⟩
      obtain ⟨nl, hnl⟩ : ∃ nl, nl = rx.length := ⟨_, rfl⟩
      obtain ⟨k, hkk⟩ : ∃ k, k = rsu + min (max 0 x).toNat (nl - rsu) := ⟨_, rfl⟩
      have XB := Lib.hid (show -9223372036854775808 ≤ x ∧ x ≤ 9223372036854775807 from by
        rw [hx]
        by_cases h : i < ls.length
        · rw [List.getD_eq_getElem?_getD, List.getElem?_eq_getElem h]; exact HLS.out _ (List.getElem_mem h)
        · rw [List.getD_eq_getElem?_getD, List.getElem?_eq_none (by omega)]; simp)
      have XC := Lib.hid (show i < ll → ∃ g o, AL = some ⟨g, o, none⟩ ∧ wr.cell? ⟨g, o + i, none⟩ = some (.int .i64 x) from fun hil => by
        have hrl := hk.rd HLV.out HL2.out
        obtain ⟨A', c', hv, -, -, h0 | ⟨g, o, rfl, -, hcl⟩⟩ := hrl
        · omega
        · injection hv with h1 _ _
          refine ⟨g, o, h1, hcl i _ ?_⟩
          have := LL.out
          rw [hx, List.getD_eq_getElem?_getD, List.getElem?_eq_getElem (show i < ls.length by omega)]
          simp [losC, show i < ls.length by omega])
      have XN := Lib.hid (show ¬ i < ll → x = 0 from fun hil => by
        have := LL.out
        rw [hx, List.getD_eq_getElem?_getD, List.getElem?_eq_none (show ls.length ≤ i by omega)]
        rfl)
      have KLE := Lib.hid (show k ≤ nl from by rw [hkk]; omega)
      have END := Lib.hid (show ∀ k2 : Nat, k2 = k → ∃ i' : Nat, i' ≤ n ∧ n - (i + 1) = n - i' ∧ Value.int .i64 ((i : Int) + 1) = .int .i64 i' ∧
          (∃ F'', Md ((wr.setCell ⟨rf, 1, none⟩ (.int .i64 k2)).setCell ⟨rf, 0, none⟩ (.slice A k2 k2)).drew.drew d ⟨liftK N ls i' s.fs, s.fuse, s.dead⟩ F'' ∧ ∀ j ∈ F'', j ∈ F) ∧
          Kp w F ((wr.setCell ⟨rf, 1, none⟩ (.int .i64 k2)).setCell ⟨rf, 0, none⟩ (.slice A k2 k2)).drew.drew ∧ Rd ((wr.setCell ⟨rf, 1, none⟩ (.int .i64 k2)).setCell ⟨rf, 0, none⟩ (.slice A k2 k2)).drew.drew 1 (.slice (some ⟨gP, oP, none⟩) n n) n (N.map Value.string) from fun k2 hk2 => by
        subst hk2
        have hkn : k2 ≤ rx.length := by have := KLE.out; omega
        obtain ⟨⟨F'', h1, h2⟩, h3⟩ := lift_step (rsu := rsu) hfu hd hf rfl k2 hkn
        rw [← hFe] at h2 h3
        refine ⟨i + 1, by omega, rfl, by simp, ⟨F'', ?_, fun j hj => hF' j (h2 j hj)⟩, hk.trans h3 (fun j hj => .inl (hF' j hj)), h3.rd hrd ?_⟩
        · have e : liftK N ls (i + 1) s.fs = pre.map Fl.pf ++ (rn, rx.take k2, k2) :: post.map Fl.pf := by
            show (match getM (liftK N ls i s.fs) (N.getD i ⟨#[]⟩) with | none => _ | some q => _) = _
            have hg : getM (liftK N ls i s.fs) rn = some (rx, rsu) := by rw [hs]; exact getM_at (r := ⟨rn, rf, rb, .slice A rx.length c, rx, rsu⟩) hpre
            rw [hgetD, hg]
            simp only
            rw [hs, List.map_append, List.map_cons]
            have := putM_at (pre := pre.map Fl.pf) (post := post.map Fl.pf) (nm := rn) (rx, rsu) (some (liftF ls i (rx, rsu))) (fun y hy => by
              obtain ⟨r', hr', rfl⟩ := List.mem_map.1 hy
              exact hpre r' hr')
            rw [show Fl.pf ⟨rn, rf, rb, .slice A rx.length c, rx, rsu⟩ = (rn, (rx, rsu)) from rfl, this]
            have hL : liftF ls i (rx, rsu) = (rx.take k2, k2) := by
              unfold liftF
              simp only
              rw [← hx, ← hnl, ← hkk]
            rw [hL]
            simp
          rw [e]; exact h1
        · rcases FR.out with h | h
          · exact .inl h
          · exact .inr fun j hj hin => by
              have h4 := h j hj
              have h5 := H.out.lt j (hF' j hin)
              omega)
      have KE := Lib.hid hkk
      rw [← hnl] at s0 hc hsule hlen
      have hkc : (k : Int) ≤ (c : Int) := by have := KLE.out; omega
      have hk0 : (0 : Int) ≤ (k : Int) := by omega
      have hs1 : IntKind.i64.wrap ((nl : Int) - (rsu : Int)) = (nl : Int) - (rsu : Int) := IntWalk.i64_in _ (by omega)
      have hw1 : IntKind.i64.wrap ((i : Int) + 1) = (i : Int) + 1 := IntWalk.i64_in _ (by have := MOST.out; omega)
      have hi0 : (0 : Int) ≤ (i : Int) := by omega
      have hi1 : (i : Int) < (n : Int) := by omega
      have XBB := XB.out
      by_cases hil : i < ll
      · obtain ⟨gL, oL, rfl, hcL⟩ := XC.out hil
        have hil' : (i : Int) < (ll : Int) := by omega
        have hs2 : IntKind.i64.wrap ((rsu : Int) + min (max 0 x) ((nl : Int) - (rsu : Int))) = (k : Int) := (IntWalk.i64_in _ (by omega)).trans (by omega)
        clear hg hm hF' hk hrd hd hf hs hFe hfu hiN hnm hgetD hmem ho hblk hlen hmm hpre hx hnl XBB hkk hsule
        go_wp2
        go_region
        all_goals go_wp2
        go_region
        all_goals go_wp2
        go_roundg (n - (i + 1))
        case measure => have := GG.out; omega
        case rel => exact END.out k rfl
      · have hil' : ¬ (i : Int) < (ll : Int) := by omega
        have hx0 := XN.out hil
        have hs2 : IntKind.i64.wrap ((rsu : Int) + min 0 ((nl : Int) - (rsu : Int))) = (k : Int) := (IntWalk.i64_in _ (by omega)).trans (by omega)
        clear hg hm hF' hk hrd hd hf hs hFe hfu hiN hnm hgetD hmem ho hblk hlen hmm hpre hx hnl XBB hkk hsule hx0
        go_wp2
        go_region
        all_goals go_wp2
        go_region
        all_goals go_wp2
        go_roundg (n - (i + 1))
        case measure => have := GG.out; omega
        case rel => exact END.out k rfl
    · obtain rfl : i = n := by omega
      have hw1 : ¬ (i : Int) < (i : Int) := by omega
      clear hg hm hF' hk hrd hd hf hs hFe hfu
      go_wp2
      go_end0
      have k : Kp wr [d] ((wr.setCell ⟨d, 2, none⟩ (.bool false)).setCell ⟨d, 1, none⟩ (.int .i64 (-1))) := ((Kp.refl _ _).setCell (.inl (by simp)) _).setCell (.inl (by simp)) _
      have hdF : d ∈ F := by
        obtain ⟨_, _, h⟩ := H.out.parts
        exact h
      refine ⟨rfl, ⟨F', HM.out.own (s' := liftM N s ls) (by unfold liftM; simp only; rw [← NN.out]) (by unfold liftM; simp) k fun m3 h3 => ?_, fun _ hk => .inl (HF.out _ hk)⟩, HK.out.trans k (by simp; exact .inl hdF)⟩
      have := (h3.set_ 2 (.bool false)).set_ 1 (.int .i64 (-1))
      simpa [liftM] using this
end Go.Proofs.Ytenobcfgapolhaa
