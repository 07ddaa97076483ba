/- The document's frames: Read. -/
import Derived.Test.YtnegondlkfeleaaDoorRsx
namespace Go.Proofs.YtnegondlkfeleaaDoor
open Go.RowKit

/-- All records of bytes, and how many bytes they take. -/
def recs : Nat → List Int → List (List Int) × Nat
  | 0, _ => ([], 0)
  | f + 1, xs => if (getF xs).2.2 = 0 then ((getF xs).1 :: (recs f (xs.drop (getF xs).2.1)).1, (getF xs).2.1 + (recs f (xs.drop (getF xs).2.1)).2) else ([], 0)
def recF (xs : List Int) : List (List Int) × Nat := recs (xs.length + 1) xs
theorem getF_none_ : ¬ (getF []).2.2 = 0 := by
  have h : sizeF [] = (0, 0, 5) := by decide
  unfold getF
  rw [h]
  simp
theorem getF_pos_ {xs : List Int} (h : (getF xs).2.2 = 0) : 1 ≤ (getF xs).2.1 ∧ (getF xs).2.1 ≤ xs.length := by
  refine ⟨?_, getF_len.2⟩
  revert h
  unfold getF
  split
  · intro h; exact absurd h (by assumption)
  · split
    · intro h; simp at h
    · split
      · intro h; simp at h
      · intro _; simp only; omega
theorem recs_bad {f : Nat} {xs : List Int} (h : ¬ (getF xs).2.2 = 0) : recs f xs = ([], 0) := by
  cases f with
  | zero => rfl
  | succ f => unfold recs; rw [if_neg h]
theorem recs_ok {f : Nat} {xs : List Int} (h : (getF xs).2.2 = 0) : recs (f + 1) xs = ((getF xs).1 :: (recs f (xs.drop (getF xs).2.1)).1, (getF xs).2.1 + (recs f (xs.drop (getF xs).2.1)).2) := by
  conv => lhs; unfold recs
  rw [if_pos h]
/-- The one record that is all of the bytes. -/
theorem recF_one (xs : List Int) (l : List Int) : recF xs = ([l], xs.length) ↔ (getF xs).2.2 = 0 ∧ (getF xs).2.1 = xs.length ∧ (getF xs).1 = l := by
  unfold recF
  by_cases h : (getF xs).2.2 = 0
  · rw [recs_ok h]
    have hp := getF_pos_ h
    by_cases h2 : (getF xs).2.1 = xs.length
    · rw [h2, List.drop_length, recs_bad getF_none_]
      simp [h]
    · constructor
      · intro e
        injection e with e1 e2
        injection e1 with e3 e4
        by_cases h3 : (getF (xs.drop (getF xs).2.1)).2.2 = 0
        · obtain ⟨f, hf⟩ : ∃ f, xs.length = f + 1 := ⟨xs.length - 1, by omega⟩
          rw [hf, recs_ok h3] at e4
          cases e4
        · rw [recs_bad h3] at e2
          exact absurd e2 (by simpa using h2)
      · rintro ⟨_, e, _⟩; exact absurd e h2
  · rw [recs_bad h]
    simp [h]

/-- Rows of bytes. -/
structure Rws (n₀ : Nat) (W : World) (vs : List Value) (ls : List (List Int)) : Prop where
  len : vs.length = ls.length
  at_ : ∀ (j : Nat) (h : j < vs.length) (h' : j < ls.length), Bo n₀ W vs[j] ls[j]
theorem Rws.nil (n₀ : Nat) (W : World) : Rws n₀ W [] [] := ⟨rfl, fun j h => absurd h (by simp)⟩
theorem Rws.below {n₀ : Nat} {W W' : World} {vs : List Value} {ls : List (List Int)} (h : Rws n₀ W vs ls) (hb : Below W.heap.size W W') : Rws n₀ W' vs ls := ⟨h.len, fun j h1 h2 => (h.at_ j h1 h2).below hb⟩
theorem Rws.snoc {n₀ : Nat} {W : World} {vs : List Value} {ls : List (List Int)} {y : Value} {l : List Int} (h : Rws n₀ W vs ls) (hb : Bo n₀ W y l) : Rws n₀ W (vs ++ [y]) (ls ++ [l]) := by
  have hl := h.len
  refine ⟨by simp [hl], fun j h1 h2 => ?_⟩
  rcases Nat.lt_or_ge j vs.length with hj | hj
  · rw [List.getElem_append_left hj, List.getElem_append_left (by omega)]
    exact h.at_ j hj (by omega)
  · obtain rfl : j = vs.length := by simp at h1; omega
    rw [List.getElem_append_right (Nat.le_refl _), List.getElem_append_right (by omega)]
    simpa [hl] using hb
theorem Rws.grew {n₀ B n : Nat} {W W' : World} {vs : List Value} {ls : List (List Int)} {v v' : Value} {xs : List Value} (h : Rws n₀ W vs ls) (ho : Ow B W 25 1 v n xs) (hg : Grew W W' v v') : Rws n₀ W' vs ls := by
  have g1 := hg.1
  rcases ho with ⟨rfl, _⟩ | ⟨g, c, cur, rfl, _, hk, _⟩
  · exact h.below (below_of_grown_ g1)
  · exact ⟨h.len, fun j h1 h2 => Ow.grown (h.at_ j h1 h2) g1 hk (by decide)⟩
theorem grew_bel {B n : Nat} {W W' : World} {v v' : Value} {xs : List Value} (ho : Ow B W 25 1 v n xs) (hg : Grew W W' v v') (hB : B ≤ W.heap.size) : Below B W W' := by
  have g1 := hg.1
  rcases ho with ⟨rfl, _⟩ | ⟨g, c, cur, rfl, hb, hk, _⟩
  · exact (below_of_grown_ g1).mono hB
  · exact below_grown_ (Below.refl _ _) g1 hB hb
theorem rsl_info : (Tryd.prog.info? 25).map (fun i => (i.zero, i.size, i.bytes)) = some (some (.slice none 0 0), 1, 24) := by kernel_rfl

set_option maxHeartbeats 2000000 in
set_option maxRecDepth 100000 in
theorem rfread_any (v : Value) (bs : List Int) (w : World) (h : Bo 0 w v bs) (hby : ∀ c ∈ bs, byt c) (hl : bs.length ≤ 1000000000000) :
    Calls Tryd.prog 50 #[v] w fun e w' => ∃ (u : Value) (vs : List Value), e = .returned (.tuple #[u, .int .i64 (recF bs).2]) ∧
      Ow w.heap.size w' 25 1 u vs.length vs ∧ Rws w.heap.size w' vs (recF bs).1 ∧ Below w.heap.size w w' := by
  have H := Lib.hid h.bs
  have BY := Lib.hid hby
  obtain ⟨rl, hrl⟩ : ∃ rl, rl = recF bs := ⟨_, rfl⟩
  have RL := Lib.hid hrl
  rw [← hrl]
  clear hrl
  rcases h with ⟨rfl, hn0, -⟩ | ⟨g, c, cur, rfl, -, hk, hc, -⟩
  · obtain rfl : bs = [] := List.eq_nil_of_length_eq_zero hn0
    obtain ⟨er, her⟩ : ∃ er, getF [] = ([], 0, er) := ⟨(getF []).2.2, rfl⟩
    have hne : (er != 0) = true := by
      have := getF_none_
      rw [her] at this
      simpa using this
    have G := Lib.hid (rfget_any (.slice none 0 0) [] w H.out (by simp) (by simp))
    rw [her] at G
    have R0 := Lib.hid (show rl = ([], 0) from by rw [RL.out]; exact recs_bad getF_none_)
    rw [R0.out]
    clear hby hl hn0 her
    go_enter Tryd.func50, Tryd.ntmps50
    go_wp2
    go_loopg [4, 5, 6, 7, 8, 9] 0 (fun q c4 c5 c6 c7 c8 c9 wr => wr = w ∧ c4 = .slice none 0 0 ∧ c5 = .int .i64 0)
    case atStart => exact ⟨rfl, rfl, rfl⟩
    case round =>
      obtain ⟨rfl, rfl, rfl⟩ := hrel
      go_wp2_with fail
      refine G.out.mono ?_
      rintro e w2 ⟨u2, rfl, -, b2⟩
      have B2 := Lib.hid b2
      clear b2
      go_wp2
      go_ret2
      exact ⟨_, [], rfl, .inl ⟨rfl, rfl, rfl⟩, Rws.nil _ _, B2.out⟩
  obtain ⟨L, hL⟩ : ∃ L, L = bs.length := ⟨_, rfl⟩
  rw [← hL] at H hc hl ⊢
  have LL := Lib.hid hL
  clear hby hL hk
  go_enter Tryd.func50, Tryd.ntmps50
  go_wp2
  go_loopg [4, 5, 6, 7, 8, 9] (L + 1) (fun f c4 c5 c6 c7 c8 c9 wr => ∃ (k : Nat) (vs : List Value) (ls : List (List Int)), c5 = .int .i64 k ∧ k ≤ L ∧ L < k + f ∧ vs.length ≤ k ∧ Ow w.heap.size wr 25 1 c4 vs.length vs ∧ Rws w.heap.size wr vs ls ∧
    Below w.heap.size w wr ∧ rl = (ls ++ (recs f (bs.drop k)).1, k + (recs f (bs.drop k)).2))
  case atStart => exact ⟨0, [], [], rfl, Nat.zero_le _, by omega, Nat.le_refl _, .inl ⟨rfl, rfl, rfl⟩, Rws.nil _ _, Below.refl _ _, by rw [RL.out, LL.out]; simp [recF]⟩
  case round =>
    obtain ⟨k, vs, ls, rfl, hkL, hf, hvk, ho, hr, hb, he⟩ := hrel
    have HO := Lib.hid ho
    have HR := Lib.hid hr
    have HB := Lib.hid hb
    have HE := Lib.hid he
    have HF := Lib.hid hf
    have SZ := Lib.hid hb.size
    obtain ⟨f, rfl⟩ : ∃ f, gk = f + 1 := ⟨gk - 1, by omega⟩
    obtain ⟨xs, hxs⟩ : ∃ xs, xs = bs.drop k := ⟨_, rfl⟩
    have XS := Lib.hid hxs
    rw [← hxs] at HE
    have BX := Lib.hid (show ∀ c ∈ xs, byt c from fun c hc => BY.out c (List.mem_of_mem_drop (hxs ▸ hc)))
    have lx : xs.length = L - k := by rw [hxs, List.length_drop, ← LL.out]
    have LX := Lib.hid lx
    have VR := Lib.hid (show Bs wr (if c = k then .slice (some ⟨g, 0, none⟩) 0 0 else .slice (some ⟨g, k, none⟩) (L - k) (c - k)) xs from by
      split
      · exact Bs.empty (List.eq_nil_of_length_eq_zero (by omega)) rfl
      · have := ((H.out.below hb).drop k hkL).2.2 g 0 rfl
        rw [Nat.zero_add] at this
        rw [hxs]; exact this)
    have GE := Lib.hid (rfget_any _ xs wr VR.out BX.out (by omega))
    obtain ⟨r, hrr⟩ : ∃ r, r = getF xs := ⟨_, rfl⟩
    have GL := Lib.hid (getF_len (bs := xs))
    have GP := Lib.hid (getF_pos_ (xs := xs))
    have RO := Lib.hid (recs_ok (f := f) (xs := xs))
    have RB := Lib.hid (recs_bad (f := f + 1) (xs := xs))
    rw [← hrr] at GE GL GP RO RB
    obtain ⟨b, n, er⟩ := r
    simp only at GE GL GP RO RB
    have i1 : (0 : Int) ≤ (k : Int) := by omega
    have i2 : (k : Int) ≤ (L : Int) := by omega
    have i3 : (L : Int) ≤ (c : Int) := by omega
    have i4 : (k : Int) ≤ (c : Int) := by omega
    have i5 : ((L : Int) - (k : Int)).toNat = L - k := by omega
    have i6 : ((c : Int) - (k : Int)).toNat = c - k := by omega
    clear ho hr hb he hf hxs hrr lx VR
    have HN := Lib.hid (show er = 0 → 1 ≤ n ∧ k + n ≤ L from fun e => by have h1 := GP.out e; have h2 := LX.out; omega)
    have END := Lib.hid (show ¬ er = 0 → rl = (ls, k) from fun e => by rw [HE.out, RB.out e]; simp)
    by_cases hck : c = k
    · obtain rfl : L = k := by omega
      obtain rfl : c = L := hck
      rw [if_pos rfl] at GE
      have her : ¬ er = 0 := fun e => by have h1 := HN.out e; omega
      have hne : (er != 0) = true := by simpa using her
      have EN := Lib.hid (END.out her)
      clear her
      go_wp2_with fail
      refine GE.out.mono ?_
      rintro e w2 ⟨u2, rfl, h2, b2⟩
      have B2 := Lib.hid b2
      clear h2 b2
      go_wp2
      go_ret2
      rw [EN.out]
      exact ⟨_, vs, rfl, HO.out.below B2.out, HR.out.below B2.out, HB.out.trans (B2.out.mono SZ.out)⟩
    · have hck2 : ¬ k = c := fun e => hck e.symm
      rw [if_neg hck] at GE
      go_wp2_with fail
      refine GE.out.mono ?_
      rintro e w2 ⟨u2, rfl, h2, b2⟩
      obtain ⟨A2, n2, c2, rfl⟩ := h2.sl
      have B2 := Lib.hid b2
      have H2 := Lib.hid (h2.le SZ.out)
      have SZ2 := Lib.hid (Nat.le_trans SZ.out b2.size)
      have HO2 := Lib.hid (HO.out.below b2)
      have HR2 := Lib.hid ((HR.out.below b2).snoc (h2.le SZ.out))
      clear h2 b2
      by_cases her : er = 0
      · subst her
        have hn := HN.out rfl
        have n1 : IntKind.i64.wrap ((k : Int) + (n : Int)) = (k : Int) + (n : Int) := IntWalk.i64_in _ (by omega)
        go_wp2_with (at_builtin; go_must (refine wpList_ow rfl _ _ 115 25 (.slice none 0 0) 1 24 rfl Tryd.underlying115 rsl_info rfl (by decide) rfl #[.slice A2 n2 c2] HO2.out SZ2.out rfl (by simp [Value.oneCell']) rfl (by omega) (by unfold maxLen; omega) ?_); intro v3 w3 ho3 hg3)
        go_wp2
        go_roundg f
        case measure => omega
        case rel =>
          refine ⟨k + n, vs ++ [.slice A2 n2 c2], ls ++ [b], by go_num, hn.2, by have := HF.out; omega, by simp; omega, by simpa using ho3, ?_, ?_, ?_⟩
          · refine ⟨by simpa using HR2.out.len, fun j h1 h2 => ?_⟩
            exact (HR2.out.grew HO2.out hg3).at_ j h1 h2
          · exact (HB.out.trans (B2.out.mono SZ.out)).trans (grew_bel HO2.out hg3 SZ2.out)
          · rw [HE.out, RO.out (by first | rfl | trivial), XS.out, List.drop_drop]
            simp [Nat.add_assoc]
      · have hne : (er != 0) = true := by simpa using her
        have EN := Lib.hid (END.out her)
        clear her
        go_wp2
        go_ret2
        rw [EN.out]
        exact ⟨_, vs, rfl, HO2.out, HR.out.below B2.out, HB.out.trans (B2.out.mono SZ.out)⟩
end Go.Proofs.YtnegondlkfeleaaDoor
