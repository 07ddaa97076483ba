/- A disk of one file at most: a doing. -/
import Derived.Test.YtenobcfgapolhaaDskA
namespace Go.Proofs.Ytenobcfgapolhaa
open Go.RowKit

/-- What a doing keeps ahead of how it is done. -/
structure Keeps (w W : World) : Prop where
  bs : ∀ v xs, Bs w v xs → Bs W v xs
  blk : ∀ g t cs, t ≠ 46 → Blk w g t cs → Blk W g t cs
  le : w.heap.size ≤ W.heap.size
theorem keeps_of {w W : World} {d m : Nat} {x y : Value} {es : Array MapEntry} {ck : Nat} (hd : Blk w d 46 #[.map (some m), x, y]) (hx : ∀ c, x ≠ .int .u8 c) (hy : ∀ c, y ≠ .int .u8 c) (hm : w.heap[m]? = some (.map es ck)) (k : Kp w [d, m] W) : Keeps w W := by
  refine ⟨fun v xs h => k.rd h ?_, fun g t cs ht hg => k.blk hg ?_, k.size⟩
  · rcases Bs.off hd (fun j c => by
      match j with
      | 0 => simp
      | 1 => simpa using hx c
      | 2 => simpa using hy c
      | j + 3 => simp) h with h0 | h1
    · exact .inl h0
    · rcases Bs.offmap hm h with h0 | h2
      · exact .inl h0
      · exact .inr fun j hj => by simp; exact ⟨h1 j hj, h2 j hj⟩
  · have h1 := hg.ne_ hd ht
    have h2 : g ≠ m := fun e => by subst e; unfold Blk at hg; rw [hg] at hm; cases hm
    simp [h1, h2]

/-- What how it is done owes. -/
def How (g : FuncId) (cap : Array Value) (w : World) (d : Nat) (nm : ByteArray) (q : List Int × Nat) (eff : List Int × Nat → Option (List Int × Nat)) : Prop :=
  ∀ (W : World) (F : List Nat) (f : Nat) (s : Dst), s.file = some q → Dk W d nm s F → F[2]? = some f → Keeps w W →
    Calls Try.prog g (#[.pointer (some ⟨f, 0, none⟩)] ++ cap) W fun e w' => e = .returned (.tuple #[]) ∧ DkTo W F d nm { s with file := eff q } w'

def doesS (s : Dst) (size : Int) (made : Bool) (eff : List Int × Nat → Option (List Int × Nat)) : Dst × Int :=
  if s.dead = true then (s, 17) else if s.file = none ∧ made = false then (s, 7) else if 1048576 < size then (s, 3) else
  if s.fuse = 0 then ({ s with dead := true }, 17) else ({ (burnS s).1 with file := eff (s.file.getD ([], 0)) }, 0)

theorem dk_nofile {w : World} {d m : Nat} {nm : ByteArray} {fu : Int} {G : List Nat} {dead : Bool} (hd : Blk w d 46 #[.map (some m), .int .i64 fu, .bool dead]) (_hf : DkF w m nm none G) (h1 : -1 ≤ fu) (h2 : fu ≤ 9223372036854775807) {ck : Nat} (hm : w.heap[m]? = some (.map #[] ck)) :
    Dk (setH (w.alloc (.cells #[.slice none 0 0, .int .i64 0, .string nm] 63)) m (.map #[ent nm w.heap.size ck] (ck + 1))) d nm ⟨some ([], 0), fu, dead⟩ [d, m, w.heap.size] ∧ Kp w [d, m] (setH (w.alloc (.cells #[.slice none 0 0, .int .i64 0, .string nm] 63)) m (.map #[ent nm w.heap.size ck] (ck + 1))) := by
  have hne : m ≠ d := fun e => by subst e; unfold Blk at hd; rw [hd] at hm; cases hm
  have hml := lt_of_heap hm
  have hW : (w.alloc (.cells #[.slice none 0 0, .int .i64 0, .string nm] 63)).heap[m]? = some (.map #[] ck) := (heap_alloc_old _ _ hml).trans hm
  have kW : Kp (w.alloc (.cells #[.slice none 0 0, .int .i64 0, .string nm] 63)) [m] (setH (w.alloc (.cells #[.slice none 0 0, .int .i64 0, .string nm] 63)) m (.map #[ent nm w.heap.size ck] (ck + 1))) := (Kp.refl _ _).setH (.inl (by simp)) _
  have hset := MapKept.heap_set (o' := Obj.map #[ent nm w.heap.size ck] (ck + 1)) hW
  refine ⟨⟨⟨m, [w.heap.size], kW.blk (hd.alloc _) (by simpa using fun e => hne e.symm), ⟨w.heap.size, ck, ck + 1, .slice none 0 0, hset.1, by omega, kW.blk (Blk.new _ _ _) (by simp; omega), .inl ⟨rfl, rfl, rfl⟩, by simp, by simp, by simp, rfl⟩, rfl⟩, h1, h2⟩, ?_⟩
  exact ((Kp.refl w [d, m]).alloc _).setH (.inl (by simp)) _

set_option maxHeartbeats 2000000 in
set_option maxRecDepth 100000 in
theorem ddoes (nm : ByteArray) (hn : Nm nm) (d : Nat) (s : Dst) (F : List Nat) (w : World) (h : Dk w d nm s F) (size : Int) (made : Bool) (g : FuncId) (cap : Array Value) (eff : List Int × Nat → Option (List Int × Nat)) (hhow : ¬ 1048576 < size → How g cap w d nm (s.file.getD ([], 0)) eff) (eg : ∀ args W, (callFunc g args).run Try.prog W = .ok (.enter g args) W) :
    Calls Try.prog 30 #[.pointer (some ⟨d, 0, none⟩), .string nm, .int .i64 size, .bool made, .func (.func g) #[] cap] w fun e w' => e = .returned (.int .i64 (doesS s size made eff).2) ∧ DkTo w F d nm (doesS s size made eff).1 w' := by
  have H := Lib.hid h
  have HN := Lib.hid hn
  have HH := Lib.hid hhow
  obtain ⟨⟨m, G, hd, hf, rfl⟩, hfu1, hfu2⟩ := h
  obtain ⟨file, fu, dead⟩ := s
  simp only at hd hf hfu1 hfu2
  have c0 := hd.cell 0
  simp at c0
  have HD := Lib.hid hd
  have HF := Lib.hid hf
  clear hhow hn
  cases dead
  case true =>
    have E := Lib.hid (show doesS ⟨file, fu, true⟩ size made eff = (⟨file, fu, true⟩, 17) by simp [doesS])
    clear hd hf
    rw [E.out]
    go_enter Try.func30, Try.ntmps30
    go_wp2_with fail
    refine (dasked nm HN.out d _ _ _ H.out).mono ?_
    rintro e w1 ⟨rfl, rfl⟩
    go_wp2
    go_ret
    exact ⟨rfl, H.out.to⟩
  case false =>
    cases file with
    | none =>
      obtain ⟨ck, hm, rfl⟩ := hf
      have hl := run_look_none (P := Try.prog) Try.underlying44 Try.underlying9 hm nm (.pointer none) (by kernel_rfl)
      have hle := run_len_ (P := Try.prog) (ty := 3) Try.underlying44 hm
      have HM := Lib.hid hm
      clear hd hm
      cases made
      case false =>
        have E := Lib.hid (show doesS ⟨none, fu, false⟩ size false eff = (⟨none, fu, false⟩, 7) by simp [doesS])
        rw [E.out]
        go_enter Try.func30, Try.ntmps30
        go_wp2_with fail
        refine (dasked nm HN.out d _ _ _ H.out).mono ?_
        rintro e w1 ⟨rfl, rfl⟩
        go_wp2
        go_ret
        exact ⟨rfl, H.out.to⟩
      case true =>
        by_cases hsz : 1048576 < size
        · have E := Lib.hid (show doesS ⟨none, fu, false⟩ size true eff = (⟨none, fu, false⟩, 3) by simp [doesS, hsz])
          rw [E.out]
          go_enter Try.func30, Try.ntmps30
          go_wp2_with fail
          refine (dasked nm HN.out d _ _ _ H.out).mono ?_
          rintro e w1 ⟨rfl, rfl⟩
          go_wp2
          go_ret
          exact ⟨rfl, H.out.to⟩
        · by_cases h0 : fu = 0
          · have E := Lib.hid (show doesS ⟨none, fu, false⟩ size true eff = (⟨none, fu, true⟩, 17) by simp [doesS, hsz, h0])
            have B := Lib.hid (show burnS ⟨none, fu, false⟩ = (⟨none, fu, true⟩, 17) by simp [burnS, h0])
            rw [E.out]
            clear h0
            go_enter Try.func30, Try.ntmps30
            go_wp2_with fail
            refine (dasked nm HN.out d _ _ _ H.out).mono ?_
            rintro e w1 ⟨rfl, rfl⟩
            go_wp2_with fail
            refine (dburns nm d _ _ _ H.out).mono ?_
            rw [B.out]
            rintro e w1 ⟨rfl, hD1, hk1⟩
            have D1 := Lib.hid hD1
            have K1 := Lib.hid hk1
            clear hD1 hk1
            go_wp2
            go_ret
            exact ⟨rfl, ⟨_, D1.out, fun _ hk => .inl hk⟩, K1.out.mono (by simp)⟩
          · have E := Lib.hid (show doesS ⟨none, fu, false⟩ size true eff = ({ (burnS ⟨none, fu, false⟩).1 with file := eff ([], 0) }, 0) by simp [doesS, hsz, h0])
            have B := Lib.hid (show ∃ fu', burnS ⟨none, fu, false⟩ = (⟨none, fu', false⟩, 0) by unfold burnS; simp only [if_neg h0]; split <;> exact ⟨_, rfl⟩)
            rw [E.out]
            clear h0
            go_enter Try.func30, Try.ntmps30
            go_wp2_with fail
            refine (dasked nm HN.out d _ _ _ H.out).mono ?_
            rintro e w1 ⟨rfl, rfl⟩
            go_wp2_with fail
            refine (dburns nm d _ _ _ H.out).mono ?_
            obtain ⟨fu', hfu'⟩ := B.out
            have B' := Lib.hid hfu'
            clear hfu' B
            rw [B'.out]
            rintro e w1 ⟨rfl, hD1, hk1⟩
            obtain ⟨⟨m1, G1, hd1, hf1, hFe⟩, hfu1', hfu2'⟩ := hD1
            obtain ⟨ck1, hm1, rfl⟩ := hf1
            injection hFe with _ hFe
            injection hFe with hFe _
            subst hFe
            simp only at hd1 hfu1' hfu2'
            obtain ⟨hDn, hKn⟩ := dk_nofile (nm := nm) hd1 ⟨ck1, hm1, rfl⟩ hfu1' hfu2' hm1
            have hpu := run_put_one (P := Try.prog) Try.underlying44 Try.underlying9 ((heap_alloc_old w1 (.cells #[.slice none 0 0, .int .i64 0, .string nm] 63) (lt_of_heap hm1)).trans hm1) nm w1.heap.size
            have d0 := hd1.cell 0
            simp at d0
            have hdl := hd1.lt
            have hne : ¬ d = w1.heap.size := by omega
            have DN := Lib.hid hDn
            have KN := Lib.hid hKn
            have K1 := Lib.hid hk1
            have Kz := hk1.size
            clear hDn hKn hk1 hd1 hm1
            go_wp2_with fail
            refine (HH.out hsz _ _ w1.heap.size _ rfl DN.out rfl (keeps_of HD.out (by simp) (by simp) HM.out ((K1.out.mono (by simp)).trans KN.out fun _ hi => .inl hi))).mono ?_
            rintro e w2 ⟨rfl, hT⟩
            have T := Lib.hid hT
            clear hT
            go_wp2
            go_ret
            rw [B'.out]
            exact ⟨rfl, DkTo.trans (F := [d, m]) ((K1.out.mono (by simp)).trans KN.out fun _ hi => .inl hi) (by intro i hi; simp at hi ⊢; omega) T.out⟩
    | some q =>
      obtain ⟨xs, su⟩ := q
      obtain ⟨f, born, ck, v, hm, hb1, hff, ho, hby, hsu, hlen, rfl⟩ := hf
      have hl := run_look_one (P := Try.prog) Try.underlying44 Try.underlying9 nm hm
      have HM := Lib.hid hm
      clear hd hm hff ho hby
      by_cases hsz : 1048576 < size
      · have E := Lib.hid (show doesS ⟨some (xs, su), fu, false⟩ size made eff = (⟨some (xs, su), fu, false⟩, 3) by simp [doesS, hsz])
        rw [E.out]
        go_enter Try.func30, Try.ntmps30
        go_wp2_with fail
        refine (dasked nm HN.out d _ _ _ H.out).mono ?_
        rintro e w1 ⟨rfl, rfl⟩
        go_wp2
        go_ret
        exact ⟨rfl, H.out.to⟩
      · by_cases h0 : fu = 0
        · have E := Lib.hid (show doesS ⟨some (xs, su), fu, false⟩ size made eff = (⟨some (xs, su), fu, true⟩, 17) by simp [doesS, hsz, h0])
          have B := Lib.hid (show burnS ⟨some (xs, su), fu, false⟩ = (⟨some (xs, su), fu, true⟩, 17) by simp [burnS, h0])
          rw [E.out]
          clear h0
          go_enter Try.func30, Try.ntmps30
          go_wp2_with fail
          refine (dasked nm HN.out d _ _ _ H.out).mono ?_
          rintro e w1 ⟨rfl, rfl⟩
          go_wp2_with fail
          refine (dburns nm d _ _ _ H.out).mono ?_
          rw [B.out]
          rintro e w1 ⟨rfl, hD1, hk1⟩
          have D1 := Lib.hid hD1
          have K1 := Lib.hid hk1
          clear hD1 hk1
          go_wp2
          go_ret
          exact ⟨rfl, ⟨_, D1.out, fun _ hk => .inl hk⟩, K1.out.mono (by simp)⟩
        · have E := Lib.hid (show doesS ⟨some (xs, su), fu, false⟩ size made eff = ({ (burnS ⟨some (xs, su), fu, false⟩).1 with file := eff (xs, su) }, 0) by simp [doesS, hsz, h0])
          have B := Lib.hid (show ∃ fu', burnS ⟨some (xs, su), fu, false⟩ = (⟨some (xs, su), fu', false⟩, 0) by unfold burnS; simp only [if_neg h0]; split <;> exact ⟨_, rfl⟩)
          rw [E.out]
          clear h0
          go_enter Try.func30, Try.ntmps30
          go_wp2_with fail
          refine (dasked nm HN.out d _ _ _ H.out).mono ?_
          rintro e w1 ⟨rfl, rfl⟩
          go_wp2_with fail
          refine (dburns nm d _ _ _ H.out).mono ?_
          obtain ⟨fu', hfu'⟩ := B.out
          have B' := Lib.hid hfu'
          clear hfu' B
          rw [B'.out]
          rintro e w1 ⟨rfl, hD1, hk1⟩
          have D1 := Lib.hid hD1
          have K1 := Lib.hid hk1
          clear hD1 hk1
          go_wp2_with fail
          refine (HH.out hsz _ _ f _ rfl D1.out rfl (keeps_of HD.out (by simp) (by simp) HM.out (K1.out.mono (by simp)))).mono ?_
          rintro e w2 ⟨rfl, hT⟩
          have T := Lib.hid hT
          clear hT
          go_wp2
          go_ret
          rw [B'.out]
          exact ⟨rfl, DkTo.trans (F := d :: m :: f :: v.ownBlock.toList) (K1.out.mono (by simp)) (fun _ hi => .inl hi) T.out⟩
end Go.Proofs.Ytenobcfgapolhaa
