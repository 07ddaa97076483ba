import Derived.Test.YtoiclicechfmgaaGreatDoorDsz
import Derived.Test.YtoiclicechfmgaaGreatDoorCloB
import Derived.Deep.RegionLaw
import Derived.Shelf.Abstract
/- A disk of one file at most: a doing. -/
namespace Go.Proofs.YtoiclicechfmgaaGreatDoor
open Go.RowKit

/-- What a doing keeps ahead of how it is done. -/
structure Keeps (w W : World) : Prop where
  bs : ∀ v xs, Bs w v xs → Bs W v xs
  blk : ∀ g t cs, t ≠ 30 → Blk w g t cs → Blk W g t cs
  le : w.heap.size ≤ W.heap.size
theorem keeps_of {w W : World} {d m : Nat} {x y : Value} {es : Array MapEntry} {ck : Nat} (hd : Blk w d 30 #[.map (some m), x, y]) (hx : ∀ c, x ≠ .int .u8 c) (hy : ∀ c, y ≠ .int .u8 c) (hm : w.heap[m]? = some (.map es ck)) (k : Kp w [d, m] W) : Keeps w W := by
  refine ⟨fun v xs h => k.rd h ?_, fun g t cs ht hg => k.blk hg ?_, k.size⟩
  · rcases Bs.off hd (fun j c => by
      match j with
      | 0 => simp
      | 1 => simpa using hx c
      | 2 => simpa using hy c
      | j + 3 => simp) h with h0 | h1
    · exact .inl h0
    · rcases Bs.offmap hm h with h0 | h2
      · exact .inl h0
      · exact .inr fun j hj => by simp; exact ⟨h1 j hj, h2 j hj⟩
  · have h1 := hg.ne_ hd ht
    have h2 : g ≠ m := fun e => by subst e; unfold Blk at hg; rw [hg] at hm; cases hm
    simp [h1, h2]

/-- What how it is done owes. -/
def How (g : FuncId) (cap : Array Value) (w : World) (d : Nat) (nm : ByteArray) (q : List Int × Nat) (eff : List Int × Nat → Option (List Int × Nat)) : Prop :=
  ∀ (W : World) (F : List Nat) (f : Nat) (s : Dst), s.file = some q → Dk W d nm s F → F[2]? = some f → Keeps w W →
    Calls Tryz.prog g (#[.pointer (some ⟨f, 0, none⟩)] ++ cap) W fun e w' => e = .returned (.tuple #[]) ∧ DkTo W F d nm { s with file := eff q } w'

def doesS (s : Dst) (size : Int) (made : Bool) (eff : List Int × Nat → Option (List Int × Nat)) : Dst × Int :=
  if s.dead = true then (s, 17) else if s.file = none ∧ made = false then (s, 7) else if 1048576 < size then (s, 3) else
  if s.fuse = 0 then ({ s with dead := true }, 17) else ({ (burnS s).1 with file := eff (s.file.getD ([], 0)) }, 0)

theorem dk_nofile {w : World} {d m : Nat} {nm : ByteArray} {fu : Int} {G : List Nat} {dead : Bool} (hd : Blk w d 30 #[.map (some m), .int .i64 fu, .bool dead]) (_hf : DkF w m nm none G) (h1 : -1 ≤ fu) (h2 : fu ≤ 9223372036854775807) {ck : Nat} (hm : w.heap[m]? = some (.map #[] ck)) :
    Dk (setH (w.alloc (.cells #[.slice none 0 0, .int .i64 0, .string nm] 100)) m (.map #[ent nm w.heap.size ck] (ck + 1))) d nm ⟨some ([], 0), fu, dead⟩ [d, m, w.heap.size] ∧ Kp w [d, m] (setH (w.alloc (.cells #[.slice none 0 0, .int .i64 0, .string nm] 100)) m (.map #[ent nm w.heap.size ck] (ck + 1))) := by
  have hne : m ≠ d := fun e => by subst e; unfold Blk at hd; rw [hd] at hm; cases hm
  have hml := lt_of_heap hm
  have hW : (w.alloc (.cells #[.slice none 0 0, .int .i64 0, .string nm] 100)).heap[m]? = some (.map #[] ck) := (heap_alloc_old _ _ hml).trans hm
  have kW : Kp (w.alloc (.cells #[.slice none 0 0, .int .i64 0, .string nm] 100)) [m] (setH (w.alloc (.cells #[.slice none 0 0, .int .i64 0, .string nm] 100)) m (.map #[ent nm w.heap.size ck] (ck + 1))) := (Kp.refl _ _).setH (.inl (by simp)) _
  have hset := MapKept.heap_set (o' := Obj.map #[ent nm w.heap.size ck] (ck + 1)) hW
  refine ⟨⟨⟨m, [w.heap.size], kW.blk (hd.alloc _) (by simpa using fun e => hne e.symm), ⟨w.heap.size, ck, ck + 1, .slice none 0 0, hset.1, by omega, kW.blk (Blk.new _ _ _) (by simp; omega), .inl ⟨rfl, rfl, rfl⟩, by simp, by simp, by simp, rfl⟩, rfl⟩, h1, h2⟩, ?_⟩
  exact ((Kp.refl w [d, m]).alloc _).setH (.inl (by simp)) _

set_option maxHeartbeats 2000000 in
set_option maxRecDepth 100000 in
theorem ddoes (nm : ByteArray) (hn : Nm nm) (d : Nat) (s : Dst) (F : List Nat) (w : World) (h : Dk w d nm s F) (size : Int) (made : Bool) (g : FuncId) (cap : Array Value) (eff : List Int × Nat → Option (List Int × Nat)) (hhow : ¬ 1048576 < size → How g cap w d nm (s.file.getD ([], 0)) eff) (eg : ∀ args W, (callFunc g args).run Tryz.prog W = .ok (.enter g args) W) :
    Calls Tryz.prog 42 #[.pointer (some ⟨d, 0, none⟩), .string nm, .int .i64 size, .bool made, .func (.func g) #[] cap] w fun e w' => e = .returned (.int .i64 (doesS s size made eff).2) ∧ DkTo w F d nm (doesS s size made eff).1 w' := by
  have H := Lib.hid h
  have HN := Lib.hid hn
  have HH := Lib.hid hhow
  obtain ⟨⟨m, G, hd, hf, rfl⟩, hfu1, hfu2⟩ := h
  obtain ⟨file, fu, dead⟩ := s
  simp only at hd hf hfu1 hfu2
  have c0 := hd.cell 0
  simp at c0
  have HD := Lib.hid hd
  have HF := Lib.hid hf
  clear hhow hn
  cases dead
  case true =>
    have E := Lib.hid (show doesS ⟨file, fu, true⟩ size made eff = (⟨file, fu, true⟩, 17) by simp [doesS])
    clear hd hf
    rw [E.out]
    go_enter Tryz.func42, Tryz.ntmps42
    go_wp2_with fail
    refine (dasked nm HN.out d _ _ _ H.out).mono ?_
    rintro e w1 ⟨rfl, rfl⟩
    go_wp2
    go_ret
    exact ⟨rfl, H.out.to⟩
  case false =>
    cases file with
    | none =>
      obtain ⟨ck, hm, rfl⟩ := hf
      have hl := run_look_none (P := Tryz.prog) Tryz.underlying28 Tryz.underlying9 hm nm (.pointer none) (by kernel_rfl)
      have hle := run_len_ (P := Tryz.prog) (ty := 3) Tryz.underlying28 hm
      have HM := Lib.hid hm
      clear hd hm
      cases made
      case false =>
        have E := Lib.hid (show doesS ⟨none, fu, false⟩ size false eff = (⟨none, fu, false⟩, 7) by simp [doesS])
        rw [E.out]
        go_enter Tryz.func42, Tryz.ntmps42
        go_wp2_with fail
        refine (dasked nm HN.out d _ _ _ H.out).mono ?_
        rintro e w1 ⟨rfl, rfl⟩
        go_wp2
        go_ret
        exact ⟨rfl, H.out.to⟩
      case true =>
        by_cases hsz : 1048576 < size
        · have E := Lib.hid (show doesS ⟨none, fu, false⟩ size true eff = (⟨none, fu, false⟩, 3) by simp [doesS, hsz])
          rw [E.out]
          go_enter Tryz.func42, Tryz.ntmps42
          go_wp2_with fail
          refine (dasked nm HN.out d _ _ _ H.out).mono ?_
          rintro e w1 ⟨rfl, rfl⟩
          go_wp2
          go_ret
          exact ⟨rfl, H.out.to⟩
        · by_cases h0 : fu = 0
          · have E := Lib.hid (show doesS ⟨none, fu, false⟩ size true eff = (⟨none, fu, true⟩, 17) by simp [doesS, hsz, h0])
            have B := Lib.hid (show burnS ⟨none, fu, false⟩ = (⟨none, fu, true⟩, 17) by simp [burnS, h0])
            rw [E.out]
            clear h0
            go_enter Tryz.func42, Tryz.ntmps42
            go_wp2_with fail
            refine (dasked nm HN.out d _ _ _ H.out).mono ?_
            rintro e w1 ⟨rfl, rfl⟩
            go_wp2_with fail
            refine (dburns nm d _ _ _ H.out).mono ?_
            rw [B.out]
            rintro e w1 ⟨rfl, hD1, hk1⟩
            have D1 := Lib.hid hD1
            have K1 := Lib.hid hk1
            clear hD1 hk1
            go_wp2
            go_ret
            exact ⟨rfl, ⟨_, D1.out, fun _ hk => .inl hk⟩, K1.out.mono (by simp)⟩
          · have E := Lib.hid (show doesS ⟨none, fu, false⟩ size true eff = ({ (burnS ⟨none, fu, false⟩).1 with file := eff ([], 0) }, 0) by simp [doesS, hsz, h0])
            have B := Lib.hid (show ∃ fu', burnS ⟨none, fu, false⟩ = (⟨none, fu', false⟩, 0) by unfold burnS; simp only [if_neg h0]; split <;> exact ⟨_, rfl⟩)
            rw [E.out]
            clear h0
            go_enter Tryz.func42, Tryz.ntmps42
            go_wp2_with fail
            refine (dasked nm HN.out d _ _ _ H.out).mono ?_
            rintro e w1 ⟨rfl, rfl⟩
            go_wp2_with fail
            refine (dburns nm d _ _ _ H.out).mono ?_
            obtain ⟨fu', hfu'⟩ := B.out
            have B' := Lib.hid hfu'
            clear hfu' B
            rw [B'.out]
            rintro e w1 ⟨rfl, hD1, hk1⟩
            obtain ⟨⟨m1, G1, hd1, hf1, hFe⟩, hfu1', hfu2'⟩ := hD1
            obtain ⟨ck1, hm1, rfl⟩ := hf1
            injection hFe with _ hFe
            injection hFe with hFe _
            subst hFe
            simp only at hd1 hfu1' hfu2'
            obtain ⟨hDn, hKn⟩ := dk_nofile (nm := nm) hd1 ⟨ck1, hm1, rfl⟩ hfu1' hfu2' hm1
            have hpu := run_put_one (P := Tryz.prog) Tryz.underlying28 Tryz.underlying9 ((heap_alloc_old w1 (.cells #[.slice none 0 0, .int .i64 0, .string nm] 100) (lt_of_heap hm1)).trans hm1) nm w1.heap.size
            have d0 := hd1.cell 0
            simp at d0
            have hdl := hd1.lt
            have hne : ¬ d = w1.heap.size := by omega
            have DN := Lib.hid hDn
            have KN := Lib.hid hKn
            have K1 := Lib.hid hk1
            have Kz := hk1.size
            clear hDn hKn hk1 hd1 hm1
            go_wp2_with fail
            refine (HH.out hsz _ _ w1.heap.size _ rfl DN.out rfl (keeps_of HD.out (by simp) (by simp) HM.out ((K1.out.mono (by simp)).trans KN.out fun _ hi => .inl hi))).mono ?_
            rintro e w2 ⟨rfl, hT⟩
            have T := Lib.hid hT
            clear hT
            go_wp2
            go_ret
            rw [B'.out]
            exact ⟨rfl, DkTo.trans (F := [d, m]) ((K1.out.mono (by simp)).trans KN.out fun _ hi => .inl hi) (by intro i hi; simp at hi ⊢; omega) T.out⟩
    | some q =>
      obtain ⟨xs, su⟩ := q
      obtain ⟨f, born, ck, v, hm, hb1, hff, ho, hby, hsu, hlen, rfl⟩ := hf
      have hl := run_look_one (P := Tryz.prog) Tryz.underlying28 Tryz.underlying9 nm hm
      have HM := Lib.hid hm
      clear hd hm hff ho hby
      by_cases hsz : 1048576 < size
      · have E := Lib.hid (show doesS ⟨some (xs, su), fu, false⟩ size made eff = (⟨some (xs, su), fu, false⟩, 3) by simp [doesS, hsz])
        rw [E.out]
        go_enter Tryz.func42, Tryz.ntmps42
        go_wp2_with fail
        refine (dasked nm HN.out d _ _ _ H.out).mono ?_
        rintro e w1 ⟨rfl, rfl⟩
        go_wp2
        go_ret
        exact ⟨rfl, H.out.to⟩
      · by_cases h0 : fu = 0
        · have E := Lib.hid (show doesS ⟨some (xs, su), fu, false⟩ size made eff = (⟨some (xs, su), fu, true⟩, 17) by simp [doesS, hsz, h0])
          have B := Lib.hid (show burnS ⟨some (xs, su), fu, false⟩ = (⟨some (xs, su), fu, true⟩, 17) by simp [burnS, h0])
          rw [E.out]
          clear h0
          go_enter Tryz.func42, Tryz.ntmps42
          go_wp2_with fail
          refine (dasked nm HN.out d _ _ _ H.out).mono ?_
          rintro e w1 ⟨rfl, rfl⟩
          go_wp2_with fail
          refine (dburns nm d _ _ _ H.out).mono ?_
          rw [B.out]
          rintro e w1 ⟨rfl, hD1, hk1⟩
          have D1 := Lib.hid hD1
          have K1 := Lib.hid hk1
          clear hD1 hk1
          go_wp2
          go_ret
          exact ⟨rfl, ⟨_, D1.out, fun _ hk => .inl hk⟩, K1.out.mono (by simp)⟩
        · have E := Lib.hid (show doesS ⟨some (xs, su), fu, false⟩ size made eff = ({ (burnS ⟨some (xs, su), fu, false⟩).1 with file := eff (xs, su) }, 0) by simp [doesS, hsz, h0])
          have B := Lib.hid (show ∃ fu', burnS ⟨some (xs, su), fu, false⟩ = (⟨some (xs, su), fu', false⟩, 0) by unfold burnS; simp only [if_neg h0]; split <;> exact ⟨_, rfl⟩)
          rw [E.out]
          clear h0
          go_enter Tryz.func42, Tryz.ntmps42
          go_wp2_with fail
          refine (dasked nm HN.out d _ _ _ H.out).mono ?_
          rintro e w1 ⟨rfl, rfl⟩
          go_wp2_with fail
          refine (dburns nm d _ _ _ H.out).mono ?_
          obtain ⟨fu', hfu'⟩ := B.out
          have B' := Lib.hid hfu'
          clear hfu' B
          rw [B'.out]
          rintro e w1 ⟨rfl, hD1, hk1⟩
          have D1 := Lib.hid hD1
          have K1 := Lib.hid hk1
          clear hD1 hk1
          go_wp2_with fail
          refine (HH.out hsz _ _ f _ rfl D1.out rfl (keeps_of HD.out (by simp) (by simp) HM.out (K1.out.mono (by simp)))).mono ?_
          rintro e w2 ⟨rfl, hT⟩
          have T := Lib.hid hT
          clear hT
          go_wp2
          go_ret
          rw [B'.out]
          exact ⟨rfl, DkTo.trans (F := d :: m :: f :: v.ownBlock.toList) (K1.out.mono (by simp)) (fun _ hi => .inl hi) T.out⟩
end Go.Proofs.YtoiclicechfmgaaGreatDoor

/- A disk of one file at most: Add, Sure, Put, Read. -/
namespace Go.Proofs.YtoiclicechfmgaaGreatDoor
open Go.RowKit

/-- The file's struct and buffer turn. -/
theorem dk_refile {W W' : World} {d m f born ck : Nat} {nm : ByteArray} {fu : Int} {dead : Bool} {v v' : Value} {xs xs' : List Int} {su su' : Nat} (hfu : -1 ≤ fu ∧ fu ≤ 9223372036854775807)
    (hd : Blk W d 30 #[.map (some m), .int .i64 fu, .bool dead]) (hm : W.heap[m]? = some (.map #[ent nm f born] ck)) (hb : born < ck) (hff : Blk W f 100 #[v, .int .i64 su, .string nm]) (ho : Bo 0 W v xs)
    (k : Kp W (f :: v.ownBlock.toList) W') (hf' : Blk W' f 100 #[v', .int .i64 su', .string nm]) (ho' : Bo 0 W' v' xs') (hby : ∀ c ∈ xs', byt c) (hsu : su' ≤ xs'.length) (hlen : xs'.length ≤ 1048576)
    (hv : v'.ownBlock = v.ownBlock ∨ ∀ k, v'.ownBlock = some k → W.heap.size ≤ k) : DkTo W (d :: m :: f :: v.ownBlock.toList) d nm ⟨some (xs', su'), fu, dead⟩ W' := by
  have nd : d ∉ f :: v.ownBlock.toList := by
    intro h
    rcases List.mem_cons.1 h with e | h
    · exact hd.ne_ hff (by decide) e
    · rcases ho with ⟨rfl, _⟩ | ⟨g, c, cur, rfl, _, hg, _⟩
      · simp [Value.ownBlock] at h
      · simp [Value.ownBlock] at h; exact hd.ne_ hg (by decide) h
  have nmm : m ∉ f :: v.ownBlock.toList := by
    intro h
    rcases List.mem_cons.1 h with e | h
    · subst e; unfold Blk at hff; rw [hff] at hm; cases hm
    · rcases ho with ⟨rfl, _⟩ | ⟨g, c, cur, rfl, _, hg, _⟩
      · simp [Value.ownBlock] at h
      · simp [Value.ownBlock] at h; subst h; unfold Blk at hg; rw [hg] at hm; cases hm
  refine ⟨⟨d :: m :: f :: v'.ownBlock.toList, ⟨⟨m, _, k.blk hd nd, ⟨f, born, ck, v', (k.block m (lt_of_heap hm) nmm).trans hm, hb, hf', ho', hby, hsu, hlen, rfl⟩, rfl⟩, hfu⟩, fun i hi => ?_⟩, k.mono fun i hi => ?_⟩
  · simp only [List.mem_cons] at hi ⊢
    rcases hi with h | h | h | h
    · exact .inl (.inl h)
    · exact .inl (.inr (.inl h))
    · exact .inl (.inr (.inr (.inl h)))
    · rcases hv with hv | hv
      · rw [hv] at h; exact .inl (.inr (.inr (.inr h)))
      · exact .inr (hv i (by simpa using h))
  · simp only [List.mem_cons] at hi ⊢
    exact .inr (.inr hi)

theorem Kp.of_grown {a b : World} {r : Option Nat} (h : a.grownBy b r) : Kp a r.toList b := ⟨h.os, h.tape, h.output, h.size, fun i hi hn => h.block i hi (fun e => hn (by rw [← e]; simp))⟩
/-- A disk with a file, its parts. -/
theorem Dk.parts {W : World} {d f : Nat} {nm : ByteArray} {s : Dst} {F : List Nat} {q : List Int × Nat} (h : Dk W d nm s F) (hq : s.file = some q) (hF : F[2]? = some f) :
    ∃ m born ck v, Blk W d 30 #[.map (some m), .int .i64 s.fuse, .bool s.dead] ∧ W.heap[m]? = some (.map #[ent nm f born] ck) ∧ born < ck ∧ Blk W f 100 #[v, .int .i64 q.2, .string nm] ∧ Bo 0 W v q.1 ∧
      (∀ c ∈ q.1, byt c) ∧ q.2 ≤ q.1.length ∧ q.1.length ≤ 1048576 ∧ F = d :: m :: f :: v.ownBlock.toList := by
  obtain ⟨⟨m, G, hd, hf, rfl⟩, _⟩ := h
  rw [hq] at hf
  obtain ⟨f', born, ck, v, hm, hb, hff, ho, hby, hsu, hlen, rfl⟩ := hf
  simp at hF
  subst hF
  exact ⟨m, born, ck, v, hd, hm, hb, hff, ho, hby, hsu, hlen, rfl⟩

set_option maxHeartbeats 1000000 in
theorem how_add (w : World) (d : Nat) (nm : ByteArray) (q : List Int × Nat) (a : Nat) (bv : Value) (bs : List Int) (ha : Blk w a 22 #[bv]) (hbs : Bs w bv bs) (hby : ∀ c ∈ bs, byt c) (hl : q.1.length + bs.length ≤ 1048576) :
    How 47 #[.pointer (some ⟨a, 0, none⟩)] w d nm q (fun q => some (q.1 ++ bs, q.2)) := by
  intro W F f s hq hD hF hK
  obtain ⟨m, born, ck, v, hd, hm, hb, hff, ho, hby', hsu, hlen, rfl⟩ := hD.parts hq hF
  have hfu := hD.fuse
  have ha' := hK.blk _ _ _ (by decide) ha
  have hbs' := hK.bs _ _ hbs
  have c0 := hff.cell 0
  have cb := ha'.cell 0
  have fz := hff.free
  simp at c0 cb
  have X := Lib.hid (fun W' v' (k : Kp W (f :: v.ownBlock.toList) W') hf' (ho' : Bo 0 W' v' (q.1 ++ bs)) hv => dk_refile (su' := q.2) hfu hd hm hb hff ho k hf' ho' (fun c hc => (List.mem_append.1 hc).elim (hby' c) (hby c)) (by simp; omega) (by simp; omega) hv)
  have HF := Lib.hid (show Blk W.drew f 100 #[v, .int .i64 q.2, .string nm] from hff)
  have HB := Lib.hid (show Bf 0 W W.drew v q.1 from ⟨ho, ⟨rfl, rfl, rfl, Nat.le_refl _, fun _ _ => rfl⟩, Nat.zero_le _⟩)
  have HY := Lib.hid (show Bs W.drew bv bs from hbs')
  have hNo := Lib.hid (Ow.notat ho hff (by decide))
  have hl' : q.1.length + bs.length ≤ 140737488355328 := by omega
  have ho' := ho
  obtain ⟨A, c, hv, hc, -⟩ := ho'.clip
  obtain ⟨A2, c2, hv2, -⟩ := id hbs'
  clear hd hm hff ho ho' hby hby' hF hq hD hK hbs hbs' ha ha' hl
  show Calls _ _ #[.pointer (some ⟨f, 0, none⟩), .pointer (some ⟨a, 0, none⟩)] _ _
  subst hv hv2
  go_enter Tryz.func47, Tryz.ntmps47
  go_wp2
  go_region_law (refine step_bf_bytes rfl (.tmp 8) (.tmp 9) 22 rfl Tryz.underlying22 rfl HB.out HY.out rfl hl' ?_; intro v2 w2 hB2 hK2; obtain ⟨A3, m3, k3, rfl⟩ := hB2.own.sl; have hk2 := Blk.grown HF.out hK2.1 (fun e => hNo.out e.symm); have f1 := hk2.free; have c1 := hk2.cell 0; have HK2 := Lib.hid hk2; have HG2 := Lib.hid hK2; have HB2 := Lib.hid hB2; clear hk2 hB2 hK2; simp at c1)
  all_goals
    go_wp2
    refine bodyPost_end (results_none rfl _ _ _) rfl ⟨rfl, ?_⟩
    have k0 : Kp W.drew (Value.slice A q.1.length c).ownBlock.toList w2 := Kp.of_grown HG2.out.1
    have k1 : Kp W (f :: (Value.slice A q.1.length c).ownBlock.toList) w2 := ⟨k0.os, k0.tape, k0.output, k0.size, fun i hi hn => k0.block i hi (fun h => hn (List.mem_cons_of_mem _ h))⟩
    refine X.out _ _ (k1.setCell (p := ⟨f, 0, none⟩) (.inl (by simp)) _) ?_ (Ow.aside HB2.out.own HK2.out (by decide) _ _) HG2.out.2
    have := HK2.out.set_ 0 (.slice A3 m3 k3)
    simpa using this

set_option maxHeartbeats 1000000 in
theorem how_put (w : World) (d : Nat) (nm : ByteArray) (q : List Int × Nat) (a : Nat) (bv : Value) (bs : List Int) (ha : Blk w a 22 #[bv]) (hbs : Bs w bv bs) (hby : ∀ c ∈ bs, byt c) (hl : bs.length ≤ 1048576) :
    How 43 #[.pointer (some ⟨a, 0, none⟩)] w d nm q (fun _ => some (bs, bs.length)) := by
  intro W F f s hq hD hF hK
  obtain ⟨m, born, ck, v, hd, hm, hb, hff, ho, hby', hsu, hlen, rfl⟩ := hD.parts hq hF
  have hfu := hD.fuse
  have ha' := hK.blk _ _ _ (by decide) ha
  have hbs' := hK.bs _ _ hbs
  have X := Lib.hid (fun W' v' (k : Kp W (f :: v.ownBlock.toList) W') hf' (ho' : Bo 0 W' v' bs) hv => dk_refile (su' := bs.length) hfu hd hm hb hff ho k hf' ho' hby (Nat.le_refl _) hl hv)
  have HF := Lib.hid (show Blk W.drew f 100 #[v, .int .i64 q.2, .string nm] from hff)
  have HY := Lib.hid (show Bs W.drew bv bs from hbs')
  have HA := Lib.hid (show Blk W.drew a 22 #[bv] from ha')
  have SS : ∀ X, Below W.drew.heap.size W.drew X → X.cell? ⟨a, 0, none⟩ = some bv ∧ X.cell? ⟨f, 0, none⟩ = some v ∧ X.cell? ⟨f, 1, none⟩ = some (.int .i64 q.2) ∧ X.frozen? ⟨f, 0, none⟩ = false ∧ X.frozen? ⟨f, 1, none⟩ = false := fun X hb => by
    have h1 := HA.out.below hb HA.out.lt
    have h2 := HF.out.below hb HF.out.lt
    exact ⟨(h1.cell 0).trans (by simp), (h2.cell 0).trans (by simp), (h2.cell 1).trans (by simp), h2.free 0, h2.free 1⟩
  have S0 := Lib.hid (SS _ (Below.refl _ _))
  have S1 := Lib.hid SS
  clear SS
  obtain ⟨A2, c2, hv2, -⟩ := id hbs'
  clear hd hm hff ho hby hby' hF hq hD hK hbs hbs' ha ha'
  show Calls _ _ #[.pointer (some ⟨f, 0, none⟩), .pointer (some ⟨a, 0, none⟩)] _ _
  subst hv2
  obtain ⟨ca, cf0, cf1, zf0, zf1⟩ := S0.out
  go_enter Tryz.func43, Tryz.ntmps43
  go_wp2
  go_region_law (first
     | (go_simp; go_at_call 44; refine (byt_clone_any _ _ _ _ HY.out (bc_one _) (by omega) (by omega)).mono ?_; rintro e w1 ⟨v1, rfl, ho1, hb1⟩; obtain ⟨A1, c1, rfl, -⟩ := id (Ow.clip ho1); obtain ⟨ca', cf0', cf1', zf0', zf1'⟩ := S1.out _ hb1; have O1 := Lib.hid ho1; have B1 := Lib.hid hb1; clear ho1 hb1))
  all_goals
    go_wp2
    refine bodyPost_end (results_none rfl _ _ _) rfl ⟨rfl, ?_⟩
    have k1 : Kp W (f :: v.ownBlock.toList) w1 := (Kp.of_below (show Below W.heap.size W w1 from ⟨B1.out.os, B1.out.tape, B1.out.output, B1.out.size, B1.out.block⟩) _)
    have hk1 := HF.out.below B1.out HF.out.lt
    have hk2 := hk1.set_ 0 (.slice A1 bs.length c1)
    refine X.out _ _ ((k1.setCell (p := ⟨f, 0, none⟩) (.inl (by simp)) _).setCell (p := ⟨f, 1, none⟩) (.inl (by simp)) _) ?_ (((Ow.aside O1.out hk1 (by decide) _ _).aside hk2 (by decide) _ _).le (Nat.zero_le _)) (.inr fun k hk => Ow.blk_lt O1.out k hk)
    have := hk2.set_ 1 (.int .i64 bs.length)
    simpa using this

theorem Dk.size_le {nm : ByteArray} {d : Nat} {s : Dst} {F : List Nat} {w : World} (h : Dk w d nm s F) : sizeS s ≤ 1048576 := by
  obtain ⟨m, G, hd, hf, rfl⟩ := h.ex
  obtain ⟨file, fu, dead⟩ := s
  cases file with
  | none => simp [sizeS]
  | some q => obtain ⟨f, born, ck, v, hb, _, hff, ho, _, _, hl, rfl⟩ := hf; simpa [sizeS] using hl
theorem sizeS_get (s : Dst) : (s.file.getD ([], 0)).1.length = sizeS s := by
  obtain ⟨file, fu, dead⟩ := s
  cases file <;> rfl

set_option maxHeartbeats 1000000 in
theorem dadd (nm : ByteArray) (hn : Nm nm) (d : Nat) (s : Dst) (F : List Nat) (bv : Value) (bs : List Int) (hby : ∀ c ∈ bs, byt c) (hlb : bs.length ≤ 4611686018427387904) (w : World) (h : Dk w d nm s F) (hbs : Bs w bv bs) :
    Calls Tryz.prog 14 #[.pointer (some ⟨d, 0, none⟩), .string nm, bv] w fun e w' => e = .returned (.int .i64 (doesS s ((sizeS s : Nat) + (bs.length : Nat) : Int) true (fun q => some (q.1 ++ bs, q.2))).2) ∧
      DkTo w F d nm (doesS s ((sizeS s : Nat) + (bs.length : Nat) : Int) true (fun q => some (q.1 ++ bs, q.2))).1 w' := by
  have hb := below_alloc_ w (.cells #[bv] 22)
  have hsz := h.size_le
  have HD := Lib.hid (show Dk (w.alloc (.cells #[bv] 22)).drew d nm s F from h.below hb.drew)
  have HH := Lib.hid (show How 47 #[.pointer (some ⟨w.heap.size, 0, none⟩)] (w.alloc (.cells #[bv] 22)).drew d nm (s.file.getD ([], 0)) (fun q => some (q.1 ++ bs, q.2)) ∨ 1048576 < ((sizeS s : Nat) + (bs.length : Nat) : Int) from by
    by_cases hl : 1048576 < ((sizeS s : Nat) + (bs.length : Nat) : Int)
    · exact .inr hl
    · exact .inl (how_add (w.alloc (.cells #[bv] 22)).drew d nm _ w.heap.size bv bs (show Blk (w.alloc (.cells #[bv] 22)).drew w.heap.size 22 #[bv] from Blk.new w 22 #[bv]) (hbs.below hb.drew) hby (by rw [sizeS_get]; omega)))
  have S0 := Lib.hid (show (w.alloc (.cells #[bv] 22)).drew.cell? ⟨w.heap.size, 0, none⟩ = some bv from ((Blk.new w 22 #[bv]).cell 0).trans (by simp))
  have S1 := Lib.hid (fun X (hT : Kp (w.alloc (.cells #[bv] 22)).drew F X) => show X.cell? ⟨w.heap.size, 0, none⟩ = some bv from ((hT.blk (show Blk (w.alloc (.cells #[bv] 22)).drew w.heap.size 22 #[bv] from Blk.new w 22 #[bv]) (fun hk => by have := h.lt _ hk; omega)).cell 0).trans (by simp))
  obtain ⟨n, hnn⟩ : ∃ n, n = sizeS s := ⟨_, rfl⟩
  have N := Lib.hid hnn
  rw [← hnn] at hsz ⊢
  obtain ⟨A2, c2, rfl, -⟩ := id hbs
  have hsum : IntKind.i64.wrap ((n : Int) + (bs.length : Int)) = (n : Int) + (bs.length : Int) := IntWalk.i64_in _ (by omega)
  have hmf : ∀ (fn : Fn) (first cap : Array Value) (w : World), (Instr.makeFunc fn first cap).run Tryz.prog w = .ok (.func fn first cap) w := fun _ _ _ _ => rfl
  clear h hbs hb hby hnn
  go_enter Tryz.func14, Tryz.ntmps14
  go_wp2
  go_region_held3 (fun w' => w'.cell? ⟨w.heap.size, 0, none⟩ = some (.slice A2 bs.length c2)) (first
     | (with_reducible exact S1.out _ hT.kp)
     | (with_reducible exact S0.out)
     | fail)
    (first
     | (go_at_call 42; refine (ddoes nm hn d s F _ HD.out _ true 47 _ (fun q => some (q.1 ++ bs, q.2)) (fun hl => HH.out.resolve_right (by rw [← N.out]; exact hl)) (enters_of Tryz.func47 (by kernel_rfl) rfl)).mono ?_; rintro e w1 ⟨rfl, hT⟩)
     | (go_at_call 46; refine (dsize nm d s F _ HD.out).mono ?_; rw [← N.out]; rintro e w1 ⟨rfl, rfl⟩))
  all_goals
    go_wp2
    go_ret
    exact ⟨rfl, DkTo.trans (Kp.of_below ((below_alloc_ w (.cells #[.slice A2 bs.length c2] 22)).drew) F) (fun _ hk => .inl hk) hT⟩

set_option maxHeartbeats 1000000 in
theorem dput (nm : ByteArray) (hn : Nm nm) (d : Nat) (s : Dst) (F : List Nat) (bv : Value) (bs : List Int) (hby : ∀ c ∈ bs, byt c) (hlb : bs.length ≤ 4611686018427387904) (w : World) (h : Dk w d nm s F) (hbs : Bs w bv bs) :
    Calls Tryz.prog 12 #[.pointer (some ⟨d, 0, none⟩), .string nm, bv] w fun e w' => e = .returned (.int .i64 (doesS s bs.length true (fun _ => some (bs, bs.length))).2) ∧
      DkTo w F d nm (doesS s bs.length true (fun _ => some (bs, bs.length))).1 w' := by
  have hb := below_alloc_ w (.cells #[bv] 22)
  have HD := Lib.hid (show Dk (w.alloc (.cells #[bv] 22)) d nm s F from h.below hb)
  have HH := Lib.hid (show How 43 #[.pointer (some ⟨w.heap.size, 0, none⟩)] (w.alloc (.cells #[bv] 22)) d nm (s.file.getD ([], 0)) (fun _ => some (bs, bs.length)) ∨ 1048576 < (bs.length : Int) from by
    by_cases hl : 1048576 < (bs.length : Int)
    · exact .inr hl
    · exact .inl (how_put (w.alloc (.cells #[bv] 22)) d nm _ w.heap.size bv bs (Blk.new w 22 #[bv]) (hbs.below hb) hby (by omega)))
  obtain ⟨A2, c2, rfl, -⟩ := id hbs
  have hmf : ∀ (fn : Fn) (first cap : Array Value) (w : World), (Instr.makeFunc fn first cap).run Tryz.prog w = .ok (.func fn first cap) w := fun _ _ _ _ => rfl
  clear h hbs hb hby
  go_enter Tryz.func12, Tryz.ntmps12
  go_wp2_with fail
  refine (ddoes nm hn d s F _ HD.out _ true 43 _ (fun _ => some (bs, bs.length)) (fun hl => HH.out.resolve_right hl) (enters_of Tryz.func43 (by kernel_rfl) rfl)).mono ?_
  rintro e w1 ⟨rfl, hT⟩
  have T := Lib.hid hT
  clear hT
  go_wp2
  go_ret
  exact ⟨rfl, DkTo.trans (Kp.of_below (below_alloc_ w (.cells #[.slice A2 bs.length c2] 22)) F) (fun _ hk => .inl hk) T.out⟩

/-- What Read answers. -/
def readS (s : Dst) : List Int × Int := if s.dead = true then ([], 17) else match s.file with
  | none => ([], 7)
  | some q => (q.1, 0)
set_option maxHeartbeats 1000000 in
theorem dread (nm : ByteArray) (hn : Nm nm) (d : Nat) (s : Dst) (F : List Nat) (w : World) (h : Dk w d nm s F) :
    Calls Tryz.prog 21 #[.pointer (some ⟨d, 0, none⟩), .string nm] w fun e w' => ∃ P, e = .returned (.tuple #[.slice P (readS s).1.length (readS s).1.length, .int .i64 (readS s).2]) ∧
      Bo w.heap.size w' (.slice P (readS s).1.length (readS s).1.length) (readS s).1 ∧ Below w.heap.size w w' := by
  have H := Lib.hid h
  obtain ⟨m, G, hd, hf, rfl⟩ := h.ex
  have c0 := hd.cell 0
  simp at c0
  obtain ⟨file, fu, dead⟩ := s
  cases dead
  case true =>
    have E := Lib.hid (show readS ⟨file, fu, true⟩ = ([], 17) by simp [readS])
    clear hd hf h
    rw [E.out]
    go_enter Tryz.func21, Tryz.ntmps21
    go_wp2_with fail
    refine (dasked nm hn d _ _ _ H.out).mono ?_
    rintro e w1 ⟨rfl, rfl⟩
    go_wp2
    go_ret2
    exact ⟨none, rfl, Bo.nil_ _ _, Below.refl _ _⟩
  case false =>
    cases file with
    | none =>
      obtain ⟨ck, hm, rfl⟩ := hf
      have hl := run_look_none (P := Tryz.prog) Tryz.underlying28 Tryz.underlying9 hm nm (.pointer none) (by kernel_rfl)
      have E := Lib.hid (show readS ⟨none, fu, false⟩ = ([], 7) by simp [readS])
      clear hd hm h
      rw [E.out]
      go_enter Tryz.func21, Tryz.ntmps21
      go_wp2_with fail
      refine (dasked nm hn d _ _ _ H.out).mono ?_
      rintro e w1 ⟨rfl, rfl⟩
      go_wp2
      go_ret2
      exact ⟨none, rfl, Bo.nil_ _ _, Below.refl _ _⟩
    | some q =>
      obtain ⟨xs, su⟩ := q
      obtain ⟨f, born, ck, v, hm, hb1, hff, ho, hby, hsu, hlen, rfl⟩ := hf
      have hl := run_look_one (P := Tryz.prog) Tryz.underlying28 Tryz.underlying9 nm hm
      have E := Lib.hid (show readS ⟨some (xs, su), fu, false⟩ = (xs, 0) by simp [readS])
      have O := Lib.hid ho.bs
      obtain ⟨A, c, rfl, hc, -⟩ := ho.clip
      have d0 := hff.cell 0
      simp at d0
      clear hd hm hff ho hby h
      rw [E.out]
      go_enter Tryz.func21, Tryz.ntmps21
      go_wp2_with fail
      refine (dasked nm hn d _ _ _ H.out).mono ?_
      rintro e w1 ⟨rfl, rfl⟩
      go_wp2_with fail
      refine (byt_clone_any _ _ _ _ O.out (bc_one _) (by omega) (by omega)).mono ?_
      rintro e w1 ⟨v1, rfl, ho1, hb1⟩
      obtain ⟨A1, c1, rfl, hc1, hcl⟩ := Ow.clip ho1
      have CL := Lib.hid hcl
      have B1 := Lib.hid hb1
      clear ho1 hb1 hcl
      go_wp2_with fail
      refine (byt_clip A1 _ c1 _ hc1 (by omega)).mono ?_
      rintro e w2 ⟨rfl, rfl⟩
      go_wp2
      go_ret2
      exact ⟨A1, rfl, CL.out, B1.out⟩
end Go.Proofs.YtoiclicechfmgaaGreatDoor
