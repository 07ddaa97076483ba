/- A disk of any files: a doing. -/
import Derived.Test.YtoiclicechfmgaaGreatDoorMdz
namespace Go.Proofs.YtoiclicechfmgaaGreatDoor
open Go.RowKit

/-- What a doing keeps ahead of how it is done. -/
structure KeepsM (w W : World) : Prop where
  bs : ∀ v xs, Bs w v xs → Bs W v xs
  blk : ∀ g t cs, t ≠ 30 → Blk w g t cs → Blk W g t cs
  le : w.heap.size ≤ W.heap.size
theorem keepsM_of {w W : World} {d m : Nat} {x y : Value} {es : Array MapEntry} {ck : Nat} (hd : Blk w d 30 #[.map (some m), x, y]) (hx : ∀ c, x ≠ .int .u8 c) (hy : ∀ c, y ≠ .int .u8 c) (hm : w.heap[m]? = some (.map es ck)) (k : Kp w [d, m] W) : KeepsM w W := by
  refine ⟨fun v xs h => k.rd h ?_, fun g t cs ht hg => k.blk hg ?_, k.size⟩
  · rcases Bs.off hd (fun j c => by
      match j with
      | 0 => simp
      | 1 => simpa using hx c
      | 2 => simpa using hy c
      | j + 3 => simp) h with h0 | h1
    · exact .inl h0
    · rcases Bs.offmap hm h with h0 | h2
      · exact .inl h0
      · exact .inr fun j hj => by simp; exact ⟨h1 j hj, h2 j hj⟩
  · have h1 := hg.ne_ hd ht
    have h2 : g ≠ m := fun e => by subst e; unfold Blk at hg; rw [hg] at hm; cases hm
    simp [h1, h2]

theorem nodup_swap_ {A C ow ow' : List Nat} {f : Nat} (h : (A ++ (f :: ow ++ C)).Nodup) (h' : ow' = ow ∨ (ow'.Nodup ∧ ∀ k ∈ ow', k ∉ A ++ (f :: C))) : (A ++ (f :: ow' ++ C)).Nodup := by
  grind [List.nodup_append]
theorem flat_mid (pre post : List Fl) (r : Fl) : (pre ++ r :: post).flatMap Fl.bl = pre.flatMap Fl.bl ++ (r.bl ++ post.flatMap Fl.bl) := by simp
theorem fls_ends {pre post : List Fl} {r : Fl} (h : ((pre ++ r :: post).flatMap Fl.bl).Nodup) : (∀ k ∈ r.bl, k ∉ pre.flatMap Fl.bl) ∧ ∀ k ∈ r.bl, k ∉ post.flatMap Fl.bl := by
  rw [flat_mid] at h
  grind [List.nodup_append]

/-- A file turns. -/
theorem md_refile {W W' : World} {d m ck : Nat} {fu : Int} {dead : Bool} {pre post : List Fl} {r : Fl} {v' : Value} {xs' : List Int} {su' : Nat} (hfu : -1 ≤ fu ∧ fu ≤ 9223372036854775807)
    (hd : Blk W d 30 #[.map (some m), .int .i64 fu, .bool dead]) (hf : Fls W m ck (pre ++ r :: post)) (k : Kp W r.bl W') (hf' : Blk W' r.f 100 #[v', .int .i64 su', .string r.nm]) (ho' : Bo 0 W' v' xs') (hby : ∀ c ∈ xs', byt c) (hsu : su' ≤ xs'.length)
    (hlen : xs'.length ≤ 1048576) (hv : v'.ownBlock = r.v.ownBlock ∨ ∀ k, v'.ownBlock = some k → W.heap.size ≤ k) :
    MdTo W (d :: m :: (pre ++ r :: post).flatMap Fl.bl) d ⟨pre.map Fl.pf ++ (r.nm, xs', su') :: post.map Fl.pf, fu, dead⟩ W' := by
  have hr := hf.ok r (by simp)
  have hdr := hr.ne_blk hd (by decide) (by decide)
  have hmr := hr.ne_map hf.map_
  obtain ⟨hpre, hpost⟩ := fls_ends hf.blocks
  have hlt := hf.lt
  refine ⟨⟨d :: m :: (pre ++ ⟨r.nm, r.f, r.born, v', xs', su'⟩ :: post).flatMap Fl.bl, ⟨⟨m, ck, _, k.blk hd (fun h => hdr d h rfl), ⟨?_, ?_, ?_, ?_, ?_, ?_⟩, ?_, rfl⟩, hfu⟩, ?_⟩, k.mono fun i hi => ?_⟩
  · have := (k.block m (lt_of_heap hf.map_) (fun h => hmr m h rfl)).trans hf.map_
    simpa [Fl.en] using this
  · intro x hx
    rcases List.mem_append.1 hx with hx | hx
    · exact (hf.ok x (by simp [hx])).kp k fun i hi h => hpre i h (List.mem_flatMap.2 ⟨x, hx, hi⟩)
    · rcases List.mem_cons.1 hx with rfl | hx
      · exact ⟨hf', ho', hby, hsu, hlen, hr.born, hr.n1, hr.n16⟩
      · exact (hf.ok x (by simp [hx])).kp k fun i hi h => hpost i h (List.mem_flatMap.2 ⟨x, hx, hi⟩)
  · simpa using hf.names
  · simpa using hf.borns
  · have hb := hf.blocks
    rw [flat_mid] at hb ⊢
    refine nodup_swap_ (ow := r.v.ownBlock.toList) hb ?_
    rcases hv with hv | hv
    · exact .inl (by rw [hv])
    · refine .inr ⟨by cases v'.ownBlock <;> simp, fun j hj hin => ?_⟩
      have h1 := hv j (by simpa using hj)
      have h2 := hlt j (by
        rw [flat_mid]
        rcases List.mem_append.1 hin with h | h
        · exact List.mem_append_left _ h
        · rcases List.mem_cons.1 h with rfl | h
          · exact List.mem_append_right _ (List.mem_append_left _ (by simp [Fl.bl]))
          · exact List.mem_append_right _ (List.mem_append_right _ h))
      omega
  · simpa using hf.most
  · simp [Fl.pf]
  · intro j hj
    simp only [List.mem_cons] at hj ⊢
    rcases hj with h | h | h
    · exact .inl (.inl h)
    · exact .inl (.inr (.inl h))
    · rw [flat_mid] at h ⊢
      rcases List.mem_append.1 h with h | h
      · exact .inl (.inr (.inr (List.mem_append_left _ h)))
      · rcases List.mem_append.1 h with h | h
        · rcases List.mem_cons.1 h with rfl | h
          · exact .inl (.inr (.inr (List.mem_append_right _ (List.mem_append_left _ (by simp [Fl.bl])))))
          · rcases hv with hv | hv
            · rw [hv] at h
              exact .inl (.inr (.inr (List.mem_append_right _ (List.mem_append_left _ (by simp [Fl.bl, h])))))
            · exact .inr (hv j (by simpa using h))
        · exact .inl (.inr (.inr (List.mem_append_right _ (List.mem_append_right _ h))))
  · simp only [List.mem_cons]
    exact .inr (.inr (List.mem_flatMap.2 ⟨r, by simp, hi⟩))
/-- A file is laid. -/
theorem md_newfile {w : World} {d m ck : Nat} {fu : Int} {dead : Bool} {rs : List Fl} {nm : ByteArray} (hd : Blk w d 30 #[.map (some m), .int .i64 fu, .bool dead]) (hf : Fls w m ck rs) (hn : ∀ r ∈ rs, r.nm ≠ nm) (h1 : 1 ≤ nm.size) (h2 : nm.size ≤ 16) (hl : rs.length < 16) :
    Blk (setH (w.alloc (.cells #[.slice none 0 0, .int .i64 0, .string nm] 100)) m (.map (rs.map Fl.en ++ [ent nm w.heap.size ck]).toArray (ck + 1))) d 30 #[.map (some m), .int .i64 fu, .bool dead] ∧
    Fls (setH (w.alloc (.cells #[.slice none 0 0, .int .i64 0, .string nm] 100)) m (.map (rs.map Fl.en ++ [ent nm w.heap.size ck]).toArray (ck + 1))) m (ck + 1) (rs ++ ⟨nm, w.heap.size, ck, .slice none 0 0, [], 0⟩ :: []) ∧
    Kp w [d, m] (setH (w.alloc (.cells #[.slice none 0 0, .int .i64 0, .string nm] 100)) m (.map (rs.map Fl.en ++ [ent nm w.heap.size ck]).toArray (ck + 1))) := by
  have hne := ne_disk_map hd hf.map_
  have hml := lt_of_heap hf.map_
  have hW : (w.alloc (.cells #[.slice none 0 0, .int .i64 0, .string nm] 100)).heap[m]? = some (.map (rs.map Fl.en).toArray ck) := (heap_alloc_old _ _ hml).trans hf.map_
  have kW : Kp (w.alloc (.cells #[.slice none 0 0, .int .i64 0, .string nm] 100)) [m] (setH (w.alloc (.cells #[.slice none 0 0, .int .i64 0, .string nm] 100)) m (.map (rs.map Fl.en ++ [ent nm w.heap.size ck]).toArray (ck + 1))) := (Kp.refl _ _).setH (.inl (by simp)) _
  have hset := MapKept.heap_set (o' := Obj.map (rs.map Fl.en ++ [ent nm w.heap.size ck]).toArray (ck + 1)) hW
  have kA : Kp w [m] (setH (w.alloc (.cells #[.slice none 0 0, .int .i64 0, .string nm] 100)) m (.map (rs.map Fl.en ++ [ent nm w.heap.size ck]).toArray (ck + 1))) := ((Kp.refl w [m]).alloc _).setH (.inl (by simp)) _
  refine ⟨kA.blk hd (by simpa using hne), ⟨?_, ?_, ?_, ?_, ?_, by simp; omega⟩, kA.mono (by simp)⟩
  · have := hset.1
    simpa [Fl.en, setH] using this
  · intro r hr
    rcases List.mem_append.1 hr with hr | hr
    · have ho := hf.ok r hr
      have ho' : FlOk w (ck + 1) r := ⟨ho.blk, ho.own, ho.by_, ho.su, ho.len, Nat.lt_succ_of_lt ho.born, ho.n1, ho.n16⟩
      exact ho'.kp kA fun i hi => by simpa using ho.ne_map hf.map_ i hi
    · obtain rfl : r = ⟨nm, w.heap.size, ck, .slice none 0 0, [], 0⟩ := by simpa using hr
      exact ⟨kW.blk (Blk.new _ _ _) (by simp; omega), .inl ⟨rfl, rfl, rfl⟩, by simp, by simp, by simp, Nat.lt_succ_self _, h1, h2⟩
  · rw [List.map_append, List.nodup_append]
    refine ⟨hf.names, by simp, fun a ha b hb => ?_⟩
    obtain ⟨r, hr, rfl⟩ := List.mem_map.1 ha
    simp at hb
    subst hb
    exact hn r hr
  · rw [List.map_append, List.nodup_append]
    refine ⟨hf.borns, by simp, fun a ha b hb => ?_⟩
    obtain ⟨r, hr, rfl⟩ := List.mem_map.1 ha
    simp at hb
    subst hb
    exact Nat.ne_of_lt (hf.ok r hr).born
  · rw [List.flatMap_append, List.nodup_append]
    refine ⟨hf.blocks, by simp [Fl.bl, Value.ownBlock], fun a ha b hb => ?_⟩
    have := hf.lt a ha
    simp [Fl.bl, Value.ownBlock] at hb
    omega
/-- A file is dropped. -/
theorem md_drop {W : World} {d m ck : Nat} {fu : Int} {dead : Bool} {pre post : List Fl} {r : Fl} (hfu : -1 ≤ fu ∧ fu ≤ 9223372036854775807) (hd : Blk W d 30 #[.map (some m), .int .i64 fu, .bool dead]) (hf : Fls W m ck (pre ++ r :: post)) :
    MdTo W (d :: m :: (pre ++ r :: post).flatMap Fl.bl) d ⟨pre.map Fl.pf ++ post.map Fl.pf, fu, dead⟩ (setH W m (.map (pre.map Fl.en ++ post.map Fl.en).toArray ck)) := by
  have k : Kp W [m] (setH W m (.map (pre.map Fl.en ++ post.map Fl.en).toArray ck)) := (Kp.refl _ _).setH (.inl (by simp)) _
  have hset := MapKept.heap_set (o' := Obj.map (pre.map Fl.en ++ post.map Fl.en).toArray ck) hf.map_
  have hsub : (pre ++ post).Sublist (pre ++ r :: post) := List.Sublist.append (List.Sublist.refl _) (List.sublist_cons_self _ _)
  have hfl : ((pre ++ post).flatMap Fl.bl).Sublist ((pre ++ r :: post).flatMap Fl.bl) := by
    rw [flat_mid, List.flatMap_append]
    exact List.Sublist.append (List.Sublist.refl _) (List.sublist_append_right _ _)
  refine ⟨⟨d :: m :: (pre ++ post).flatMap Fl.bl, ⟨⟨m, ck, pre ++ post, k.blk hd (by simpa using ne_disk_map hd hf.map_), ⟨?_, fun x hx => ?_, hf.names.sublist (hsub.map _), hf.borns.sublist (hsub.map _), hf.blocks.sublist hfl, ?_⟩, by simp, rfl⟩, hfu⟩, fun i hi => ?_⟩, k.mono (by simp)⟩
  · have := hset.1
    simpa [setH] using this
  · have ho := hf.ok x (hsub.subset hx)
    exact ho.kp k fun i hi => by simpa using ho.ne_map hf.map_ i hi
  · exact Nat.le_trans hsub.length_le hf.most
  · refine .inl ?_
    simp only [List.mem_cons] at hi ⊢
    rcases hi with h | h | h
    · exact .inl h
    · exact .inr (.inl h)
    · exact .inr (.inr (hfl.subset h))

/-- What how it is done owes. -/
def HowM (g : FuncId) (cap : Array Value) (w : World) (d : Nat) (nm : ByteArray) (q : List Int × Nat) (eff : List Int × Nat → Option (List Int × Nat)) : Prop :=
  ∀ (W : World) (m ck : Nat) (pre post : List Fl) (r : Fl) (fu : Int) (dead : Bool), r.nm = nm → (r.xs, r.su) = q → -1 ≤ fu ∧ fu ≤ 9223372036854775807 → Blk W d 30 #[.map (some m), .int .i64 fu, .bool dead] → Fls W m ck (pre ++ r :: post) → (∀ x ∈ pre, x.nm ≠ nm) → KeepsM w W →
    Calls Tryz.prog g (#[.pointer (some ⟨r.f, 0, none⟩)] ++ cap) W fun e w' => e = .returned (.tuple #[]) ∧ MdTo W (d :: m :: (pre ++ r :: post).flatMap Fl.bl) d ⟨pre.map Fl.pf ++ ((eff q).toList.map fun y => (nm, y)) ++ post.map Fl.pf, fu, dead⟩ w'
/-- The files, one of them put anew, or dropped. -/
def putM : List (ByteArray × List Int × Nat) → ByteArray → Option (List Int × Nat) → List (ByteArray × List Int × Nat)
  | [], nm, o => o.toList.map fun y => (nm, y)
  | x :: fs, nm, o => if x.1 = nm then (o.toList.map fun y => (nm, y)) ++ fs else x :: putM fs nm o
theorem putM_new : ∀ {fs : List (ByteArray × List Int × Nat)} {nm : ByteArray} (o : Option (List Int × Nat)), (∀ x ∈ fs, x.1 ≠ nm) → putM fs nm o = fs ++ o.toList.map fun y => (nm, y)
  | [], _, _, _ => rfl
  | x :: fs, nm, o, h => by
    unfold putM
    rw [if_neg (h x (by simp)), putM_new o fun y hy => h y (by simp [hy])]
    rfl
theorem putM_at : ∀ {pre : List (ByteArray × List Int × Nat)} {post : List (ByteArray × List Int × Nat)} {nm : ByteArray} (y : List Int × Nat) (o : Option (List Int × Nat)), (∀ x ∈ pre, x.1 ≠ nm) → putM (pre ++ (nm, y) :: post) nm o = pre ++ (o.toList.map fun y => (nm, y)) ++ post
  | [], post, nm, y, o, _ => by simp [putM]
  | x :: pre, post, nm, y, o, h => by
    rw [List.cons_append, putM, if_neg (h x (by simp)), putM_at y o fun z hz => h z (by simp [hz])]
    simp
def doesM (s : Mst) (nm : ByteArray) (size : Int) (made : Bool) (eff : List Int × Nat → Option (List Int × Nat)) : Mst × Int :=
  if ¬ askM s nm = 0 then (s, askM s nm) else if getM s.fs nm = none ∧ made = false then (s, 7) else if 1048576 < size ∨ (getM s.fs nm = none ∧ 16 ≤ s.fs.length) then (s, 3) else
  if s.fuse = 0 then ({ s with dead := true }, 17) else ({ (burnM s).1 with fs := putM s.fs nm (eff ((getM s.fs nm).getD ([], 0))) }, 0)
theorem askM_ok {s : Mst} {nm : ByteArray} (h : askM s nm = 0) : s.dead = false ∧ 1 ≤ nm.size ∧ nm.size ≤ 16 := by
  unfold askM at h
  split at h
  · cases h
  · rename_i hd
    split at h
    · cases h
    · rename_i hn
      exact ⟨by simpa using hd, by omega, by omega⟩
theorem pf_len (rs : List Fl) : (rs.map Fl.pf).length = rs.length := by simp

set_option maxHeartbeats 2000000 in
set_option maxRecDepth 100000 in
theorem mdoes (nm : ByteArray) (d : Nat) (s : Mst) (F : List Nat) (w : World) (h : Md w d s F) (size : Int) (made : Bool) (g : FuncId) (cap : Array Value) (eff : List Int × Nat → Option (List Int × Nat))
    (hhow : ¬ 1048576 < size → HowM g cap w d nm ((getM s.fs nm).getD ([], 0)) eff) (eg : ∀ args W, (callFunc g args).run Tryz.prog W = .ok (.enter g args) W) :
    Calls Tryz.prog 42 #[.pointer (some ⟨d, 0, none⟩), .string nm, .int .i64 size, .bool made, .func (.func g) #[] cap] w fun e w' => e = .returned (.int .i64 (doesM s nm size made eff).2) ∧ MdTo w F d (doesM s nm size made eff).1 w' := by
  have H := Lib.hid h
  have HH := Lib.hid hhow
  have AK := Lib.hid (masked nm d s F w h)
  have BU := Lib.hid (mburns d s F w h)
  obtain ⟨m, ck, rs, hd, hf, hs, hF⟩ := h.ex
  have hfu := h.fuse
  by_cases hask : ¬ askM s nm = 0
  · have E := Lib.hid (show doesM s nm size made eff = (s, askM s nm) from by unfold doesM; rw [if_pos hask])
    rw [E.out]
    obtain ⟨a, ha⟩ : ∃ a, a = askM s nm := ⟨_, rfl⟩
    rw [← ha] at AK hask ⊢
    have hne : (a != 0) = true := by simpa using hask
    clear h hhow hd hf hs hF hfu ha E hask
    go_enter Tryz.func42, Tryz.ntmps42
    go_wp2_with fail
    refine AK.out.mono ?_
    rintro e w1 ⟨rfl, rfl⟩
    go_wp2
    go_ret
    exact ⟨rfl, H.out.to⟩
  have hask0 : askM s nm = 0 := by simpa using hask
  rw [hask0] at AK
  obtain ⟨hdead, hn1, hn16⟩ := askM_ok hask0
  have c0 := hd.cell 0
  simp at c0
  have HD := Lib.hid hd
  have HF := Lib.hid hf
  have HS := Lib.hid hs
  have HFF := Lib.hid hF
  have NM := Lib.hid (And.intro hn1 hn16)
  have FU := Lib.hid hfu
  rcases hf.find nm with hn | ⟨pre, r, post, hrs, hrn, hn, -⟩
  · have GN : getM s.fs nm = none := by rw [hs]; exact getM_none hn
    have hl := run_mlook_none (P := Tryz.prog) Tryz.underlying28 Tryz.underlying9 hf.map_ nm (keys_ne hn) (.pointer none) (by kernel_rfl)
    have hle : (Builtin.len_ #[28] 3 #[.map (some m)]).run Tryz.prog w = .ok (.int .i64 (rs.length : Nat)) w := by
      have := run_len_ (P := Tryz.prog) (ty := 3) Tryz.underlying28 hf.map_
      simpa [goInt] using this
    have HN := Lib.hid hn
    rw [GN] at HH
    simp only [Option.getD_none] at HH
    cases made with
    | false =>
      have E := Lib.hid (show doesM s nm size false eff = (s, 7) from by unfold doesM; rw [if_neg hask, if_pos ⟨GN, rfl⟩])
      rw [E.out]
      clear h hhow hd hf hs hF hfu hask hask0 hdead hn1 hn16 hn GN E
      go_enter Tryz.func42, Tryz.ntmps42
      go_wp2_with fail
      refine AK.out.mono ?_
      rintro e w1 ⟨rfl, rfl⟩
      go_wp2
      go_ret
      exact ⟨rfl, H.out.to⟩
    | true =>
      have hlen : s.fs.length = rs.length := by rw [hs]; simp
      by_cases hsz : 1048576 < size
      · have E := Lib.hid (show doesM s nm size true eff = (s, 3) from by unfold doesM; rw [if_neg hask, if_neg (by simp), if_pos (.inl hsz)])
        rw [E.out]
        clear h hhow hd hf hs hF hfu hask hask0 hdead hn1 hn16 hn GN E
        go_enter Tryz.func42, Tryz.ntmps42
        go_wp2_with fail
        refine AK.out.mono ?_
        rintro e w1 ⟨rfl, rfl⟩
        go_wp2
        go_ret
        exact ⟨rfl, H.out.to⟩
      · by_cases h16 : 16 ≤ rs.length
        · have E := Lib.hid (show doesM s nm size true eff = (s, 3) from by unfold doesM; rw [if_neg hask, if_neg (by simp), if_pos (.inr ⟨GN, by omega⟩)])
          rw [E.out]
          have h16' : (16 : Int) ≤ (rs.length : Int) := by omega
          clear h hhow hd hf hs hF hfu hask hask0 hdead hn1 hn16 hn GN E
          go_enter Tryz.func42, Tryz.ntmps42
          go_wp2_with fail
          refine AK.out.mono ?_
          rintro e w1 ⟨rfl, rfl⟩
          go_wp2
          go_ret
          exact ⟨rfl, H.out.to⟩
        · have h16' : ¬ (16 : Int) ≤ (rs.length : Int) := by omega
          by_cases h0 : s.fuse = 0
          · have E := Lib.hid (show doesM s nm size true eff = ({ s with dead := true }, 17) from by unfold doesM; rw [if_neg hask, if_neg (by simp), if_neg (by rintro (h | ⟨_, h⟩); exact hsz h; omega), if_pos h0])
            have B : burnM s = ({ s with dead := true }, 17) := by unfold burnM; rw [if_pos h0]
            rw [E.out]
            rw [B] at BU
            clear h hhow hd hf hs hF hfu hask hask0 hdead hn1 hn16 hn GN E B h0
            go_enter Tryz.func42, Tryz.ntmps42
            go_wp2_with fail
            refine AK.out.mono ?_
            rintro e w1 ⟨rfl, rfl⟩
            go_wp2_with fail
            refine BU.out.mono ?_
            rintro e w1 ⟨rfl, hD1, hk1⟩
            have D1 := Lib.hid hD1
            have K1 := Lib.hid hk1
            clear hD1 hk1
            go_wp2
            go_ret
            exact ⟨rfl, ⟨_, D1.out, fun _ hk => .inl hk⟩, K1.out.mono (by rw [HFF.out]; simp)⟩
          · obtain ⟨fu', hfu'⟩ : ∃ fu', burnM s = (⟨s.fs, fu', false⟩, 0) := by
              unfold burnM
              rw [if_neg h0, ← hdead]
              split <;> exact ⟨_, rfl⟩
            have E := Lib.hid (show doesM s nm size true eff = (⟨s.fs ++ (eff ([], 0)).toList.map fun y => (nm, y), fu', false⟩, 0) from by
              unfold doesM
              rw [if_neg hask, if_neg (by simp), if_neg (by rintro (h | ⟨_, h⟩); exact hsz h; omega), if_neg h0, hfu', GN, putM_new _ (fun x hx => by
                rw [hs] at hx
                obtain ⟨r, hr, rfl⟩ := List.mem_map.1 hx
                exact hn r hr)]
              rfl)
            rw [E.out]
            rw [hfu'] at BU
            have R16 := Lib.hid h16
            clear h hhow hd hf hs hF hfu hask hask0 hdead hn1 hn16 hn GN E h0 hfu' hlen h16
            go_enter Tryz.func42, Tryz.ntmps42
            go_wp2_with fail
            refine AK.out.mono ?_
            rintro e w1 ⟨rfl, rfl⟩
            go_wp2_with fail
            refine BU.out.mono ?_
            rintro e w1 ⟨rfl, hD1, hk1⟩
            have hf1 := HF.out.kp hk1 (by simpa using (ne_disk_map HD.out HF.out.map_).symm) (fun i hi => by simpa using HF.out.ne_blk HD.out (by decide) (by decide) i hi)
            obtain ⟨⟨m1, ck1, rs1, hd1, hf1', hs1, hF1⟩, hfu1⟩ := hD1
            have hm1 : m1 = m := by
              have h1 := hF1.symm.trans HFF.out
              injection h1 with _ h1
              injection h1 with h1 _
            subst hm1
            simp only at hd1 hfu1
            obtain ⟨hd2, hf2, hk2⟩ := md_newfile hd1 hf1 HN.out NM.out.1 NM.out.2 (by have := R16.out; omega)
            have hpu := run_mput (P := Tryz.prog) Tryz.underlying28 Tryz.underlying9 ((heap_alloc_old w1 (.cells #[.slice none 0 0, .int .i64 0, .string nm] 100) (lt_of_heap hf1.map_)).trans hf1.map_) nm (keys_ne HN.out) w1.heap.size
            have d0 := hd1.cell 0
            simp at d0
            have hdl := hd1.lt
            have hne : ¬ d = w1.heap.size := by omega
            have K1 := Lib.hid hk1
            have K2 := Lib.hid (show Kp w [d, m1] _ from (hk1.mono (by simp)).trans hk2 fun _ hi => .inl hi)
            have D2 := Lib.hid hd2
            have F2 := Lib.hid hf2
            have U1 := Lib.hid hfu1
            have Z1 := Lib.hid hk1.size
            clear hk1 hf1 hd1 hf1' hs1 hF1 hd2 hf2 hk2 hfu1
            go_wp2_with fail
            refine (HH.out hsz _ m1 (ck + 1) rs [] ⟨nm, w1.heap.size, ck, .slice none 0 0, [], 0⟩ fu' false rfl rfl U1.out D2.out F2.out HN.out (keepsM_of HD.out (by simp) (by simp) HF.out.map_ K2.out)).mono ?_
            rintro e w2 ⟨rfl, hT⟩
            have T := Lib.hid hT
            clear hT
            go_wp2
            go_ret
            refine ⟨rfl, ?_⟩
            have t := MdTo.trans (F := F) (K2.out.mono (by rw [HFF.out]; simp)) (by
              intro i hi
              rw [HFF.out]
              simp [Fl.bl, Value.ownBlock] at hi ⊢
              have := Z1.out
              rcases hi with h | h | h | h
              · simp [h]
              · simp [h]
              · exact .inl (.inr (.inr h))
              · right; omega) T.out
            simpa [HS.out] using t
  · subst hrs hrn
    have GN : getM s.fs r.nm = some (r.xs, r.su) := by rw [hs]; exact getM_at hn
    have hmm := hf.map_
    rw [List.map_append, List.map_cons] at hmm
    have hl := run_mlook_at (P := Tryz.prog) Tryz.underlying28 Tryz.underlying9 r.nm (f := r.f) (born := r.born) hmm (keys_ne hn)
    have HN := Lib.hid hn
    rw [GN] at HH
    simp only [Option.getD_some] at HH
    have PM := Lib.hid (show putM s.fs r.nm (eff (r.xs, r.su)) = pre.map Fl.pf ++ ((eff (r.xs, r.su)).toList.map fun y => (r.nm, y)) ++ post.map Fl.pf from by
      rw [hs, List.map_append, List.map_cons]
      exact putM_at _ _ fun x hx => by
        obtain ⟨r', hr', rfl⟩ := List.mem_map.1 hx
        exact hn r' hr')
    by_cases hsz : 1048576 < size
    · have E := Lib.hid (show doesM s r.nm size made eff = (s, 3) from by unfold doesM; rw [if_neg hask, if_neg (by rw [GN]; simp), if_pos (.inl hsz)])
      rw [E.out]
      clear h hhow hd hf hs hF hfu hask hask0 hdead hn1 hn16 hn GN E hmm
      go_enter Tryz.func42, Tryz.ntmps42
      go_wp2_with fail
      refine AK.out.mono ?_
      rintro e w1 ⟨rfl, rfl⟩
      go_wp2
      go_ret
      exact ⟨rfl, H.out.to⟩
    · by_cases h0 : s.fuse = 0
      · have E := Lib.hid (show doesM s r.nm size made eff = ({ s with dead := true }, 17) from by unfold doesM; rw [if_neg hask, if_neg (by rw [GN]; simp), if_neg (by rw [GN]; simp; omega), if_pos h0])
        have B : burnM s = ({ s with dead := true }, 17) := by unfold burnM; rw [if_pos h0]
        rw [E.out]
        rw [B] at BU
        clear h hhow hd hf hs hF hfu hask hask0 hdead hn1 hn16 hn GN E B h0 hmm
        go_enter Tryz.func42, Tryz.ntmps42
        go_wp2_with fail
        refine AK.out.mono ?_
        rintro e w1 ⟨rfl, rfl⟩
        go_wp2_with fail
        refine BU.out.mono ?_
        rintro e w1 ⟨rfl, hD1, hk1⟩
        have D1 := Lib.hid hD1
        have K1 := Lib.hid hk1
        clear hD1 hk1
        go_wp2
        go_ret
        exact ⟨rfl, ⟨_, D1.out, fun _ hk => .inl hk⟩, K1.out.mono (by rw [HFF.out]; simp)⟩
      · obtain ⟨fu', hfu'⟩ : ∃ fu', burnM s = (⟨s.fs, fu', false⟩, 0) := by
          unfold burnM
          rw [if_neg h0, ← hdead]
          split <;> exact ⟨_, rfl⟩
        have E := Lib.hid (show doesM s r.nm size made eff = (⟨pre.map Fl.pf ++ ((eff (r.xs, r.su)).toList.map fun y => (r.nm, y)) ++ post.map Fl.pf, fu', false⟩, 0) from by
          unfold doesM
          rw [if_neg hask, if_neg (by rw [GN]; simp), if_neg (by rw [GN]; simp; omega), if_neg h0, hfu', GN]
          simp only [Option.getD_some]
          rw [PM.out])
        rw [E.out]
        rw [hfu'] at BU
        clear h hhow hd hf hs hF hfu hask hask0 hdead hn1 hn16 hn GN E h0 hfu' hmm
        go_enter Tryz.func42, Tryz.ntmps42
        go_wp2_with fail
        refine AK.out.mono ?_
        rintro e w1 ⟨rfl, rfl⟩
        go_wp2_with fail
        refine BU.out.mono ?_
        rintro e w1 ⟨rfl, hD1, hk1⟩
        have hf1 := HF.out.kp hk1 (by simpa using (ne_disk_map HD.out HF.out.map_).symm) (fun i hi => by simpa using HF.out.ne_blk HD.out (by decide) (by decide) i hi)
        obtain ⟨⟨m1, ck1, rs1, hd1, hf1', hs1, hF1⟩, hfu1⟩ := hD1
        have hm1 : m1 = m := by
          have h1 := hF1.symm.trans HFF.out
          injection h1 with _ h1
          injection h1 with h1 _
        subst hm1
        simp only at hd1 hfu1
        have K1 := Lib.hid hk1
        have D1 := Lib.hid hd1
        have F1 := Lib.hid hf1
        have U1 := Lib.hid hfu1
        have hl1 := run_mlook_at (P := Tryz.prog) Tryz.underlying28 Tryz.underlying9 r.nm (f := r.f) (born := r.born) (by have := hf1.map_; rw [List.map_append, List.map_cons] at this; exact this) (keys_ne HN.out)
        have d0 := hd1.cell 0
        simp at d0
        clear hk1 hf1 hd1 hf1' hs1 hF1 hfu1
        go_wp2_with fail
        refine (HH.out hsz _ m1 ck pre post r fu' false rfl rfl U1.out D1.out F1.out HN.out (keepsM_of HD.out (by simp) (by simp) HF.out.map_ (K1.out.mono (by simp)))).mono ?_
        rintro e w2 ⟨rfl, hT⟩
        have T := Lib.hid hT
        clear hT
        go_wp2
        go_ret
        exact ⟨rfl, MdTo.trans (F := F) (K1.out.mono (by rw [HFF.out]; simp)) (fun i hi => .inl (by rw [HFF.out]; exact hi)) T.out⟩
end Go.Proofs.YtoiclicechfmgaaGreatDoor
