/- A disk of any files: Add, Sure, Put, Drop, Read. -/
import Derived.Test.YtoiclicechfmgaaGreatDoorMdc
import Derived.Test.YtoiclicechfmgaaGreatDoorCloB
import Derived.Deep.RegionLaw
import Derived.Shelf.Abstract
namespace Go.Proofs.YtoiclicechfmgaaGreatDoor
open Go.RowKit

theorem kp_grown_ {a b : World} {r : Option Nat} (h : a.grownBy b r) : Kp a r.toList b := ⟨h.os, h.tape, h.output, h.size, fun i hi hn => h.block i hi (fun e => hn (by rw [← e]; simp))⟩

set_option maxHeartbeats 1000000 in
theorem howm_add (w : World) (d : Nat) (nm : ByteArray) (q : List Int × Nat) (a : Nat) (bv : Value) (bs : List Int) (ha : Blk w a 22 #[bv]) (hbs : Bs w bv bs) (hby : ∀ c ∈ bs, byt c) (hl : q.1.length + bs.length ≤ 1048576) :
    HowM 47 #[.pointer (some ⟨a, 0, none⟩)] w d nm q (fun q => some (q.1 ++ bs, q.2)) := by
  intro W m ck pre post r fu dead hrn hq hfu hd hf hn hK
  have ho := hf.ok r (by simp)
  have ha' := hK.blk _ _ _ (by decide) ha
  have hbs' := hK.bs _ _ hbs
  have hX := fun W' v' (k : Kp W r.bl W') hf' ho' hl1 hv => md_refile (W' := W') (v' := v') (xs' := r.xs ++ bs) (su' := r.su) hfu hd hf k hf' ho' (fun c hc => (List.mem_append.1 hc).elim (ho.by_ c) (hby c)) (by have := ho.su; simp; omega) hl1 hv
  obtain ⟨rn, rf, rb, rv, rx, rs⟩ := r
  subst hrn hq
  simp only at ho hX hl ⊢
  have hff := ho.blk
  simp only at hff
  have c0 := hff.cell 0
  have cb := ha'.cell 0
  have fz := hff.free
  simp at c0 cb
  have X := Lib.hid hX
  have HF := Lib.hid (show Blk W.drew rf 100 #[rv, .int .i64 rs, .string rn] from hff)
  have HB := Lib.hid (show Bf 0 W W.drew rv rx from ⟨ho.own, ⟨rfl, rfl, rfl, Nat.le_refl _, fun _ _ => rfl⟩, Nat.zero_le _⟩)
  have HY := Lib.hid (show Bs W.drew bv bs from hbs')
  have hNo := Lib.hid (Ow.notat ho.own hff (by decide))
  have hl' : rx.length + bs.length ≤ 140737488355328 := by omega
  have LL := Lib.hid hl
  have ho' := ho.own
  obtain ⟨A, c, hv, hc, -⟩ := ho'.clip
  obtain ⟨A2, c2, hv2, -⟩ := id hbs'
  simp only at hv
  clear hd hf hff ho ho' hby hK hbs hbs' ha ha' hl hX
  show Calls _ _ #[.pointer (some ⟨rf, 0, none⟩), .pointer (some ⟨a, 0, none⟩)] _ _
  subst hv hv2
  go_enter Tryz.func47, Tryz.ntmps47
  go_wp2
  go_region_law (refine step_bf_bytes rfl (.tmp 8) (.tmp 9) 22 rfl Tryz.underlying22 rfl HB.out HY.out rfl hl' ?_; intro v2 w2 hB2 hK2; obtain ⟨A3, m3, k3, rfl⟩ := hB2.own.sl; have hk2 := Blk.grown HF.out hK2.1 (fun e => hNo.out e.symm); have f1 := hk2.free; have c1 := hk2.cell 0; have HK2 := Lib.hid hk2; have HG2 := Lib.hid hK2; have HB2 := Lib.hid hB2; clear hk2 hB2 hK2; simp at c1)
  all_goals
    go_wp2
    refine bodyPost_end (results_none rfl _ _ _) rfl ⟨rfl, ?_⟩
    have k0 : Kp W.drew (Value.slice A rx.length c).ownBlock.toList w2 := kp_grown_ HG2.out.1
    have k1 : Kp W (rf :: (Value.slice A rx.length c).ownBlock.toList) w2 := ⟨k0.os, k0.tape, k0.output, k0.size, fun i hi hn => k0.block i hi (fun h => hn (List.mem_cons_of_mem _ h))⟩
    have := X.out _ _ (k1.setCell (p := ⟨rf, 0, none⟩) (.inl (by simp)) (.slice A3 m3 k3)) (by have := HK2.out.set_ 0 (.slice A3 m3 k3); simpa using this) (Ow.aside HB2.out.own HK2.out (by decide) _ _) (by have := LL.out; simp; omega) HG2.out.2
    simpa using this

set_option maxHeartbeats 1000000 in
theorem howm_put (w : World) (d : Nat) (nm : ByteArray) (q : List Int × Nat) (a : Nat) (bv : Value) (bs : List Int) (ha : Blk w a 22 #[bv]) (hbs : Bs w bv bs) (hby : ∀ c ∈ bs, byt c) (hl : bs.length ≤ 1048576) :
    HowM 43 #[.pointer (some ⟨a, 0, none⟩)] w d nm q (fun _ => some (bs, bs.length)) := by
  intro W m ck pre post r fu dead hrn hq hfu hd hf hn hK
  have ho := hf.ok r (by simp)
  have ha' := hK.blk _ _ _ (by decide) ha
  have hbs' := hK.bs _ _ hbs
  have hX := fun W' v' (k : Kp W r.bl W') hf' ho' hv => md_refile (W' := W') (v' := v') (xs' := bs) (su' := bs.length) hfu hd hf k hf' ho' hby (Nat.le_refl _) hl hv
  obtain ⟨rn, rf, rb, rv, rx, rs⟩ := r
  subst hrn hq
  simp only at ho hX ⊢
  have hff := ho.blk
  simp only at hff
  have X := Lib.hid hX
  have HF := Lib.hid (show Blk W.drew rf 100 #[rv, .int .i64 rs, .string rn] from hff)
  have HY := Lib.hid (show Bs W.drew bv bs from hbs')
  have HA := Lib.hid (show Blk W.drew a 22 #[bv] from ha')
  have SS : ∀ X, Below W.drew.heap.size W.drew X → X.cell? ⟨a, 0, none⟩ = some bv ∧ X.cell? ⟨rf, 0, none⟩ = some rv ∧ X.cell? ⟨rf, 1, none⟩ = some (.int .i64 rs) ∧ X.frozen? ⟨rf, 0, none⟩ = false ∧ X.frozen? ⟨rf, 1, none⟩ = false := fun X hb => by
    have h1 := HA.out.below hb HA.out.lt
    have h2 := HF.out.below hb HF.out.lt
    exact ⟨(h1.cell 0).trans (by simp), (h2.cell 0).trans (by simp), (h2.cell 1).trans (by simp), h2.free 0, h2.free 1⟩
  have S0 := Lib.hid (SS _ (Below.refl _ _))
  have S1 := Lib.hid SS
  clear SS
  obtain ⟨A2, c2, hv2, -⟩ := id hbs'
  clear hd hf hff ho hby hK hbs hbs' ha ha' hX
  show Calls _ _ #[.pointer (some ⟨rf, 0, none⟩), .pointer (some ⟨a, 0, none⟩)] _ _
  subst hv2
  obtain ⟨ca, cf0, cf1, zf0, zf1⟩ := S0.out
  go_enter Tryz.func43, Tryz.ntmps43
  go_wp2
  go_region_law (first
     | (go_simp; go_at_call 44; refine (byt_clone_any _ _ _ _ HY.out (bc_one _) (by omega) (by omega)).mono ?_; rintro e w1 ⟨v1, rfl, ho1, hb1⟩; obtain ⟨A1, c1, rfl, -⟩ := id (Ow.clip ho1); obtain ⟨ca', cf0', cf1', zf0', zf1'⟩ := S1.out _ hb1; have O1 := Lib.hid ho1; have B1 := Lib.hid hb1; clear ho1 hb1))
  all_goals
    go_wp2
    refine bodyPost_end (results_none rfl _ _ _) rfl ⟨rfl, ?_⟩
    have k1 : Kp W (rf :: rv.ownBlock.toList) w1 := (Kp.of_below (show Below W.heap.size W w1 from ⟨B1.out.os, B1.out.tape, B1.out.output, B1.out.size, B1.out.block⟩) _)
    have hk1 := HF.out.below B1.out HF.out.lt
    have hk2 := hk1.set_ 0 (.slice A1 bs.length c1)
    have := X.out _ _ ((k1.setCell (p := ⟨rf, 0, none⟩) (.inl (by simp)) (.slice A1 bs.length c1)).setCell (p := ⟨rf, 1, none⟩) (.inl (by simp)) (.int .i64 bs.length)) (by have := hk2.set_ 1 (.int .i64 bs.length); simpa using this) (((Ow.aside O1.out hk1 (by decide) _ _).aside hk2 (by decide) _ _).le (Nat.zero_le _)) (.inr fun k hk => Ow.blk_lt O1.out k hk)
    simpa using this

theorem step_mdel {P : Program} {ops : Array Oper} {o : Oper} {a : Act} {w : World} {K : Act → World → Prop} {Q : Exit → Act → World → Prop} {E : Prop} (hgd : o.guard = none) (x y : Operand) (t k' : TypeId)
    (ho : o.op = .call { callee := .builtin .delete, args := #[x, y], argTypes := #[t, k'] }) {k e : TypeId} (ht : P.underlying t = some (.map k e)) (hk : P.underlying k = some .string)
    {m ck f born : Nat} {s : ByteArray} {pre post : List MapEntry} (hx : a.eval x = .map (some m)) (hy : a.eval y = .string s) (hb : w.heap[m]? = some (.map (pre ++ ent s f born :: post).toArray ck)) (hs : ∀ x ∈ pre, ∃ q, x.key = .string q ∧ q ≠ s)
    (h : K (a.put o.dst (.tuple #[])) (setH w m (.map (pre ++ post).toArray ck))) : if Region.wanted o (yielded ops a.tmps) = true then Oper.wp P o a w K Q else E := by
  have hw : Region.wanted o (yielded ops a.tmps) = true := by simp [Region.wanted, hgd]
  rw [if_pos hw]
  have hr := run_mdel (P := P) (w := w) (k' := k') (ty := o.type) ht hk s hb hs
  unfold Oper.wp
  simp [execOp, ho, resolve, invoke, builtin, hx, hy, hr, Result.andThen]
  exact h

set_option maxHeartbeats 1000000 in
theorem howm_drop (w : World) (d : Nat) (nm : ByteArray) (q : List Int × Nat) (a : Nat) (ha : Blk w a 31 #[.pointer (some ⟨d, 0, none⟩)]) :
    HowM 69 #[.pointer (some ⟨a, 0, none⟩)] w d nm q (fun _ => none) := by
  intro W m ck pre post r fu dead hrn hq hfu hd hf hn hK
  have ho := hf.ok r (by simp)
  have ha' := hK.blk _ _ _ (by decide) ha
  have hmm := hf.map_
  rw [List.map_append, List.map_cons] at hmm
  have hX := md_drop (W := W.drew) hfu hd (hf.kp (Kp.of_below (Below.refl _ _).drew []) (by simp) (by simp))
  obtain ⟨rn, rf, rb, rv, rx, rs⟩ := r
  subst hrn hq
  simp only at ho ⊢
  have c0 := hd.cell 0
  have c2 := ho.blk.cell 2
  have ca := ha'.cell 0
  simp at c0 c2 ca
  have HM := Lib.hid (show W.drew.heap[m]? = some (.map (pre.map Fl.en ++ ent rn rf rb :: post.map Fl.en).toArray ck) from hmm)
  have KN := Lib.hid (keys_ne hn)
  have X := Lib.hid (MdTo.trans (Kp.of_below (Below.refl _ W).drew (d :: m :: (pre ++ ⟨rn, rf, rb, rv, rx, rs⟩ :: post).flatMap Fl.bl)) (fun _ hk => .inl hk) hX)
  clear hd hf ho hK ha ha' hmm hX hn
  show Calls _ _ #[.pointer (some ⟨rf, 0, none⟩), .pointer (some ⟨a, 0, none⟩)] _ _
  go_enter Tryz.func69, Tryz.ntmps69
  go_wp2
  go_region_law (refine step_mdel rfl (.tmp 6) (.tmp 10) 28 9 rfl Tryz.underlying28 Tryz.underlying9 rfl rfl HM.out KN.out ?_)
  all_goals
    go_wp2
    refine bodyPost_end (results_none rfl _ _ _) rfl ⟨rfl, ?_⟩
    simpa using X.out

theorem Md.size_le {nm : ByteArray} {d : Nat} {s : Mst} {F : List Nat} {w : World} (h : Md w d s F) : sizeM s nm ≤ 1048576 := by
  obtain ⟨m, ck, rs, hd, hf, hs, rfl⟩ := h.ex
  rcases hf.find nm with hn | ⟨pre, r, post, rfl, rfl, hn, -⟩
  · unfold sizeM; rw [hs, getM_none hn]; simp
  · unfold sizeM; rw [hs, getM_at hn]; simpa using (hf.ok r (by simp)).len
theorem sizeM_get (s : Mst) (nm : ByteArray) : ((getM s.fs nm).getD ([], 0)).1.length = sizeM s nm := by
  unfold sizeM
  cases getM s.fs nm <;> rfl

set_option maxHeartbeats 1000000 in
theorem madd (nm : ByteArray) (d : Nat) (s : Mst) (F : List Nat) (bv : Value) (bs : List Int) (hby : ∀ c ∈ bs, byt c) (hlb : bs.length ≤ 4611686018427387904) (w : World) (h : Md w d s F) (hbs : Bs w bv bs) :
    Calls Tryz.prog 14 #[.pointer (some ⟨d, 0, none⟩), .string nm, bv] w fun e w' => e = .returned (.int .i64 (doesM s nm ((sizeM s nm : Nat) + (bs.length : Nat) : Int) true (fun q => some (q.1 ++ bs, q.2))).2) ∧
      MdTo w F d (doesM s nm ((sizeM s nm : Nat) + (bs.length : Nat) : Int) true (fun q => some (q.1 ++ bs, q.2))).1 w' := by
  have hb := below_alloc_ w (.cells #[bv] 22)
  have hsz := h.size_le (nm := nm)
  have HD := Lib.hid (show Md (w.alloc (.cells #[bv] 22)).drew d s F from h.below hb.drew)
  have HH := Lib.hid (show HowM 47 #[.pointer (some ⟨w.heap.size, 0, none⟩)] (w.alloc (.cells #[bv] 22)).drew d nm ((getM s.fs nm).getD ([], 0)) (fun q => some (q.1 ++ bs, q.2)) ∨ 1048576 < ((sizeM s nm : Nat) + (bs.length : Nat) : Int) from by
    by_cases hl : 1048576 < ((sizeM s nm : Nat) + (bs.length : Nat) : Int)
    · exact .inr hl
    · exact .inl (howm_add (w.alloc (.cells #[bv] 22)).drew d nm _ w.heap.size bv bs (show Blk (w.alloc (.cells #[bv] 22)).drew w.heap.size 22 #[bv] from Blk.new w 22 #[bv]) (hbs.below hb.drew) hby (by rw [sizeM_get]; omega)))
  have S0 := Lib.hid (show (w.alloc (.cells #[bv] 22)).drew.cell? ⟨w.heap.size, 0, none⟩ = some bv from ((Blk.new w 22 #[bv]).cell 0).trans (by simp))
  have S1 := Lib.hid (fun X (hT : Kp (w.alloc (.cells #[bv] 22)).drew F X) => show X.cell? ⟨w.heap.size, 0, none⟩ = some bv from ((hT.blk (show Blk (w.alloc (.cells #[bv] 22)).drew w.heap.size 22 #[bv] from Blk.new w 22 #[bv]) (fun hk => by have := h.lt _ hk; omega)).cell 0).trans (by simp))
  obtain ⟨n, hnn⟩ : ∃ n, n = sizeM s nm := ⟨_, rfl⟩
  have N := Lib.hid hnn
  rw [← hnn] at hsz ⊢
  obtain ⟨A2, c2, rfl, -⟩ := id hbs
  have hsum : IntKind.i64.wrap ((n : Int) + (bs.length : Int)) = (n : Int) + (bs.length : Int) := IntWalk.i64_in _ (by omega)
  have hmf : ∀ (fn : Fn) (first cap : Array Value) (w : World), (Instr.makeFunc fn first cap).run Tryz.prog w = .ok (.func fn first cap) w := fun _ _ _ _ => rfl
  clear h hbs hb hby hnn
  go_enter Tryz.func14, Tryz.ntmps14
  go_wp2
  go_region_held3 (fun w' => w'.cell? ⟨w.heap.size, 0, none⟩ = some (.slice A2 bs.length c2)) (first
     | (with_reducible exact S1.out _ hT.kp)
     | (with_reducible exact S0.out)
     | fail)
    (first
     | (go_at_call 42; refine (mdoes nm d s F _ HD.out _ true 47 _ (fun q => some (q.1 ++ bs, q.2)) (fun hl => HH.out.resolve_right (by rw [← N.out]; exact hl)) (enters_of Tryz.func47 (by kernel_rfl) rfl)).mono ?_; rintro e w1 ⟨rfl, hT⟩)
     | (go_at_call 46; refine (msize nm d s F _ HD.out).mono ?_; rw [← N.out]; rintro e w1 ⟨rfl, rfl⟩))
  all_goals
    go_wp2
    go_ret
    exact ⟨rfl, MdTo.trans (Kp.of_below ((below_alloc_ w (.cells #[.slice A2 bs.length c2] 22)).drew) F) (fun _ hk => .inl hk) hT⟩

set_option maxHeartbeats 1000000 in
theorem mput (nm : ByteArray) (d : Nat) (s : Mst) (F : List Nat) (bv : Value) (bs : List Int) (hby : ∀ c ∈ bs, byt c) (hlb : bs.length ≤ 4611686018427387904) (w : World) (h : Md w d s F) (hbs : Bs w bv bs) :
    Calls Tryz.prog 12 #[.pointer (some ⟨d, 0, none⟩), .string nm, bv] w fun e w' => e = .returned (.int .i64 (doesM s nm bs.length true (fun _ => some (bs, bs.length))).2) ∧
      MdTo w F d (doesM s nm bs.length true (fun _ => some (bs, bs.length))).1 w' := by
  have hb := below_alloc_ w (.cells #[bv] 22)
  have HD := Lib.hid (show Md (w.alloc (.cells #[bv] 22)) d s F from h.below hb)
  have HH := Lib.hid (show HowM 43 #[.pointer (some ⟨w.heap.size, 0, none⟩)] (w.alloc (.cells #[bv] 22)) d nm ((getM s.fs nm).getD ([], 0)) (fun _ => some (bs, bs.length)) ∨ 1048576 < (bs.length : Int) from by
    by_cases hl : 1048576 < (bs.length : Int)
    · exact .inr hl
    · exact .inl (howm_put (w.alloc (.cells #[bv] 22)) d nm _ w.heap.size bv bs (Blk.new w 22 #[bv]) (hbs.below hb) hby (by omega)))
  obtain ⟨A2, c2, rfl, -⟩ := id hbs
  have hmf : ∀ (fn : Fn) (first cap : Array Value) (w : World), (Instr.makeFunc fn first cap).run Tryz.prog w = .ok (.func fn first cap) w := fun _ _ _ _ => rfl
  clear h hbs hb hby
  go_enter Tryz.func12, Tryz.ntmps12
  go_wp2_with fail
  refine (mdoes nm d s F _ HD.out _ true 43 _ (fun _ => some (bs, bs.length)) (fun hl => HH.out.resolve_right hl) (enters_of Tryz.func43 (by kernel_rfl) rfl)).mono ?_
  rintro e w1 ⟨rfl, hT⟩
  have T := Lib.hid hT
  clear hT
  go_wp2
  go_ret
  exact ⟨rfl, MdTo.trans (Kp.of_below (below_alloc_ w (.cells #[.slice A2 bs.length c2] 22)) F) (fun _ hk => .inl hk) T.out⟩

set_option maxHeartbeats 1000000 in
theorem mdrop (nm : ByteArray) (d : Nat) (s : Mst) (F : List Nat) (w : World) (h : Md w d s F) :
    Calls Tryz.prog 37 #[.pointer (some ⟨d, 0, none⟩), .string nm] w fun e w' => e = .returned (.int .i64 (doesM s nm 0 false (fun _ => none)).2) ∧ MdTo w F d (doesM s nm 0 false (fun _ => none)).1 w' := by
  have hb := below_alloc_ w (.cells #[.pointer (some ⟨d, 0, none⟩)] 31)
  have HD := Lib.hid (show Md (w.alloc (.cells #[.pointer (some ⟨d, 0, none⟩)] 31)) d s F from h.below hb)
  have HH := Lib.hid (howm_drop (w.alloc (.cells #[.pointer (some ⟨d, 0, none⟩)] 31)) d nm ((getM s.fs nm).getD ([], 0)) w.heap.size (Blk.new w 31 #[.pointer (some ⟨d, 0, none⟩)]))
  have hmf : ∀ (fn : Fn) (first cap : Array Value) (w : World), (Instr.makeFunc fn first cap).run Tryz.prog w = .ok (.func fn first cap) w := fun _ _ _ _ => rfl
  clear h hb
  go_enter Tryz.func37, Tryz.ntmps37
  go_wp2_with fail
  refine (mdoes nm d s F _ HD.out _ false 69 _ (fun _ => none) (fun _ => HH.out) (enters_of Tryz.func69 (by kernel_rfl) rfl)).mono ?_
  rintro e w1 ⟨rfl, hT⟩
  have T := Lib.hid hT
  clear hT
  go_wp2
  go_ret
  exact ⟨rfl, MdTo.trans (Kp.of_below (below_alloc_ w (.cells #[.pointer (some ⟨d, 0, none⟩)] 31)) F) (fun _ hk => .inl hk) T.out⟩

/-- What Read answers. -/
def readM (s : Mst) (nm : ByteArray) : List Int × Int := if ¬ askM s nm = 0 then ([], askM s nm) else match getM s.fs nm with
  | none => ([], 7)
  | some q => (q.1, 0)
set_option maxHeartbeats 1000000 in
theorem mread (nm : ByteArray) (d : Nat) (s : Mst) (F : List Nat) (w : World) (h : Md w d s F) :
    Calls Tryz.prog 21 #[.pointer (some ⟨d, 0, none⟩), .string nm] w fun e w' => ∃ P, e = .returned (.tuple #[.slice P (readM s nm).1.length (readM s nm).1.length, .int .i64 (readM s nm).2]) ∧
      Bo w.heap.size w' (.slice P (readM s nm).1.length (readM s nm).1.length) (readM s nm).1 ∧ Below w.heap.size w w' := by
  have AK := Lib.hid (masked nm d s F w h)
  obtain ⟨m, ck, rs, hd, hf, hs, -⟩ := h.ex
  have c0 := hd.cell 0
  simp at c0
  by_cases hask : ¬ askM s nm = 0
  · have E := Lib.hid (show readM s nm = ([], askM s nm) from by unfold readM; rw [if_pos hask])
    rw [E.out]
    obtain ⟨a, ha⟩ : ∃ a, a = askM s nm := ⟨_, rfl⟩
    rw [← ha] at AK hask ⊢
    have hne : (a != 0) = true := by simpa using hask
    clear h hd hf hs ha E hask
    go_enter Tryz.func21, Tryz.ntmps21
    go_wp2_with fail
    refine AK.out.mono ?_
    rintro e w1 ⟨rfl, rfl⟩
    go_wp2
    go_ret2
    exact ⟨none, rfl, Bo.nil_ _ _, Below.refl _ _⟩
  have hask0 : askM s nm = 0 := by simpa using hask
  rw [hask0] at AK
  rcases hf.find nm with hn | ⟨pre, r, post, rfl, rfl, hn, -⟩
  · have hl := run_mlook_none (P := Tryz.prog) Tryz.underlying28 Tryz.underlying9 hf.map_ nm (keys_ne hn) (.pointer none) (by kernel_rfl)
    have E := Lib.hid (show readM s nm = ([], 7) from by unfold readM; rw [if_neg hask, hs, getM_none hn])
    rw [E.out]
    clear hd hf h hs hn hask hask0
    go_enter Tryz.func21, Tryz.ntmps21
    go_wp2_with fail
    refine AK.out.mono ?_
    rintro e w1 ⟨rfl, rfl⟩
    go_wp2
    go_ret2
    exact ⟨none, rfl, Bo.nil_ _ _, Below.refl _ _⟩
  · have hm := hf.map_
    rw [List.map_append, List.map_cons] at hm
    have hl := run_mlook_at (P := Tryz.prog) Tryz.underlying28 Tryz.underlying9 r.nm (f := r.f) (born := r.born) hm (keys_ne hn)
    have E := Lib.hid (show readM s r.nm = (r.xs, 0) from by unfold readM; rw [if_neg hask, hs, getM_at hn])
    have ho := hf.ok r (by simp)
    obtain ⟨rn, rf, rb, rv, rx, rs⟩ := r
    simp only at hl ho E AK ⊢
    rw [E.out]
    have O := Lib.hid ho.own.bs
    have hlen := ho.len
    have hblk := ho.blk
    simp only at O hlen hblk
    obtain ⟨A, c, hv, hc, -⟩ := ho.own.clip
    simp only at hv hc
    subst hv
    have d0 := hblk.cell 0
    simp at d0
    clear hd hf h hs hn hm ho hblk hask hask0 E
    go_enter Tryz.func21, Tryz.ntmps21
    go_wp2_with fail
    refine AK.out.mono ?_
    rintro e w1 ⟨rfl, rfl⟩
    go_wp2_with fail
    refine (byt_clone_any _ _ _ _ O.out (bc_one _) (by omega) (by omega)).mono ?_
    rintro e w1 ⟨v1, rfl, ho1, hb1⟩
    obtain ⟨A1, c1, rfl, hc1, hcl⟩ := Ow.clip ho1
    have CL := Lib.hid hcl
    have B1 := Lib.hid hb1
    clear ho1 hb1 hcl
    go_wp2_with fail
    refine (byt_clip A1 _ c1 _ hc1 (by omega)).mono ?_
    rintro e w2 ⟨rfl, rfl⟩
    go_wp2
    go_ret2
    exact ⟨A1, rfl, CL.out, B1.out⟩
end Go.Proofs.YtoiclicechfmgaaGreatDoor
