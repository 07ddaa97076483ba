/- A disk of one file at most: Drop. -/
import Derived.Test.YtenobcfgapolhaaDskO
namespace Go.Proofs.Ytenobcfgapolhaa
open Go.RowKit

theorem step_del_one {P : Program} {ops : Array Oper} {o : Oper} {a : Act} {w : World} {K : Act → World → Prop} {Q : Exit → Act → World → Prop} {E : Prop} (hgd : o.guard = none) (x y : Operand) (t k' : TypeId)
    (ho : o.op = .call { callee := .builtin .delete, args := #[x, y], argTypes := #[t, k'] }) {k e : TypeId} (ht : P.underlying t = some (.map k e)) (hk : P.underlying k = some .string)
    {m ck f born : Nat} {s : ByteArray} (hx : a.eval x = .map (some m)) (hy : a.eval y = .string s) (hb : w.heap[m]? = some (.map #[ent s f born] ck))
    (h : K (a.put o.dst (.tuple #[])) (setH w m (.map #[] ck))) : if Region.wanted o (yielded ops a.tmps) = true then Oper.wp P o a w K Q else E := by
  have hw : Region.wanted o (yielded ops a.tmps) = true := by simp [Region.wanted, hgd]
  rw [if_pos hw]
  have hr := run_del_one (P := P) (w := w) (k' := k') (ty := o.type) ht hk s hb
  unfold Oper.wp
  simp [execOp, ho, resolve, invoke, builtin, hx, hy, hr, Result.andThen]
  exact h

set_option maxHeartbeats 1000000 in
theorem how_drop (w : World) (d : Nat) (nm : ByteArray) (q : List Int × Nat) (a : Nat) (ha : Blk w a 25 #[.pointer (some ⟨d, 0, none⟩)]) :
    How 43 #[.pointer (some ⟨a, 0, none⟩)] w d nm q (fun _ => none) := by
  intro W F f s hq hD hF hK
  obtain ⟨m, born, ck, v, hd, hm, hb, hff, ho, hby', hsu, hlen, rfl⟩ := hD.parts hq hF
  have hap := hD.apart
  have hfu := hD.fuse
  have ha' := hK.blk _ _ _ (by decide) ha
  have c0 := hd.cell 0
  have c2 := hff.cell 2
  have ca := ha'.cell 0
  simp at c0 c2 ca
  have HM := Lib.hid (show W.drew.heap[m]? = some (.map #[ent nm f born] ck) from hm)
  have X := Lib.hid (show DkTo W (d :: m :: f :: v.ownBlock.toList) d nm ⟨none, s.fuse, s.dead⟩ (setH W.drew m (.map #[] ck)) from by
    have k : Kp W [m] (setH W.drew m (.map #[] ck)) := ((Kp.refl W [m]).below (Below.refl _ _).drew).setH (.inl (by simp)) _
    have hmd : m ≠ d := hap m (by simp)
    have hset := MapKept.heap_set (o' := Obj.map #[] ck) (show W.drew.heap[m]? = some (.map #[ent nm f born] ck) from hm)
    exact ⟨⟨[d, m], ⟨⟨m, [], k.blk hd (by simpa using hmd.symm), ⟨ck, hset.1, rfl⟩, rfl⟩, hfu⟩, by simp⟩, k.mono (by simp)⟩)
  clear hd hm hff ho hby' hF hq hD hK ha ha' hap
  show Calls _ _ #[.pointer (some ⟨f, 0, none⟩), .pointer (some ⟨a, 0, none⟩)] _ _
  go_enter Try.func43, Try.ntmps43
  go_wp2
  go_region_law (refine step_del_one rfl (.tmp 6) (.tmp 10) 44 9 rfl Try.underlying44 Try.underlying9 rfl rfl HM.out ?_)
  all_goals
    go_wp2
    refine bodyPost_end (results_none rfl _ _ _) rfl ⟨rfl, ?_⟩
    exact X.out

set_option maxHeartbeats 1000000 in
theorem ddrop (nm : ByteArray) (hn : Nm nm) (d : Nat) (s : Dst) (F : List Nat) (w : World) (h : Dk w d nm s F) :
    Calls Try.prog 20 #[.pointer (some ⟨d, 0, none⟩), .string nm] w fun e w' => e = .returned (.int .i64 (doesS s 0 false (fun _ => none)).2) ∧ DkTo w F d nm (doesS s 0 false (fun _ => none)).1 w' := by
  have hb := below_alloc_ w (.cells #[.pointer (some ⟨d, 0, none⟩)] 25)
  have HD := Lib.hid (show Dk (w.alloc (.cells #[.pointer (some ⟨d, 0, none⟩)] 25)) d nm s F from h.below hb)
  have HH := Lib.hid (how_drop (w.alloc (.cells #[.pointer (some ⟨d, 0, none⟩)] 25)) d nm (s.file.getD ([], 0)) w.heap.size (Blk.new w 25 #[.pointer (some ⟨d, 0, none⟩)]))
  have hmf : ∀ (fn : Fn) (first cap : Array Value) (w : World), (Instr.makeFunc fn first cap).run Try.prog w = .ok (.func fn first cap) w := fun _ _ _ _ => rfl
  clear h hb
  go_enter Try.func20, Try.ntmps20
  go_wp2_with fail
  refine (ddoes nm hn d s F _ HD.out _ false 43 _ (fun _ => none) (fun _ => HH.out) (enters_of Try.func43 (by kernel_rfl) rfl)).mono ?_
  rintro e w1 ⟨rfl, hT⟩
  have T := Lib.hid hT
  clear hT
  go_wp2
  go_ret
  exact ⟨rfl, DkTo.trans (Kp.of_below (below_alloc_ w (.cells #[.pointer (some ⟨d, 0, none⟩)] 25)) F) (fun _ hk => .inl hk) T.out⟩
theorem on_drop {X : List (Nat × Obj)} {B : Nat} {W w : World} {d : Nat} {nm : ByteArray} {s : Dst} (s' : Dst) (r : Int) (hn : Nm nm) (h : On X B W w d nm s) (he : doesS s 0 false (fun _ => none) = (s', r)) :
    Calls Try.prog 20 #[.pointer (some ⟨d, 0, none⟩), .string nm] w fun e w' => e = .returned (.int .i64 r) ∧ On X B W w' d nm s' := by
  obtain ⟨⟨F, hd, hF, hX⟩, hk, h1, h2⟩ := h
  have := ddrop nm hn d s F w hd
  rw [he] at this
  exact this.mono fun _ _ ⟨he, ht⟩ => ⟨he, On.to_ hF hX hk h1 h2 ht⟩
end Go.Proofs.Ytenobcfgapolhaa
