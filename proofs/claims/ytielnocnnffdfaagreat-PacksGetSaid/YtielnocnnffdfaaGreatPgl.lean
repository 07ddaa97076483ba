/- PacksGet: the walk. -/
import Derived.Test.YtielnocnnffdfaaGreatPgs
import Derived.Test.YtielnocnnffdfaaGreatJtw
import Derived.Test.YtielnocnnffdfaaGreatSmr
import Derived.Test.YtielnocnnffdfaaGreatEnt
import Derived.Test.YtielnocnnffdfaaGreatTwx
import Derived.Test.YtielnocnnffdfaaGreatTwb
import Derived.Test.YtielnocnnffdfaaGreatPlv
namespace Go.Proofs.YtielnocnnffdfaaGreat
open Go.RowKit

theorem Pg.In.below {p : Pg} {w w' : World} {a b : Prop} (h : p.In w a b) (hb : Below w.heap.size w w') : p.In w' a b := h.grown (grown_below_ hb none) (fun _ _ => by simp)
theorem ow_apart {B B' e e' s s' n n' : Nat} {w : World} {v v' : Value} {xs xs' : List Value} (h : Ow B w e s v n xs) (h' : Ow B' w e' s' v' n' xs') (hne : e ≠ e') : ∀ g, v.ownBlock = some g → v'.ownBlock ≠ some g := by
  intro g hg
  rcases h with ⟨rfl, _, _⟩ | ⟨k, c, cur, rfl, _, hk, _⟩
  · cases hg
  · obtain rfl : k = g := by simpa [Value.ownBlock] using hg
    exact Ow.notat h' hk hne
set_option maxRecDepth 100000 in
theorem get_great (v : Value) (xs : List Int) (w : World) (h : Bs w v xs) (hl : 5000 < xs.length) (hm : xs.length ≤ 9223372036854775807) :
    Calls Tryz.prog 3 #[v] w fun e w' => e = .returned (.bool true) ∧ Below w.heap.size w w' := by
  have h1' : (5000 : Int) < (xs.length : Int) := by omega
  obtain ⟨A, c, rfl, -⟩ := id h
  clear h
  go_enter Tryz.func3, Tryz.ntmps3
  go_wp2_with fail
  refine (plives _).mono ?_
  rintro e w1 ⟨rfl, hb⟩
  have B1 := Lib.hid hb
  clear hb
  go_wp2
  go_ret
  exact ⟨rfl, B1.out⟩
set_option maxHeartbeats 16000000 in
set_option maxRecDepth 100000 in
theorem get_small (v : Value) (xs : List Int) (w : World) (h : Bs w v xs) (hby : ∀ c ∈ xs, byt c) (hl : xs.length ≤ 5000) :
    Calls Tryz.prog 3 #[v] w fun e w' => e = .returned (.bool true) ∧ Below w.heap.size w w' := by
  have h1' : ¬ (5000 : Int) < (xs.length : Int) := by omega
  have lC := (cmd_fit xs hby).1
  have qC := fun q hq => fok_len _ _ ((cmd_fit xs hby).2 q hq)
  obtain ⟨L, hL⟩ : ∃ L, ev (allP (cmdP xs)) [] = L := ⟨_, rfl⟩
  obtain ⟨ck, hck⟩ : ∃ k, ek (allP (cmdP xs)) = k := ⟨_, rfl⟩
  obtain ⟨E, F, G, hR, lR, qR⟩ := reply_parts xs hby
  obtain ⟨rk, hrk⟩ : ∃ k, ek (allP (replyP xs)) = k := ⟨_, rfl⟩
  obtain ⟨x0, x1, x2, x3, M, hE, lE, qE⟩ := entry_parts xs hby
  obtain ⟨nk, hnk⟩ : ∃ k, ek (allP (entryP xs)) = k := ⟨_, rfl⟩
  obtain ⟨r0, r1, r2, y3, hS, ⟨l0, q0⟩, ⟨l1, q1⟩, ⟨l2, q2⟩⟩ := state_parts xs hby
  obtain ⟨sk, hsk⟩ : ∃ k, ek (allP (stateP xs)) = k := ⟨_, rfl⟩
  rw [hL] at lC qC
  have HL := Lib.hid hL
  have HCK := Lib.hid hck
  have HR := Lib.hid hR
  have HRK := Lib.hid hrk
  have HE := Lib.hid hE
  have HNK := Lib.hid hnk
  have HS := Lib.hid hS
  have HSK := Lib.hid hsk
  have QC := Lib.hid qC
  have QR := Lib.hid qR
  have QE := Lib.hid qE
  have Q0 := Lib.hid q0
  have Q1 := Lib.hid q1
  have Q2 := Lib.hid q2
  have HBY := Lib.hid hby
  have HV := Lib.hid h
  have hk1 : (ck != ck) = false := by simp
  have hk2 : (rk != rk) = false := by simp
  have hk3 : (nk != nk) = false := by simp
  have hk4 : (sk != sk) = false := by simp
  obtain ⟨n, hn⟩ : ∃ n, n = xs.length := ⟨_, rfl⟩
  obtain ⟨tn, htn⟩ : ∃ t, t = (tk xs).1 := ⟨_, rfl⟩
  obtain ⟨ts, hts⟩ : ∃ t, t = (tk xs).2.1 := ⟨_, rfl⟩
  have CT := Lib.hid (fun v w h => Take_any v xs w h hby (by omega))
  have DT := Lib.hid (fun v w h => rtake_any v xs w h hby (by omega))
  rw [← htn, ← hts] at CT DT
  have hk5 : ((tn : Int) != (tn : Int)) = false := by simp
  have hk6 : ((ts : Int) != (ts : Int)) = false := by simp
  obtain ⟨VA, VC, rfl, -⟩ := id h
  have TW := Lib.hid (Twin_bytec (.slice VA xs.length VC) xs w h (by omega))
  rw [← hn] at TW h1' ⊢
  have HN := Lib.hid hn
  clear hL hck hR hrk hE hnk hS hsk qC qR qE q0 q1 q2 hby h htn hts hn
  go_enter Tryz.func3, Tryz.ntmps3
  go_wp2_with fail
  refine TW.out.mono ?_
  rintro e w1 ⟨g, rfl, hT, hb⟩
  obtain ⟨pt, gt1, gt2⟩ := hT.page (by omega)
  have PT := Lib.hid pt
  have BW := Lib.hid hb
  have GT := Lib.hid (show ∀ k, bkOf (some (g, n, n + 2)) = some k → w.heap.size ≤ k ∧ k < w1.heap.size from fun k hk => by
    obtain rfl : g = k := by simpa [bkOf] using hk
    exact ⟨gt1, gt2⟩)
  have T := Lib.hid hT
  have V := Lib.hid (show Bs w1 (.slice VA n VC) xs by rw [HN.out]; exact Rd.below HV.out hb)
  have VT := Lib.hid (show Bs w1 (.slice (some ⟨g, 0, none⟩) n (n + 2)) xs by have := hT.rd; rw [HN.out] at this ⊢; exact this)
  have Z1 := Lib.hid (Below.refl w1.heap.size w1)
  clear hT pt gt1 gt2 hb HV
  go_wp2_with fail
  refine (CT.out _ _ VT.out).mono ?_
  rintro e w1' ⟨rfl, rfl⟩
  go_wp2_with fail
  refine (DT.out _ _ V.out).mono ?_
  rintro e w2 ⟨rfl, hb⟩
  have t2 : w1.heap.size ≤ w2.heap.size := hb.size
  replace T := Lib.hid (T.out.below hb)
  replace V := Lib.hid (show Bs w2 (.slice VA n VC) xs from Rd.below V.out hb)
  replace VT := Lib.hid (show Bs w2 (.slice (some ⟨g, 0, none⟩) n (n + 2)) xs from Rd.below VT.out hb)
  replace PT := Lib.hid (fun m b => (PT.out m b).below hb)
  replace Z1 := Lib.hid (Z1.out.trans (hb.mono Z1.out.size))
  clear hb
  go_wp2_with fail
  refine (ccmd_at _ xs _ L ck HL.out HCK.out VT.out HBY.out (by omega)).mono ?_
  rintro e w3 ⟨Ac, rfl, ho, hb⟩
  obtain ⟨lc, hlc, pc, gc⟩ := Ow.page (k := 1) (show Ow _ _ (kE 1) (kK 1).length _ _ _ from ho) (by omega)
  have HLc := Lib.hid hlc
  have Gc := Lib.hid gc
  obtain ⟨W3, hW⟩ : ∃ W, W = w3.alloc (.cells #[.slice Ac L.length L.length] 30) := ⟨_, rfl⟩
  have ba : Below w3.heap.size w3 W3 := by rw [hW]; exact below_alloc_ _ _
  have hb3 : Below w2.heap.size w2 W3 := hb.trans (ba.mono hb.size)
  have s3 : w2.heap.size ≤ w3.heap.size := hb.size
  have S3 : w3.heap.size ≤ W3.heap.size := ba.size
  replace T := Lib.hid (T.out.below hb3)
  replace V := Lib.hid (show Bs W3 (.slice VA n VC) xs from Rd.below V.out hb3)
  replace VT := Lib.hid (show Bs W3 (.slice (some ⟨g, 0, none⟩) n (n + 2)) xs from Rd.below VT.out hb3)
  replace PT := Lib.hid (fun m b => (PT.out m b).below hb3)
  replace Z1 := Lib.hid (Z1.out.trans (hb3.mono Z1.out.size))
  have RC := Lib.hid (show Steps W3 (.slice Ac L.length L.length) L from Rd.below ho.rd ba)
  have Pc := Lib.hid (fun m b => (pc m b).below ba)
  have K3 := Lib.hid (show Blk W3 w3.heap.size 30 #[.slice Ac L.length L.length] by rw [hW]; exact Blk.new _ _ _)
  clear hb hb3 ba ho hlc pc gc
  go_wp2_with fail
  rw [← hW]
  clear hW
  refine (dcmd_at _ xs _ L ck HL.out HCK.out V.out HBY.out (by omega)).mono ?_
  rintro e w4 ⟨Ad, cd, rfl, ho, hb⟩
  obtain ⟨W4, hW⟩ : ∃ W, W = w4.alloc (.cells #[.slice Ad L.length cd] 30) := ⟨_, rfl⟩
  have ba : Below w4.heap.size w4 W4 := by rw [hW]; exact below_alloc_ _ _
  have hb3 : Below W3.heap.size W3 W4 := hb.trans (ba.mono hb.size)
  have s4 : W3.heap.size ≤ w4.heap.size := hb.size
  have S4 : w4.heap.size ≤ W4.heap.size := ba.size
  replace T := Lib.hid (T.out.below hb3)
  replace V := Lib.hid (show Bs W4 (.slice VA n VC) xs from Rd.below V.out hb3)
  replace VT := Lib.hid (show Bs W4 (.slice (some ⟨g, 0, none⟩) n (n + 2)) xs from Rd.below VT.out hb3)
  replace PT := Lib.hid (fun m b => (PT.out m b).below hb3)
  replace RC := Lib.hid (show Steps W4 (.slice Ac L.length L.length) L from Rd.below RC.out hb3)
  replace Pc := Lib.hid (fun m b => (Pc.out m b).below hb3)
  replace K3 := Lib.hid (K3.out.below hb3 K3.out.lt)
  replace Z1 := Lib.hid (Z1.out.trans (hb3.mono Z1.out.size))
  have RD := Lib.hid (show Steps W4 (.slice Ad L.length cd) L from Rd.below ho ba)
  have K4 := Lib.hid (show Blk W4 w4.heap.size 30 #[.slice Ad L.length cd] by rw [hW]; exact Blk.new _ _ _)
  clear hb hb3 ba ho 
  go_upto_region 8 with fail
  rw [← hW]
  clear hW
  have zK3_0 : W4.cell? ⟨w3.heap.size, 0, none⟩ = some (.slice Ac L.length L.length) := (K3.out.cell 0).trans rfl
  have zK4_0 : W4.cell? ⟨w4.heap.size, 0, none⟩ = some (.slice Ad L.length cd) := (K4.out.cell 0).trans rfl
  go_wp2_with fail
  refine (Same_step L L QC.out QC.out _ _ _ RC.out RD.out (by omega)).mono ?_
  rintro e w5 ⟨rfl, m5, hw5⟩
  rw [show decide (L = L) = true from decide_eq_true rfl]
  have hb : Below W4.heap.size W4 w5 := by rw [hw5]; exact below_drewN_ _ _ _
  have t5 : W4.heap.size ≤ w5.heap.size := hb.size
  clear hw5 zK3_0 zK4_0
  clear RD
  clear RC
  clear K4
  replace T := Lib.hid (T.out.below hb)
  replace V := Lib.hid (show Bs w5 (.slice VA n VC) xs from Rd.below V.out hb)
  replace VT := Lib.hid (show Bs w5 (.slice (some ⟨g, 0, none⟩) n (n + 2)) xs from Rd.below VT.out hb)
  replace PT := Lib.hid (fun m b => (PT.out m b).below hb)
  replace Pc := Lib.hid (fun m b => (Pc.out m b).below hb)
  replace K3 := Lib.hid (K3.out.below hb K3.out.lt)
  replace Z1 := Lib.hid (Z1.out.trans (hb.mono Z1.out.size))
  clear hb
  go_wp2_with fail
  refine (creply_at _ xs _ E F G rk HR.out HRK.out VT.out HBY.out (by omega)).mono ?_
  rintro e w6 ⟨Ar, rfl, ho, hb⟩
  obtain ⟨lr, hlr, pr, gr⟩ := Ow.page (k := 2) (show Ow _ _ (kE 2) (kK 2).length _ _ _ from ho) (by omega)
  have HLr := Lib.hid hlr
  have Gr := Lib.hid gr
  obtain ⟨W6, hW⟩ : ∃ W, W = w6.alloc (.cells #[.int .i64 E, .int .i64 F, .slice Ar G.length G.length] 37) := ⟨_, rfl⟩
  have ba : Below w6.heap.size w6 W6 := by rw [hW]; exact below_alloc_ _ _
  have hb3 : Below w5.heap.size w5 W6 := hb.trans (ba.mono hb.size)
  have s6 : w5.heap.size ≤ w6.heap.size := hb.size
  have S6 : w6.heap.size ≤ W6.heap.size := ba.size
  replace T := Lib.hid (T.out.below hb3)
  replace V := Lib.hid (show Bs W6 (.slice VA n VC) xs from Rd.below V.out hb3)
  replace VT := Lib.hid (show Bs W6 (.slice (some ⟨g, 0, none⟩) n (n + 2)) xs from Rd.below VT.out hb3)
  replace PT := Lib.hid (fun m b => (PT.out m b).below hb3)
  replace Pc := Lib.hid (fun m b => (Pc.out m b).below hb3)
  replace K3 := Lib.hid (K3.out.below hb3 K3.out.lt)
  replace Z1 := Lib.hid (Z1.out.trans (hb3.mono Z1.out.size))
  have RR := Lib.hid (show Gots W6 (.slice Ar G.length G.length) G from Rd.below ho.rd ba)
  have Pr := Lib.hid (fun m b => (pr m b).below ba)
  have K6 := Lib.hid (show Blk W6 w6.heap.size 37 #[.int .i64 E, .int .i64 F, .slice Ar G.length G.length] by rw [hW]; exact Blk.new _ _ _)
  clear hb hb3 ba ho hlr pr gr
  go_wp2_with fail
  rw [← hW]
  clear hW
  refine (dreply_at _ xs _ E F G rk HR.out HRK.out V.out HBY.out (by omega)).mono ?_
  rintro e w7 ⟨Aq, cq, rfl, ho, hb⟩
  obtain ⟨W7, hW⟩ : ∃ W, W = w7.alloc (.cells #[.int .i64 E, .int .i64 F, .slice Aq G.length cq] 37) := ⟨_, rfl⟩
  have ba : Below w7.heap.size w7 W7 := by rw [hW]; exact below_alloc_ _ _
  have hb3 : Below W6.heap.size W6 W7 := hb.trans (ba.mono hb.size)
  have s7 : W6.heap.size ≤ w7.heap.size := hb.size
  have S7 : w7.heap.size ≤ W7.heap.size := ba.size
  replace T := Lib.hid (T.out.below hb3)
  replace V := Lib.hid (show Bs W7 (.slice VA n VC) xs from Rd.below V.out hb3)
  replace VT := Lib.hid (show Bs W7 (.slice (some ⟨g, 0, none⟩) n (n + 2)) xs from Rd.below VT.out hb3)
  replace PT := Lib.hid (fun m b => (PT.out m b).below hb3)
  replace Pc := Lib.hid (fun m b => (Pc.out m b).below hb3)
  replace K3 := Lib.hid (K3.out.below hb3 K3.out.lt)
  replace RR := Lib.hid (show Gots W7 (.slice Ar G.length G.length) G from Rd.below RR.out hb3)
  replace Pr := Lib.hid (fun m b => (Pr.out m b).below hb3)
  replace K6 := Lib.hid (K6.out.below hb3 K6.out.lt)
  replace Z1 := Lib.hid (Z1.out.trans (hb3.mono Z1.out.size))
  have RQ := Lib.hid (show Gots W7 (.slice Aq G.length cq) G from Rd.below ho ba)
  have K7 := Lib.hid (show Blk W7 w7.heap.size 37 #[.int .i64 E, .int .i64 F, .slice Aq G.length cq] by rw [hW]; exact Blk.new _ _ _)
  clear hb hb3 ba ho 
  go_wp2_with fail
  rw [← hW]
  clear hW
  refine (centry_at _ xs _ x0 x1 x2 x3 M nk HE.out HNK.out VT.out HBY.out (by omega)).mono ?_
  rintro e w8 ⟨Ae, rfl, ho, hb⟩
  obtain ⟨le, hle, pe, ge⟩ := Ow.page (k := 1) (show Ow _ _ (kE 1) (kK 1).length _ _ _ from ho) (by omega)
  have HLe := Lib.hid hle
  have Ge := Lib.hid ge
  obtain ⟨W8, hW⟩ : ∃ W, W = w8.alloc (.cells #[.int .u64 x0, .int .u64 x1, .int .u8 x2, .int .u64 x3, .slice Ae M.length M.length] 43) := ⟨_, rfl⟩
  have ba : Below w8.heap.size w8 W8 := by rw [hW]; exact below_alloc_ _ _
  have hb3 : Below W7.heap.size W7 W8 := hb.trans (ba.mono hb.size)
  have s8 : W7.heap.size ≤ w8.heap.size := hb.size
  have S8 : w8.heap.size ≤ W8.heap.size := ba.size
  replace T := Lib.hid (T.out.below hb3)
  replace V := Lib.hid (show Bs W8 (.slice VA n VC) xs from Rd.below V.out hb3)
  replace VT := Lib.hid (show Bs W8 (.slice (some ⟨g, 0, none⟩) n (n + 2)) xs from Rd.below VT.out hb3)
  replace PT := Lib.hid (fun m b => (PT.out m b).below hb3)
  replace Pc := Lib.hid (fun m b => (Pc.out m b).below hb3)
  replace K3 := Lib.hid (K3.out.below hb3 K3.out.lt)
  replace RR := Lib.hid (show Gots W8 (.slice Ar G.length G.length) G from Rd.below RR.out hb3)
  replace Pr := Lib.hid (fun m b => (Pr.out m b).below hb3)
  replace K6 := Lib.hid (K6.out.below hb3 K6.out.lt)
  replace RQ := Lib.hid (show Gots W8 (.slice Aq G.length cq) G from Rd.below RQ.out hb3)
  replace K7 := Lib.hid (K7.out.below hb3 K7.out.lt)
  replace Z1 := Lib.hid (Z1.out.trans (hb3.mono Z1.out.size))
  have RE := Lib.hid (show Steps W8 (.slice Ae M.length M.length) M from Rd.below ho.rd ba)
  have Pe := Lib.hid (fun m b => (pe m b).below ba)
  have K8 := Lib.hid (show Blk W8 w8.heap.size 43 #[.int .u64 x0, .int .u64 x1, .int .u8 x2, .int .u64 x3, .slice Ae M.length M.length] by rw [hW]; exact Blk.new _ _ _)
  clear hb hb3 ba ho hle pe ge
  go_wp2_with fail
  rw [← hW]
  clear hW
  refine (dentry_at _ xs _ x0 x1 x2 x3 M nk HE.out HNK.out V.out HBY.out (by omega)).mono ?_
  rintro e w9 ⟨Af, cf, rfl, ho, hb⟩
  obtain ⟨W9, hW⟩ : ∃ W, W = w9.alloc (.cells #[.int .u64 x0, .int .u64 x1, .int .u8 x2, .int .u64 x3, .slice Af M.length cf] 43) := ⟨_, rfl⟩
  have ba : Below w9.heap.size w9 W9 := by rw [hW]; exact below_alloc_ _ _
  have hb3 : Below W8.heap.size W8 W9 := hb.trans (ba.mono hb.size)
  have s9 : W8.heap.size ≤ w9.heap.size := hb.size
  have S9 : w9.heap.size ≤ W9.heap.size := ba.size
  replace T := Lib.hid (T.out.below hb3)
  replace V := Lib.hid (show Bs W9 (.slice VA n VC) xs from Rd.below V.out hb3)
  replace VT := Lib.hid (show Bs W9 (.slice (some ⟨g, 0, none⟩) n (n + 2)) xs from Rd.below VT.out hb3)
  replace PT := Lib.hid (fun m b => (PT.out m b).below hb3)
  replace Pc := Lib.hid (fun m b => (Pc.out m b).below hb3)
  replace K3 := Lib.hid (K3.out.below hb3 K3.out.lt)
  replace RR := Lib.hid (show Gots W9 (.slice Ar G.length G.length) G from Rd.below RR.out hb3)
  replace Pr := Lib.hid (fun m b => (Pr.out m b).below hb3)
  replace K6 := Lib.hid (K6.out.below hb3 K6.out.lt)
  replace RQ := Lib.hid (show Gots W9 (.slice Aq G.length cq) G from Rd.below RQ.out hb3)
  replace K7 := Lib.hid (K7.out.below hb3 K7.out.lt)
  replace RE := Lib.hid (show Steps W9 (.slice Ae M.length M.length) M from Rd.below RE.out hb3)
  replace Pe := Lib.hid (fun m b => (Pe.out m b).below hb3)
  replace K8 := Lib.hid (K8.out.below hb3 K8.out.lt)
  replace Z1 := Lib.hid (Z1.out.trans (hb3.mono Z1.out.size))
  have RF := Lib.hid (show Steps W9 (.slice Af M.length cf) M from Rd.below ho ba)
  have K9 := Lib.hid (show Blk W9 w9.heap.size 43 #[.int .u64 x0, .int .u64 x1, .int .u8 x2, .int .u64 x3, .slice Af M.length cf] by rw [hW]; exact Blk.new _ _ _)
  clear hb hb3 ba ho 
  go_wp2_with fail
  rw [← hW]
  clear hW
  refine (cstate_at _ xs _ r0 r1 r2 y3 sk HS.out HSK.out VT.out HBY.out (by omega)).mono ?_
  rintro e w10 ⟨A0, A1, A2, rfl, ho0, ho1, ho2, hb⟩
  obtain ⟨l0, hl0, p0, g0⟩ := Ow.page (k := 3) (show Ow _ _ (kE 3) (kK 3).length _ _ _ from ho0) (by omega)
  have HL0 := Lib.hid hl0
  have G0 := Lib.hid g0
  obtain ⟨l1, hl1, p1, g1⟩ := Ow.page (k := 4) (show Ow _ _ (kE 4) (kK 4).length _ _ _ from ho1) (by omega)
  have HL1 := Lib.hid hl1
  have G1 := Lib.hid g1
  obtain ⟨l2, hl2, p2, g2⟩ := Ow.page (k := 5) (show Ow _ _ (kE 5) (kK 5).length _ _ _ from ho2) (by omega)
  have HL2 := Lib.hid hl2
  have G2 := Lib.hid g2
  have N01 := Lib.hid (show ∀ k, bkOf l0 = some k → bkOf l1 ≠ some k from fun k hk hk2 => ow_apart ho0 ho1 (by decide) k (by rw [hl0]; exact bk_own hk) (by rw [hl1]; exact bk_own hk2))
  have N02 := Lib.hid (show ∀ k, bkOf l0 = some k → bkOf l2 ≠ some k from fun k hk hk2 => ow_apart ho0 ho2 (by decide) k (by rw [hl0]; exact bk_own hk) (by rw [hl2]; exact bk_own hk2))
  have N12 := Lib.hid (show ∀ k, bkOf l1 = some k → bkOf l2 ≠ some k from fun k hk hk2 => ow_apart ho1 ho2 (by decide) k (by rw [hl1]; exact bk_own hk) (by rw [hl2]; exact bk_own hk2))
  obtain ⟨W10, hW⟩ : ∃ W, W = w10.alloc (.cells #[.slice A0 r0.length r0.length, .slice A1 r1.length r1.length, .slice A2 r2.length r2.length, .int .u64 y3] 50) := ⟨_, rfl⟩
  have ba : Below w10.heap.size w10 W10 := by rw [hW]; exact below_alloc_ _ _
  have hb3 : Below W9.heap.size W9 W10 := hb.trans (ba.mono hb.size)
  have s10 : W9.heap.size ≤ w10.heap.size := hb.size
  have S10 : w10.heap.size ≤ W10.heap.size := ba.size
  replace T := Lib.hid (T.out.below hb3)
  replace V := Lib.hid (show Bs W10 (.slice VA n VC) xs from Rd.below V.out hb3)
  replace VT := Lib.hid (show Bs W10 (.slice (some ⟨g, 0, none⟩) n (n + 2)) xs from Rd.below VT.out hb3)
  replace PT := Lib.hid (fun m b => (PT.out m b).below hb3)
  replace Pc := Lib.hid (fun m b => (Pc.out m b).below hb3)
  replace K3 := Lib.hid (K3.out.below hb3 K3.out.lt)
  replace RR := Lib.hid (show Gots W10 (.slice Ar G.length G.length) G from Rd.below RR.out hb3)
  replace Pr := Lib.hid (fun m b => (Pr.out m b).below hb3)
  replace K6 := Lib.hid (K6.out.below hb3 K6.out.lt)
  replace RQ := Lib.hid (show Gots W10 (.slice Aq G.length cq) G from Rd.below RQ.out hb3)
  replace K7 := Lib.hid (K7.out.below hb3 K7.out.lt)
  replace RE := Lib.hid (show Steps W10 (.slice Ae M.length M.length) M from Rd.below RE.out hb3)
  replace Pe := Lib.hid (fun m b => (Pe.out m b).below hb3)
  replace K8 := Lib.hid (K8.out.below hb3 K8.out.lt)
  replace RF := Lib.hid (show Steps W10 (.slice Af M.length cf) M from Rd.below RF.out hb3)
  replace K9 := Lib.hid (K9.out.below hb3 K9.out.lt)
  replace Z1 := Lib.hid (Z1.out.trans (hb3.mono Z1.out.size))
  have R0 := Lib.hid (show Partys W10 (.slice A0 r0.length r0.length) r0 from Rd.below ho0.rd ba)
  have R1 := Lib.hid (show Lines W10 (.slice A1 r1.length r1.length) r1 from Rd.below ho1.rd ba)
  have R2 := Lib.hid (show Offers W10 (.slice A2 r2.length r2.length) r2 from Rd.below ho2.rd ba)
  have P0 := Lib.hid (fun m b => (p0 m b).below ba)
  have P1 := Lib.hid (fun m b => (p1 m b).below ba)
  have P2 := Lib.hid (fun m b => (p2 m b).below ba)
  have K10 := Lib.hid (show Blk W10 w10.heap.size 50 #[.slice A0 r0.length r0.length, .slice A1 r1.length r1.length, .slice A2 r2.length r2.length, .int .u64 y3] by rw [hW]; exact Blk.new _ _ _)
  clear hb hb3 ba ho0 ho1 ho2 hl0 p0 g0 hl1 p1 g1 hl2 p2 g2
  go_wp2_with fail
  rw [← hW]
  clear hW
  refine (dstate_at _ xs _ r0 r1 r2 y3 sk HS.out HSK.out V.out HBY.out (by omega)).mono ?_
  rintro e w11 ⟨D0, d0, D1, d1, D2, d2, rfl, hp0, hp1, hp2, hb⟩
  obtain ⟨W11, hW⟩ : ∃ W, W = w11.alloc (.cells #[.slice D0 r0.length d0, .slice D1 r1.length d1, .slice D2 r2.length d2, .int .u64 y3] 53) := ⟨_, rfl⟩
  have ba : Below w11.heap.size w11 W11 := by rw [hW]; exact below_alloc_ _ _
  have hb3 : Below W10.heap.size W10 W11 := hb.trans (ba.mono hb.size)
  have s11 : W10.heap.size ≤ w11.heap.size := hb.size
  have S11 : w11.heap.size ≤ W11.heap.size := ba.size
  replace T := Lib.hid (T.out.below hb3)
  replace V := Lib.hid (show Bs W11 (.slice VA n VC) xs from Rd.below V.out hb3)
  replace VT := Lib.hid (show Bs W11 (.slice (some ⟨g, 0, none⟩) n (n + 2)) xs from Rd.below VT.out hb3)
  replace PT := Lib.hid (fun m b => (PT.out m b).below hb3)
  replace Pc := Lib.hid (fun m b => (Pc.out m b).below hb3)
  replace K3 := Lib.hid (K3.out.below hb3 K3.out.lt)
  replace RR := Lib.hid (show Gots W11 (.slice Ar G.length G.length) G from Rd.below RR.out hb3)
  replace Pr := Lib.hid (fun m b => (Pr.out m b).below hb3)
  replace K6 := Lib.hid (K6.out.below hb3 K6.out.lt)
  replace RQ := Lib.hid (show Gots W11 (.slice Aq G.length cq) G from Rd.below RQ.out hb3)
  replace K7 := Lib.hid (K7.out.below hb3 K7.out.lt)
  replace RE := Lib.hid (show Steps W11 (.slice Ae M.length M.length) M from Rd.below RE.out hb3)
  replace Pe := Lib.hid (fun m b => (Pe.out m b).below hb3)
  replace K8 := Lib.hid (K8.out.below hb3 K8.out.lt)
  replace RF := Lib.hid (show Steps W11 (.slice Af M.length cf) M from Rd.below RF.out hb3)
  replace K9 := Lib.hid (K9.out.below hb3 K9.out.lt)
  replace R0 := Lib.hid (show Partys W11 (.slice A0 r0.length r0.length) r0 from Rd.below R0.out hb3)
  replace R1 := Lib.hid (show Lines W11 (.slice A1 r1.length r1.length) r1 from Rd.below R1.out hb3)
  replace R2 := Lib.hid (show Offers W11 (.slice A2 r2.length r2.length) r2 from Rd.below R2.out hb3)
  replace P0 := Lib.hid (fun m b => (P0.out m b).below hb3)
  replace P1 := Lib.hid (fun m b => (P1.out m b).below hb3)
  replace P2 := Lib.hid (fun m b => (P2.out m b).below hb3)
  replace K10 := Lib.hid (K10.out.below hb3 K10.out.lt)
  replace Z1 := Lib.hid (Z1.out.trans (hb3.mono Z1.out.size))
  have U0 := Lib.hid (show Partys W11 (.slice D0 r0.length d0) r0 from Rd.below hp0 ba)
  have U1 := Lib.hid (show Lines W11 (.slice D1 r1.length d1) r1 from Rd.below hp1 ba)
  have U2 := Lib.hid (show Offers W11 (.slice D2 r2.length d2) r2 from Rd.below hp2 ba)
  have K11 := Lib.hid (show Blk W11 w11.heap.size 53 #[.slice D0 r0.length d0, .slice D1 r1.length d1, .slice D2 r2.length d2, .int .u64 y3] by rw [hW]; exact Blk.new _ _ _)
  clear hb hb3 ba hp0 hp1 hp2 
  go_upto_region 16 with fail
  rw [← hW]
  clear hW
  have zK6_0 : W11.cell? ⟨w6.heap.size, 0, none⟩ = some (.int .i64 E) := (K6.out.cell 0).trans rfl
  have zK6_1 : W11.cell? ⟨w6.heap.size, 1, none⟩ = some (.int .i64 F) := (K6.out.cell 1).trans rfl
  have zK6_2 : W11.cell? ⟨w6.heap.size, 2, none⟩ = some (.slice Ar G.length G.length) := (K6.out.cell 2).trans rfl
  have zK7_0 : W11.cell? ⟨w7.heap.size, 0, none⟩ = some (.int .i64 E) := (K7.out.cell 0).trans rfl
  have zK7_1 : W11.cell? ⟨w7.heap.size, 1, none⟩ = some (.int .i64 F) := (K7.out.cell 1).trans rfl
  have zK7_2 : W11.cell? ⟨w7.heap.size, 2, none⟩ = some (.slice Aq G.length cq) := (K7.out.cell 2).trans rfl
  go_wp2_with fail
  refine (samer_any E F E F _ _ G G QR.out QR.out _ RR.out RQ.out (by omega)).mono ?_
  rintro e w12 ⟨rfl, hb⟩
  rw [show decide (E = E ∧ F = F ∧ G = G) = true from decide_eq_true ⟨rfl, rfl, rfl⟩]
  have t12 : W11.heap.size ≤ w12.heap.size := hb.size
  clear zK6_0 zK6_1 zK6_2 zK7_0 zK7_1 zK7_2 RR RQ K7
  replace T := Lib.hid (T.out.below hb)
  replace V := Lib.hid (show Bs w12 (.slice VA n VC) xs from Rd.below V.out hb)
  replace VT := Lib.hid (show Bs w12 (.slice (some ⟨g, 0, none⟩) n (n + 2)) xs from Rd.below VT.out hb)
  replace PT := Lib.hid (fun m b => (PT.out m b).below hb)
  replace Pc := Lib.hid (fun m b => (Pc.out m b).below hb)
  replace K3 := Lib.hid (K3.out.below hb K3.out.lt)
  replace Pr := Lib.hid (fun m b => (Pr.out m b).below hb)
  replace K6 := Lib.hid (K6.out.below hb K6.out.lt)
  replace RE := Lib.hid (show Steps w12 (.slice Ae M.length M.length) M from Rd.below RE.out hb)
  replace Pe := Lib.hid (fun m b => (Pe.out m b).below hb)
  replace K8 := Lib.hid (K8.out.below hb K8.out.lt)
  replace RF := Lib.hid (show Steps w12 (.slice Af M.length cf) M from Rd.below RF.out hb)
  replace K9 := Lib.hid (K9.out.below hb K9.out.lt)
  replace R0 := Lib.hid (show Partys w12 (.slice A0 r0.length r0.length) r0 from Rd.below R0.out hb)
  replace R1 := Lib.hid (show Lines w12 (.slice A1 r1.length r1.length) r1 from Rd.below R1.out hb)
  replace R2 := Lib.hid (show Offers w12 (.slice A2 r2.length r2.length) r2 from Rd.below R2.out hb)
  replace P0 := Lib.hid (fun m b => (P0.out m b).below hb)
  replace P1 := Lib.hid (fun m b => (P1.out m b).below hb)
  replace P2 := Lib.hid (fun m b => (P2.out m b).below hb)
  replace K10 := Lib.hid (K10.out.below hb K10.out.lt)
  replace U0 := Lib.hid (show Partys w12 (.slice D0 r0.length d0) r0 from Rd.below U0.out hb)
  replace U1 := Lib.hid (show Lines w12 (.slice D1 r1.length d1) r1 from Rd.below U1.out hb)
  replace U2 := Lib.hid (show Offers w12 (.slice D2 r2.length d2) r2 from Rd.below U2.out hb)
  replace K11 := Lib.hid (K11.out.below hb K11.out.lt)
  replace Z1 := Lib.hid (Z1.out.trans (hb.mono Z1.out.size))
  clear hb
  obtain ⟨Wx, hWx⟩ : ∃ W, W = w12.alloc (.cells (ecells (([x0, x1, x2, x3], M), .slice Ae M.length M.length)).toArray 43) := ⟨_, rfl⟩
  obtain ⟨Wy, hWy⟩ : ∃ W, W = Wx.alloc (.cells (ecells (([x0, x1, x2, x3], M), .slice Af M.length cf)).toArray 43) := ⟨_, rfl⟩
  have bx : Below w12.heap.size w12 Wx := by rw [hWx]; exact below_alloc_ _ _
  have by_ : Below Wx.heap.size Wx Wy := by rw [hWy]; exact below_alloc_ _ _
  have EX := Lib.hid (show Ents Wy (.slice (some ⟨w12.heap.size, 0, none⟩) 1 1) [([x0, x1, x2, x3], M)] from by
    refine Ents.below ?_ by_
    rw [hWx]
    exact Ents.one (e := ([x0, x1, x2, x3], M)) RE.out)
  have EY := Lib.hid (show Ents Wy (.slice (some ⟨w12.heap.size + 1, 0, none⟩) 1 1) [([x0, x1, x2, x3], M)] from by
    have := Ents.one (w := Wx) (e := ([x0, x1, x2, x3], M)) (s := .slice Af M.length cf) (Rd.below RF.out bx)
    rw [← hWy, hWx, World.size_alloc] at this
    exact this)
  have zK8_0 : w12.cell? ⟨w8.heap.size, 0, none⟩ = some (.int .u64 x0) := (K8.out.cell 0).trans rfl
  have zK8_1 : w12.cell? ⟨w8.heap.size, 1, none⟩ = some (.int .u64 x1) := (K8.out.cell 1).trans rfl
  have zK8_2 : w12.cell? ⟨w8.heap.size, 2, none⟩ = some (.int .u8 x2) := (K8.out.cell 2).trans rfl
  have zK8_3 : w12.cell? ⟨w8.heap.size, 3, none⟩ = some (.int .u64 x3) := (K8.out.cell 3).trans rfl
  have zK8_4 : w12.cell? ⟨w8.heap.size, 4, none⟩ = some (.slice Ae M.length M.length) := (K8.out.cell 4).trans rfl
  have hb : Below w12.heap.size w12 Wy := bx.trans (by_.mono bx.size)
  have t13 : w12.heap.size ≤ Wy.heap.size := hb.size
  have K9x := K9.out.below bx K9.out.lt
  clear RE RF
  replace T := Lib.hid (T.out.below hb)
  replace V := Lib.hid (show Bs Wy (.slice VA n VC) xs from Rd.below V.out hb)
  replace VT := Lib.hid (show Bs Wy (.slice (some ⟨g, 0, none⟩) n (n + 2)) xs from Rd.below VT.out hb)
  replace PT := Lib.hid (fun m b => (PT.out m b).below hb)
  replace Pc := Lib.hid (fun m b => (Pc.out m b).below hb)
  replace K3 := Lib.hid (K3.out.below hb K3.out.lt)
  replace Pr := Lib.hid (fun m b => (Pr.out m b).below hb)
  replace K6 := Lib.hid (K6.out.below hb K6.out.lt)
  replace Pe := Lib.hid (fun m b => (Pe.out m b).below hb)
  replace K8 := Lib.hid (K8.out.below hb K8.out.lt)
  replace K9 := Lib.hid (K9.out.below hb K9.out.lt)
  replace R0 := Lib.hid (show Partys Wy (.slice A0 r0.length r0.length) r0 from Rd.below R0.out hb)
  replace R1 := Lib.hid (show Lines Wy (.slice A1 r1.length r1.length) r1 from Rd.below R1.out hb)
  replace R2 := Lib.hid (show Offers Wy (.slice A2 r2.length r2.length) r2 from Rd.below R2.out hb)
  replace P0 := Lib.hid (fun m b => (P0.out m b).below hb)
  replace P1 := Lib.hid (fun m b => (P1.out m b).below hb)
  replace P2 := Lib.hid (fun m b => (P2.out m b).below hb)
  replace K10 := Lib.hid (K10.out.below hb K10.out.lt)
  replace U0 := Lib.hid (show Partys Wy (.slice D0 r0.length d0) r0 from Rd.below U0.out hb)
  replace U1 := Lib.hid (show Lines Wy (.slice D1 r1.length d1) r1 from Rd.below U1.out hb)
  replace U2 := Lib.hid (show Offers Wy (.slice D2 r2.length d2) r2 from Rd.below U2.out hb)
  replace K11 := Lib.hid (K11.out.below hb K11.out.lt)
  replace Z1 := Lib.hid (Z1.out.trans (hb.mono Z1.out.size))
  clear hb K9
  rw [show (ecells (([x0, x1, x2, x3], M), .slice Ae M.length M.length)).toArray = #[.int .u64 x0, .int .u64 x1, .int .u8 x2, .int .u64 x3, .slice Ae M.length M.length] from rfl] at hWx
  rw [show (ecells (([x0, x1, x2, x3], M), .slice Af M.length cf)).toArray = #[.int .u64 x0, .int .u64 x1, .int .u8 x2, .int .u64 x3, .slice Af M.length cf] from rfl] at hWy
  have zX_0 : (w12.alloc (.cells #[.int .u64 x0, .int .u64 x1, .int .u8 x2, .int .u64 x3, .slice Ae M.length M.length] 43)).cell? ⟨w9.heap.size, 0, none⟩ = some (.int .u64 x0) := by rw [← hWx]; exact (K9x.cell 0).trans rfl
  have zX_1 : (w12.alloc (.cells #[.int .u64 x0, .int .u64 x1, .int .u8 x2, .int .u64 x3, .slice Ae M.length M.length] 43)).cell? ⟨w9.heap.size, 1, none⟩ = some (.int .u64 x1) := by rw [← hWx]; exact (K9x.cell 1).trans rfl
  have zX_2 : (w12.alloc (.cells #[.int .u64 x0, .int .u64 x1, .int .u8 x2, .int .u64 x3, .slice Ae M.length M.length] 43)).cell? ⟨w9.heap.size, 2, none⟩ = some (.int .u8 x2) := by rw [← hWx]; exact (K9x.cell 2).trans rfl
  have zX_3 : (w12.alloc (.cells #[.int .u64 x0, .int .u64 x1, .int .u8 x2, .int .u64 x3, .slice Ae M.length M.length] 43)).cell? ⟨w9.heap.size, 3, none⟩ = some (.int .u64 x3) := by rw [← hWx]; exact (K9x.cell 3).trans rfl
  have zX_4 : (w12.alloc (.cells #[.int .u64 x0, .int .u64 x1, .int .u8 x2, .int .u64 x3, .slice Ae M.length M.length] 43)).cell? ⟨w9.heap.size, 4, none⟩ = some (.slice Af M.length cf) := by rw [← hWx]; exact (K9x.cell 4).trans rfl
  clear K9x
  go_wp2_with fail
  rw [← hWx, ← hWy]
  clear hWx hWy bx by_ zK8_0 zK8_1 zK8_2 zK8_3 zK8_4 zX_0 zX_1 zX_2 zX_3 zX_4
  refine (samees_any [([x0, x1, x2, x3], M)] (by
      intro e he
      obtain rfl := List.mem_singleton.1 he
      exact ⟨rfl, (by have := lE; simp only; omega), QE.out⟩) _ _ _ EX.out EY.out (by simp)).mono ?_
  rintro e w14 ⟨rfl, hb⟩
  have t14 : Wy.heap.size ≤ w14.heap.size := hb.size
  clear EX EY
  replace T := Lib.hid (T.out.below hb)
  replace V := Lib.hid (show Bs w14 (.slice VA n VC) xs from Rd.below V.out hb)
  replace VT := Lib.hid (show Bs w14 (.slice (some ⟨g, 0, none⟩) n (n + 2)) xs from Rd.below VT.out hb)
  replace PT := Lib.hid (fun m b => (PT.out m b).below hb)
  replace Pc := Lib.hid (fun m b => (Pc.out m b).below hb)
  replace K3 := Lib.hid (K3.out.below hb K3.out.lt)
  replace Pr := Lib.hid (fun m b => (Pr.out m b).below hb)
  replace K6 := Lib.hid (K6.out.below hb K6.out.lt)
  replace Pe := Lib.hid (fun m b => (Pe.out m b).below hb)
  replace K8 := Lib.hid (K8.out.below hb K8.out.lt)
  replace R0 := Lib.hid (show Partys w14 (.slice A0 r0.length r0.length) r0 from Rd.below R0.out hb)
  replace R1 := Lib.hid (show Lines w14 (.slice A1 r1.length r1.length) r1 from Rd.below R1.out hb)
  replace R2 := Lib.hid (show Offers w14 (.slice A2 r2.length r2.length) r2 from Rd.below R2.out hb)
  replace P0 := Lib.hid (fun m b => (P0.out m b).below hb)
  replace P1 := Lib.hid (fun m b => (P1.out m b).below hb)
  replace P2 := Lib.hid (fun m b => (P2.out m b).below hb)
  replace K10 := Lib.hid (K10.out.below hb K10.out.lt)
  replace U0 := Lib.hid (show Partys w14 (.slice D0 r0.length d0) r0 from Rd.below U0.out hb)
  replace U1 := Lib.hid (show Lines w14 (.slice D1 r1.length d1) r1 from Rd.below U1.out hb)
  replace U2 := Lib.hid (show Offers w14 (.slice D2 r2.length d2) r2 from Rd.below U2.out hb)
  replace K11 := Lib.hid (K11.out.below hb K11.out.lt)
  replace Z1 := Lib.hid (Z1.out.trans (hb.mono Z1.out.size))
  clear hb
  have zK10_0 : w14.cell? ⟨w10.heap.size, 0, none⟩ = some (.slice A0 r0.length r0.length) := (K10.out.cell 0).trans rfl
  have zK10_1 : w14.cell? ⟨w10.heap.size, 1, none⟩ = some (.slice A1 r1.length r1.length) := (K10.out.cell 1).trans rfl
  have zK10_2 : w14.cell? ⟨w10.heap.size, 2, none⟩ = some (.slice A2 r2.length r2.length) := (K10.out.cell 2).trans rfl
  have zK10_3 : w14.cell? ⟨w10.heap.size, 3, none⟩ = some (.int .u64 y3) := (K10.out.cell 3).trans rfl
  have zK11_0 : w14.cell? ⟨w11.heap.size, 0, none⟩ = some (.slice D0 r0.length d0) := (K11.out.cell 0).trans rfl
  have zK11_1 : w14.cell? ⟨w11.heap.size, 1, none⟩ = some (.slice D1 r1.length d1) := (K11.out.cell 1).trans rfl
  have zK11_2 : w14.cell? ⟨w11.heap.size, 2, none⟩ = some (.slice D2 r2.length d2) := (K11.out.cell 2).trans rfl
  have zK11_3 : w14.cell? ⟨w11.heap.size, 3, none⟩ = some (.int .u64 y3) := (K11.out.cell 3).trans rfl
  go_wp2_with fail
  refine (ss_any _ _ _ r0 r1 r2 _ _ _ y3 Q0.out Q1.out Q2.out _ R0.out R1.out R2.out U0.out U1.out U2.out (by omega) (by omega) (by omega)).mono ?_
  rintro e w15 ⟨rfl, hb⟩
  have t15 : w14.heap.size ≤ w15.heap.size := hb.size
  clear R0 R1 R2 U0 U1 U2 K11 zK10_0 zK10_1 zK10_2 zK10_3 zK11_0 zK11_1 zK11_2 zK11_3
  replace T := Lib.hid (T.out.below hb)
  replace V := Lib.hid (show Bs w15 (.slice VA n VC) xs from Rd.below V.out hb)
  replace VT := Lib.hid (show Bs w15 (.slice (some ⟨g, 0, none⟩) n (n + 2)) xs from Rd.below VT.out hb)
  replace PT := Lib.hid (fun m b => (PT.out m b).below hb)
  replace Pc := Lib.hid (fun m b => (Pc.out m b).below hb)
  replace K3 := Lib.hid (K3.out.below hb K3.out.lt)
  replace Pr := Lib.hid (fun m b => (Pr.out m b).below hb)
  replace K6 := Lib.hid (K6.out.below hb K6.out.lt)
  replace Pe := Lib.hid (fun m b => (Pe.out m b).below hb)
  replace K8 := Lib.hid (K8.out.below hb K8.out.lt)
  replace P0 := Lib.hid (fun m b => (P0.out m b).below hb)
  replace P1 := Lib.hid (fun m b => (P1.out m b).below hb)
  replace P2 := Lib.hid (fun m b => (P2.out m b).below hb)
  replace K10 := Lib.hid (K10.out.below hb K10.out.lt)
  replace Z1 := Lib.hid (Z1.out.trans (hb.mono Z1.out.size))
  clear hb
  go_wp2_with fail
  refine (Left_byte w.heap.size _ _ xs _ (by rw [← HN.out]; exact T.out) V.out (by omega)).mono ?_
  rintro e w16 ⟨rfl, hb⟩
  have t16 : w15.heap.size ≤ w16.heap.size := hb.size
  clear T V VT
  replace PT := Lib.hid (fun m b => (PT.out m b).below hb)
  replace Pc := Lib.hid (fun m b => (Pc.out m b).below hb)
  replace K3 := Lib.hid (K3.out.below hb K3.out.lt)
  replace Pr := Lib.hid (fun m b => (Pr.out m b).below hb)
  replace K6 := Lib.hid (K6.out.below hb K6.out.lt)
  replace Pe := Lib.hid (fun m b => (Pe.out m b).below hb)
  replace K8 := Lib.hid (K8.out.below hb K8.out.lt)
  replace P0 := Lib.hid (fun m b => (P0.out m b).below hb)
  replace P1 := Lib.hid (fun m b => (P1.out m b).below hb)
  replace P2 := Lib.hid (fun m b => (P2.out m b).below hb)
  replace K10 := Lib.hid (K10.out.below hb K10.out.lt)
  replace Z1 := Lib.hid (Z1.out.trans (hb.mono Z1.out.size))
  clear hb
  have B16 : Below w.heap.size w w16 := BW.out.trans (Z1.out.mono BW.out.size)
  have M0 := Lib.hid (Bks.new_ B16 B16.size)
  replace PT := Lib.hid (fun m b => (PT.out m b).keepA (.cells #[.slice none 0 0] 63))
  replace Pc := Lib.hid (fun m b => (Pc.out m b).keepA (.cells #[.slice none 0 0] 63))
  replace Pr := Lib.hid (fun m b => (Pr.out m b).keepA (.cells #[.slice none 0 0] 63))
  replace Pe := Lib.hid (fun m b => (Pe.out m b).keepA (.cells #[.slice none 0 0] 63))
  replace P0 := Lib.hid (fun m b => (P0.out m b).keepA (.cells #[.slice none 0 0] 63))
  replace P1 := Lib.hid (fun m b => (P1.out m b).keepA (.cells #[.slice none 0 0] 63))
  replace P2 := Lib.hid (fun m b => (P2.out m b).keepA (.cells #[.slice none 0 0] 63))
  replace K3 := Lib.hid (K3.out.alloc (.cells #[.slice none 0 0] 63))
  replace K6 := Lib.hid (K6.out.alloc (.cells #[.slice none 0 0] 63))
  replace K8 := Lib.hid (K8.out.alloc (.cells #[.slice none 0 0] 63))
  replace K10 := Lib.hid (K10.out.alloc (.cells #[.slice none 0 0] 63))
  clear B16 Z1
  go_wp2_with fail
  refine (add_byte [] _ _ _ _ _ M0.out (by simp) (some (g, n, n + 2))).mono ?_
  rintro e v1 ⟨rfl, pv1, m1, b1, em1, eb1, hM, hk⟩
  have M1 := Lib.hid (show Bks [⟨0, some (g, n, n + 2), m1, b1⟩] _ _ _ _ _ from hM)
  replace PT := Lib.hid ((PT.out m1 b1).keep hk)
  replace Pc := Lib.hid (fun m b => (Pc.out m b).keep hk)
  replace Pr := Lib.hid (fun m b => (Pr.out m b).keep hk)
  replace Pe := Lib.hid (fun m b => (Pe.out m b).keep hk)
  replace P0 := Lib.hid (fun m b => (P0.out m b).keep hk)
  replace P1 := Lib.hid (fun m b => (P1.out m b).keep hk)
  replace P2 := Lib.hid (fun m b => (P2.out m b).keep hk)
  replace K3 := Lib.hid (hk _ _ _ (by decide) (by decide) K3.out)
  replace K6 := Lib.hid (hk _ _ _ (by decide) (by decide) K6.out)
  replace K8 := Lib.hid (hk _ _ _ (by decide) (by decide) K8.out)
  replace K10 := Lib.hid (hk _ _ _ (by decide) (by decide) K10.out)
  clear hM hk M0 
  have zK3_0 : v1.cell? ⟨w3.heap.size, 0, none⟩ = some (.slice Ac L.length L.length) := (K3.out.cell 0).trans rfl
  go_wp2_with fail
  rw [HLc.out]
  refine (add_step _ _ _ _ _ _ M1.out (by simp) (lc)).mono ?_
  rintro e v2 ⟨rfl, pv2, m2, b2, em2, eb2, hM, hk⟩
  have M2 := Lib.hid (show Bks [⟨0, some (g, n, n + 2), m1, b1⟩, ⟨1, lc, m2, b2⟩] _ _ _ _ _ from hM)
  replace PT := Lib.hid (PT.out.keep hk)
  replace Pc := Lib.hid ((Pc.out m2 b2).keep hk)
  replace Pr := Lib.hid (fun m b => (Pr.out m b).keep hk)
  replace Pe := Lib.hid (fun m b => (Pe.out m b).keep hk)
  replace P0 := Lib.hid (fun m b => (P0.out m b).keep hk)
  replace P1 := Lib.hid (fun m b => (P1.out m b).keep hk)
  replace P2 := Lib.hid (fun m b => (P2.out m b).keep hk)
  replace K3 := Lib.hid (hk _ _ _ (by decide) (by decide) K3.out)
  replace K6 := Lib.hid (hk _ _ _ (by decide) (by decide) K6.out)
  replace K8 := Lib.hid (hk _ _ _ (by decide) (by decide) K8.out)
  replace K10 := Lib.hid (hk _ _ _ (by decide) (by decide) K10.out)
  clear hM hk M1 zK3_0
  have zK6_0 : v2.cell? ⟨w6.heap.size, 0, none⟩ = some (.int .i64 E) := (K6.out.cell 0).trans rfl
  have zK6_1 : v2.cell? ⟨w6.heap.size, 1, none⟩ = some (.int .i64 F) := (K6.out.cell 1).trans rfl
  have zK6_2 : v2.cell? ⟨w6.heap.size, 2, none⟩ = some (.slice Ar G.length G.length) := (K6.out.cell 2).trans rfl
  go_wp2_with fail
  rw [HLr.out]
  refine (add_got _ _ _ _ _ _ M2.out (by simp) (lr)).mono ?_
  rintro e v3 ⟨rfl, pv3, m3, b3, em3, eb3, hM, hk⟩
  have M3 := Lib.hid (show Bks [⟨0, some (g, n, n + 2), m1, b1⟩, ⟨1, lc, m2, b2⟩, ⟨2, lr, m3, b3⟩] _ _ _ _ _ from hM)
  replace PT := Lib.hid (PT.out.keep hk)
  replace Pc := Lib.hid (Pc.out.keep hk)
  replace Pr := Lib.hid ((Pr.out m3 b3).keep hk)
  replace Pe := Lib.hid (fun m b => (Pe.out m b).keep hk)
  replace P0 := Lib.hid (fun m b => (P0.out m b).keep hk)
  replace P1 := Lib.hid (fun m b => (P1.out m b).keep hk)
  replace P2 := Lib.hid (fun m b => (P2.out m b).keep hk)
  replace K3 := Lib.hid (hk _ _ _ (by decide) (by decide) K3.out)
  replace K6 := Lib.hid (hk _ _ _ (by decide) (by decide) K6.out)
  replace K8 := Lib.hid (hk _ _ _ (by decide) (by decide) K8.out)
  replace K10 := Lib.hid (hk _ _ _ (by decide) (by decide) K10.out)
  clear hM hk M2 zK6_0 zK6_1 zK6_2
  have zK8_0 : v3.cell? ⟨w8.heap.size, 0, none⟩ = some (.int .u64 x0) := (K8.out.cell 0).trans rfl
  have zK8_1 : v3.cell? ⟨w8.heap.size, 1, none⟩ = some (.int .u64 x1) := (K8.out.cell 1).trans rfl
  have zK8_2 : v3.cell? ⟨w8.heap.size, 2, none⟩ = some (.int .u8 x2) := (K8.out.cell 2).trans rfl
  have zK8_3 : v3.cell? ⟨w8.heap.size, 3, none⟩ = some (.int .u64 x3) := (K8.out.cell 3).trans rfl
  have zK8_4 : v3.cell? ⟨w8.heap.size, 4, none⟩ = some (.slice Ae M.length M.length) := (K8.out.cell 4).trans rfl
  go_wp2_with fail
  rw [HLe.out]
  refine (add_step _ _ _ _ _ _ M3.out (by simp) (le)).mono ?_
  rintro e v4 ⟨rfl, pv4, m4, b4, em4, eb4, hM, hk⟩
  have M4 := Lib.hid (show Bks [⟨0, some (g, n, n + 2), m1, b1⟩, ⟨1, lc, m2, b2⟩, ⟨2, lr, m3, b3⟩, ⟨1, le, m4, b4⟩] _ _ _ _ _ from hM)
  replace PT := Lib.hid (PT.out.keep hk)
  replace Pc := Lib.hid (Pc.out.keep hk)
  replace Pr := Lib.hid (Pr.out.keep hk)
  replace Pe := Lib.hid ((Pe.out m4 b4).keep hk)
  replace P0 := Lib.hid (fun m b => (P0.out m b).keep hk)
  replace P1 := Lib.hid (fun m b => (P1.out m b).keep hk)
  replace P2 := Lib.hid (fun m b => (P2.out m b).keep hk)
  replace K3 := Lib.hid (hk _ _ _ (by decide) (by decide) K3.out)
  replace K6 := Lib.hid (hk _ _ _ (by decide) (by decide) K6.out)
  replace K8 := Lib.hid (hk _ _ _ (by decide) (by decide) K8.out)
  replace K10 := Lib.hid (hk _ _ _ (by decide) (by decide) K10.out)
  clear hM hk M3 zK8_0 zK8_1 zK8_2 zK8_3 zK8_4
  have zK10_0 : v4.cell? ⟨w10.heap.size, 0, none⟩ = some (.slice A0 r0.length r0.length) := (K10.out.cell 0).trans rfl
  have zK10_1 : v4.cell? ⟨w10.heap.size, 1, none⟩ = some (.slice A1 r1.length r1.length) := (K10.out.cell 1).trans rfl
  have zK10_2 : v4.cell? ⟨w10.heap.size, 2, none⟩ = some (.slice A2 r2.length r2.length) := (K10.out.cell 2).trans rfl
  have zK10_3 : v4.cell? ⟨w10.heap.size, 3, none⟩ = some (.int .u64 y3) := (K10.out.cell 3).trans rfl
  go_wp2_with fail
  rw [HL0.out]
  refine (add_party _ _ _ _ _ _ M4.out (by simp) (l0)).mono ?_
  rintro e v5 ⟨rfl, pv5, m5, b5, em5, eb5, hM, hk⟩
  have M5 := Lib.hid (show Bks [⟨0, some (g, n, n + 2), m1, b1⟩, ⟨1, lc, m2, b2⟩, ⟨2, lr, m3, b3⟩, ⟨1, le, m4, b4⟩, ⟨3, l0, m5, b5⟩] _ _ _ _ _ from hM)
  replace PT := Lib.hid (PT.out.keep hk)
  replace Pc := Lib.hid (Pc.out.keep hk)
  replace Pr := Lib.hid (Pr.out.keep hk)
  replace Pe := Lib.hid (Pe.out.keep hk)
  replace P0 := Lib.hid ((P0.out m5 b5).keep hk)
  replace P1 := Lib.hid (fun m b => (P1.out m b).keep hk)
  replace P2 := Lib.hid (fun m b => (P2.out m b).keep hk)
  replace K3 := Lib.hid (hk _ _ _ (by decide) (by decide) K3.out)
  replace K6 := Lib.hid (hk _ _ _ (by decide) (by decide) K6.out)
  replace K8 := Lib.hid (hk _ _ _ (by decide) (by decide) K8.out)
  replace K10 := Lib.hid (hk _ _ _ (by decide) (by decide) K10.out)
  clear hM hk M4 zK10_0 zK10_1 zK10_2 zK10_3
  have zK10_0 : v5.cell? ⟨w10.heap.size, 0, none⟩ = some (.slice A0 r0.length r0.length) := (K10.out.cell 0).trans rfl
  have zK10_1 : v5.cell? ⟨w10.heap.size, 1, none⟩ = some (.slice A1 r1.length r1.length) := (K10.out.cell 1).trans rfl
  have zK10_2 : v5.cell? ⟨w10.heap.size, 2, none⟩ = some (.slice A2 r2.length r2.length) := (K10.out.cell 2).trans rfl
  have zK10_3 : v5.cell? ⟨w10.heap.size, 3, none⟩ = some (.int .u64 y3) := (K10.out.cell 3).trans rfl
  go_wp2_with fail
  rw [HL1.out]
  refine (add_line _ _ _ _ _ _ M5.out (by simp) (l1)).mono ?_
  rintro e v6 ⟨rfl, pv6, m6, b6, em6, eb6, hM, hk⟩
  have M6 := Lib.hid (show Bks [⟨0, some (g, n, n + 2), m1, b1⟩, ⟨1, lc, m2, b2⟩, ⟨2, lr, m3, b3⟩, ⟨1, le, m4, b4⟩, ⟨3, l0, m5, b5⟩, ⟨4, l1, m6, b6⟩] _ _ _ _ _ from hM)
  replace PT := Lib.hid (PT.out.keep hk)
  replace Pc := Lib.hid (Pc.out.keep hk)
  replace Pr := Lib.hid (Pr.out.keep hk)
  replace Pe := Lib.hid (Pe.out.keep hk)
  replace P0 := Lib.hid (P0.out.keep hk)
  replace P1 := Lib.hid ((P1.out m6 b6).keep hk)
  replace P2 := Lib.hid (fun m b => (P2.out m b).keep hk)
  replace K3 := Lib.hid (hk _ _ _ (by decide) (by decide) K3.out)
  replace K6 := Lib.hid (hk _ _ _ (by decide) (by decide) K6.out)
  replace K8 := Lib.hid (hk _ _ _ (by decide) (by decide) K8.out)
  replace K10 := Lib.hid (hk _ _ _ (by decide) (by decide) K10.out)
  clear hM hk M5 zK10_0 zK10_1 zK10_2 zK10_3
  have zK10_0 : v6.cell? ⟨w10.heap.size, 0, none⟩ = some (.slice A0 r0.length r0.length) := (K10.out.cell 0).trans rfl
  have zK10_1 : v6.cell? ⟨w10.heap.size, 1, none⟩ = some (.slice A1 r1.length r1.length) := (K10.out.cell 1).trans rfl
  have zK10_2 : v6.cell? ⟨w10.heap.size, 2, none⟩ = some (.slice A2 r2.length r2.length) := (K10.out.cell 2).trans rfl
  have zK10_3 : v6.cell? ⟨w10.heap.size, 3, none⟩ = some (.int .u64 y3) := (K10.out.cell 3).trans rfl
  go_wp2_with fail
  rw [HL2.out]
  refine (add_offer _ _ _ _ _ _ M6.out (by simp) (l2)).mono ?_
  rintro e v7 ⟨rfl, pv7, m7, b7, em7, eb7, hM, hk⟩
  have M7 := Lib.hid (show Bks [⟨0, some (g, n, n + 2), m1, b1⟩, ⟨1, lc, m2, b2⟩, ⟨2, lr, m3, b3⟩, ⟨1, le, m4, b4⟩, ⟨3, l0, m5, b5⟩, ⟨4, l1, m6, b6⟩, ⟨5, l2, m7, b7⟩] _ _ _ _ _ from hM)
  replace PT := Lib.hid (PT.out.keep hk)
  replace Pc := Lib.hid (Pc.out.keep hk)
  replace Pr := Lib.hid (Pr.out.keep hk)
  replace Pe := Lib.hid (Pe.out.keep hk)
  replace P0 := Lib.hid (P0.out.keep hk)
  replace P1 := Lib.hid (P1.out.keep hk)
  replace P2 := Lib.hid ((P2.out m7 b7).keep hk)
  replace K3 := Lib.hid (hk _ _ _ (by decide) (by decide) K3.out)
  replace K6 := Lib.hid (hk _ _ _ (by decide) (by decide) K6.out)
  replace K8 := Lib.hid (hk _ _ _ (by decide) (by decide) K8.out)
  replace K10 := Lib.hid (hk _ _ _ (by decide) (by decide) K10.out)
  clear hM hk M6 zK10_0 zK10_1 zK10_2 zK10_3
  go_wp2_with fail
  refine (apart_any [⟨0, some (g, n, n + 2), m1, b1⟩, ⟨1, lc, m2, b2⟩, ⟨2, lr, m3, b3⟩, ⟨1, le, m4, b4⟩, ⟨3, l0, m5, b5⟩, ⟨4, l1, m6, b6⟩, ⟨5, l2, m7, b7⟩] (by
      intro p hp
      simp only [List.mem_cons, List.not_mem_nil, or_false] at hp
      rcases hp with rfl | rfl | rfl | rfl | rfl | rfl | rfl
      · exact ⟨(show (0 : Nat) < 6 by decide), em1, eb1⟩
      · exact ⟨(show (1 : Nat) < 6 by decide), em2, eb2⟩
      · exact ⟨(show (2 : Nat) < 6 by decide), em3, eb3⟩
      · exact ⟨(show (1 : Nat) < 6 by decide), em4, eb4⟩
      · exact ⟨(show (3 : Nat) < 6 by decide), em5, eb5⟩
      · exact ⟨(show (4 : Nat) < 6 by decide), em6, eb6⟩
      · exact ⟨(show (5 : Nat) < 6 by decide), em7, eb7⟩) (by
      intro i j hi hj hij g hg
      have hi' : i = 0 ∨ i = 1 ∨ i = 2 ∨ i = 3 ∨ i = 4 ∨ i = 5 ∨ i = 6 := by simp at hi; omega
      have hj' : j = 0 ∨ j = 1 ∨ j = 2 ∨ j = 3 ∨ j = 4 ∨ j = 5 ∨ j = 6 := by simp at hj; omega
      rcases hi' with rfl | rfl | rfl | rfl | rfl | rfl | rfl <;> rcases hj' with rfl | rfl | rfl | rfl | rfl | rfl | rfl
      · exact absurd rfl hij
      · intro hg2; have q1 := GT.out g hg; have q2 := Gc.out g hg2; omega
      · intro hg2; have q1 := GT.out g hg; have q2 := Gr.out g hg2; omega
      · intro hg2; have q1 := GT.out g hg; have q2 := Ge.out g hg2; omega
      · intro hg2; have q1 := GT.out g hg; have q2 := G0.out g hg2; omega
      · intro hg2; have q1 := GT.out g hg; have q2 := G1.out g hg2; omega
      · intro hg2; have q1 := GT.out g hg; have q2 := G2.out g hg2; omega
      · intro hg2; have q1 := Gc.out g hg; have q2 := GT.out g hg2; omega
      · exact absurd rfl hij
      · intro hg2; have q1 := Gc.out g hg; have q2 := Gr.out g hg2; omega
      · intro hg2; have q1 := Gc.out g hg; have q2 := Ge.out g hg2; omega
      · intro hg2; have q1 := Gc.out g hg; have q2 := G0.out g hg2; omega
      · intro hg2; have q1 := Gc.out g hg; have q2 := G1.out g hg2; omega
      · intro hg2; have q1 := Gc.out g hg; have q2 := G2.out g hg2; omega
      · intro hg2; have q1 := Gr.out g hg; have q2 := GT.out g hg2; omega
      · intro hg2; have q1 := Gr.out g hg; have q2 := Gc.out g hg2; omega
      · exact absurd rfl hij
      · intro hg2; have q1 := Gr.out g hg; have q2 := Ge.out g hg2; omega
      · intro hg2; have q1 := Gr.out g hg; have q2 := G0.out g hg2; omega
      · intro hg2; have q1 := Gr.out g hg; have q2 := G1.out g hg2; omega
      · intro hg2; have q1 := Gr.out g hg; have q2 := G2.out g hg2; omega
      · intro hg2; have q1 := Ge.out g hg; have q2 := GT.out g hg2; omega
      · intro hg2; have q1 := Ge.out g hg; have q2 := Gc.out g hg2; omega
      · intro hg2; have q1 := Ge.out g hg; have q2 := Gr.out g hg2; omega
      · exact absurd rfl hij
      · intro hg2; have q1 := Ge.out g hg; have q2 := G0.out g hg2; omega
      · intro hg2; have q1 := Ge.out g hg; have q2 := G1.out g hg2; omega
      · intro hg2; have q1 := Ge.out g hg; have q2 := G2.out g hg2; omega
      · intro hg2; have q1 := G0.out g hg; have q2 := GT.out g hg2; omega
      · intro hg2; have q1 := G0.out g hg; have q2 := Gc.out g hg2; omega
      · intro hg2; have q1 := G0.out g hg; have q2 := Gr.out g hg2; omega
      · intro hg2; have q1 := G0.out g hg; have q2 := Ge.out g hg2; omega
      · exact absurd rfl hij
      · exact N01.out g hg
      · exact N02.out g hg
      · intro hg2; have q1 := G1.out g hg; have q2 := GT.out g hg2; omega
      · intro hg2; have q1 := G1.out g hg; have q2 := Gc.out g hg2; omega
      · intro hg2; have q1 := G1.out g hg; have q2 := Gr.out g hg2; omega
      · intro hg2; have q1 := G1.out g hg; have q2 := Ge.out g hg2; omega
      · exact fun hg2 => N01.out g hg2 hg
      · exact absurd rfl hij
      · exact N12.out g hg
      · intro hg2; have q1 := G2.out g hg; have q2 := GT.out g hg2; omega
      · intro hg2; have q1 := G2.out g hg; have q2 := Gc.out g hg2; omega
      · intro hg2; have q1 := G2.out g hg; have q2 := Gr.out g hg2; omega
      · intro hg2; have q1 := G2.out g hg; have q2 := Ge.out g hg2; omega
      · exact fun hg2 => N02.out g hg2 hg
      · exact fun hg2 => N12.out g hg2 hg
      · exact absurd rfl hij) (by simp) _ _ w.heap.size _ (by
      intro p hp g hg
      have hBW := BW.out.size
      simp only [List.mem_cons, List.not_mem_nil, or_false] at hp
      rcases hp with rfl | rfl | rfl | rfl | rfl | rfl | rfl
      · have q1 := GT.out g hg; omega
      · have q1 := Gc.out g hg; omega
      · have q1 := Gr.out g hg; omega
      · have q1 := Ge.out g hg; omega
      · have q1 := G0.out g hg; omega
      · have q1 := G1.out g hg; omega
      · have q1 := G2.out g hg; omega) M7.out.bk (M7.out.ow.le (Nat.zero_le _)) (by
      intro p hp
      simp only [List.mem_cons, List.not_mem_nil, or_false] at hp
      rcases hp with rfl | rfl | rfl | rfl | rfl | rfl | rfl
      · exact PT.out
      · exact Pc.out
      · exact Pr.out
      · exact Pe.out
      · exact P0.out
      · exact P1.out
      · exact P2.out) M7.out.le).mono ?_
  rintro e w18 ⟨rfl, hb⟩
  have B18 := Lib.hid (M7.out.bel.trans hb)
  clear hb M7
  go_wp2_with fail
  refine (plives _).mono ?_
  rintro e w19 ⟨rfl, hb⟩
  have B19 := Lib.hid (B18.out.trans (hb.mono B18.out.size))
  clear hb
  go_wp2
  go_ret
  exact ⟨rfl, B19.out⟩
theorem get_walk (v : Value) (xs : List Int) (w : World) (h : Bs w v xs) (hby : ∀ c ∈ xs, byt c) (hl : xs.length ≤ 9223372036854775807) :
    Calls Tryz.prog 3 #[v] w fun e w' => e = .returned (.bool true) ∧ Below w.heap.size w w' := by
  by_cases h5 : 5000 < xs.length
  · exact get_great v xs w h h5 hl
  · exact get_small v xs w h hby (by omega)
end Go.Proofs.YtielnocnnffdfaaGreat
