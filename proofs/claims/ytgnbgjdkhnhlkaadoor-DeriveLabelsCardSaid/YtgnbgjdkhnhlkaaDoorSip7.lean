/-
  SipHash with 128 bits: block.Fold, sip.end, sip.One.
-/
import Derived.Test.YtgnbgjdkhnhlkaaDoorSip6
namespace Go.Proofs.YtgnbgjdkhnhlkaaDoor
open Go.RowKit
set_option linter.unusedVariables false
set_option linter.unusedSimpArgs false

/-- v[k:], cells of one -/
theorem Rd.rest {w : World} {sa : Option Addr} {n cap : Nat} {cs : List Value} (h : Rd w 1 (.slice sa n cap) n cs) {k : Nat} (hk : k ≤ n) :
    Rd w 1 (.slice (if cap = k then sa else sa.map (·.add k)) (n - k) (cap - k)) (n - k) (cs.drop k) := by
  have hc := h.cap_le.1
  obtain ⟨h1, h2, sa', cap', hv, hcc, h3⟩ := h
  cases hv
  refine ⟨by rw [List.length_drop, h1]; omega, by omega, _, _, rfl, by omega, ?_⟩
  by_cases h0 : n = k
  · exact .inl (by omega)
  · rcases h3 with h3 | ⟨b, off, rfl, h5⟩
    · omega
    · rw [if_neg (by omega)]
      refine .inr ⟨b, off + k, by simp [Addr.add_lit], fun i u hu => ?_⟩
      rw [List.getElem?_drop] at hu
      have := h5 _ _ hu
      rw [Nat.add_assoc]
      exact this

theorem Byt.drop {l : List Nat} (h : Byt l) (k : Nat) : Byt (l.drop k) := fun b hb => h b (List.mem_of_mem_drop hb)
theorem Byt.take {l : List Nat} (h : Byt l) (k : Nat) : Byt (l.take k) := fun b hb => h b (List.mem_of_mem_take hb)

/-- one block more -/
theorem sipBl_step (r : List Nat) (v : V4) (h : 8 ≤ r.length) :
    sipBl (r.length / 8) v r = sipBl ((r.drop 8).length / 8) (sipW (leN (r.take 8)) v) (r.drop 8) ∧ r.drop (r.length / 8 * 8) = (r.drop 8).drop ((r.drop 8).length / 8 * 8) := by
  have e : r.length / 8 = (r.length - 8) / 8 + 1 := by omega
  rw [List.length_drop]
  constructor
  · rw [e]; rfl
  · rw [List.drop_drop]; congr 1; omega

theorem le8_lt (l : List Nat) (hl : Byt l) : leN (l.take 8) < 18446744073709551616 := by
  have h := leN_lt (l.take 8) fun b hb => hl b (List.mem_of_mem_take hb)
  refine Nat.lt_of_lt_of_le h (Nat.le_trans (Nat.pow_le_pow_right (by decide) (show _ ≤ 8 from ?_)) (by decide))
  rw [List.length_take]; omega
theorem le7_lt (l : List Nat) (hl : Byt l) (h7 : l.length ≤ 7) : leN l < 72057594037927936 := by
  have h := leN_lt l hl
  exact Nat.lt_of_lt_of_le h (Nat.le_trans (Nat.pow_le_pow_right (by decide) h7) (by decide))

set_option maxRecDepth 100000 in
set_option maxHeartbeats 2000000 in
theorem sized_8 (w : World) :
    Calls Tryd.prog 38 #[.int .i64 8] w fun e w' => e = .returned (.int .i64 8) ∧ w' = w := by
  go_enter Tryd.func38, Tryd.ntmps38
  go_wp2
  go_ret
  exact ⟨rfl, rfl⟩

theorem qstep : ∀ (w : World) (fn : Fn) (fi ca : Array Value), (binOp .neq 60 (.func fn fi ca) .nilFunc).run Tryd.prog w = .ok (.bool true) w :=
  fun w fn fi ca => run_neq_func_nil w _ fn fi ca Tryd.underlying60

set_option maxRecDepth 100000 in
set_option maxHeartbeats 2000000 in
theorem stepped_any (w : World) (fn : Fn) (fi ca : Array Value) :
    Calls Tryd.prog 39 #[.func fn fi ca] w fun e w' => e = .returned (.func fn fi ca) ∧ w' = w := by
  have hf := qstep
  go_enter Tryd.func39, Tryd.ntmps39
  go_wp2
  go_ret
  exact ⟨rfl, rfl⟩

theorem Lan.size {w0 wx : World} {a b c d : Nat} (h : Lan w0 wx a b c d) : w0.heap.size + 2 ≤ wx.heap.size := block_lt h.res
/-- the four stores of the result: what lies there then -/
theorem Lan.res4 {w0 wx : World} {a b c d : Nat} (h : Lan w0 wx a b c d) (x y z u : Nat) :
    ((((wx.setCell ⟨w0.heap.size + 1, 0, none⟩ (.int .u64 (x : Int))).setCell ⟨w0.heap.size + 1, 1, none⟩ (.int .u64 (y : Int))).setCell ⟨w0.heap.size + 1, 2, none⟩ (.int .u64 (z : Int))).setCell ⟨w0.heap.size + 1, 3, none⟩ (.int .u64 (u : Int))).heap[w0.heap.size + 1]? = some (.cells #[.int .u64 (x : Int), .int .u64 (y : Int), .int .u64 (z : Int), .int .u64 (u : Int)] 56 (0, 0)) :=
  set_of (set_of (set_of (set_of h.res 0 _) 1 _) 2 _) 3 _
theorem row_ends {w0 wx : World} {B : Nat} {e : TypeId} {v : Value} {n : Nat} {cs : List Value} (h : wx.ownsRow B e 1 v n cs) (hB : w0.heap.size + 2 ≤ B) (v0 v1 v2 v3 : Value) :
    ((((wx.setCell ⟨w0.heap.size + 1, 0, none⟩ v0).setCell ⟨w0.heap.size + 1, 1, none⟩ v1).setCell ⟨w0.heap.size + 1, 2, none⟩ v2).setCell ⟨w0.heap.size + 1, 3, none⟩ v3).ownsRow B e 1 v n cs :=
  row_kept h fun g hg => by
    have := (h.lt g hg).1
    rw [Below.heap_setCell _ _ _ _ (by simp; omega), Below.heap_setCell _ _ _ _ (by simp; omega), Below.heap_setCell _ _ _ _ (by simp; omega), Below.heap_setCell _ _ _ _ (by simp; omega)]

/-- what Fold's last statement leaves -/
def FoldE (w wx : World) (m : Nat) (r : List Nat) (a b c d : Nat) (s9 : Value) : Prop :=
  ∃ sx cx, s9 = .slice sx m cx ∧ Rd wx 1 (.slice sx m cx) m (u8s r) ∧ wx.heap[w.heap.size + 1]? = some (.cells #[.int .u64 (a : Int), .int .u64 (b : Int), .int .u64 (c : Int), .int .u64 (d : Int)] 56 (0, 0)) ∧ Below w.heap.size w wx
theorem foldE_1 {w W w2 : World} {m a b c d : Nat} {r : List Nat} {sy : Option Addr} {cy : Nat} (hL : Lan w W a b c d) (ho : w2.ownsRow W.heap.size 5 1 (.slice sy m cy) m (u8s r)) (hb : Below W.heap.size W w2) :
    FoldE w ((((w2.setCell ⟨w.heap.size + 1, 0, none⟩ (.int .u64 (a : Int))).setCell ⟨w.heap.size + 1, 1, none⟩ (.int .u64 (b : Int))).setCell ⟨w.heap.size + 1, 2, none⟩ (.int .u64 (c : Int))).setCell ⟨w.heap.size + 1, 3, none⟩ (.int .u64 (d : Int))) m r a b c d (.slice sy m cy) :=
  ⟨sy, cy, rfl, rd_of_row (row_ends ho hL.size _ _ _ _), (hL.below hb).res4 a b c d, (hL.below hb).ends _ _ _ _⟩
theorem foldE_2 {w W w2 : World} {m a b c d : Nat} {r : List Nat} {sy : Option Addr} {cy B : Nat} (hL : Lan w W a b c d) (ho : w2.ownsRow B 5 1 (.slice sy m cy) m (u8s r))
    (hb : Below W.heap.size ((((W.setCell ⟨w.heap.size + 1, 0, none⟩ (.int .u64 (a : Int))).setCell ⟨w.heap.size + 1, 1, none⟩ (.int .u64 (b : Int))).setCell ⟨w.heap.size + 1, 2, none⟩ (.int .u64 (c : Int))).setCell ⟨w.heap.size + 1, 3, none⟩ (.int .u64 (d : Int))) w2) :
    FoldE w w2 m r a b c d (.slice sy m cy) :=
  ⟨sy, cy, rfl, rd_of_row ho, (hb.block _ (by have := hL.size; omega)).trans (hL.res4 a b c d), (hL.ends _ _ _ _).trans (hb.mono (by have := hL.size; omega))⟩

set_option maxRecDepth 100000 in
set_option maxHeartbeats 4000000 in
theorem fold_any (v0 : V4) (hv : v0.ok) (l : List Nat) (hl : Byt l) (s : Value) (n : Nat) (w : World) (hr : Rd w 1 s n (u8s l)) (hn : n ≤ 100000) (bn : Nat) (hb : w.cell? ⟨bn, 0, none⟩ = some (.int .i64 2)) :
    Calls Tryd.prog 27 #[.int .i64 8, aggV v0, .func (.func 41) #[] #[.pointer (some ⟨bn, 0, none⟩)], s] w fun e w' =>
      ∃ (sa : Option Addr) (k cap : Nat), e = .returned (.tuple #[aggV (sipBl (l.length / 8) v0 l), .slice sa k cap]) ∧ Rd w' 1 (.slice sa k cap) k (u8s (l.drop (l.length / 8 * 8))) ∧ Below w.heap.size w w' := by
  obtain rfl := hr.len_u8
  obtain ⟨sa, cap, rfl⟩ := hr.form
  have C1 := stepped_any w (.func 41) #[] #[.pointer (some ⟨bn, 0, none⟩)]
  have hbl := World.block_lt_of_cell? _ _ hb
  have hst := Lan.start w v0.a v0.b v0.c v0.d
  obtain ⟨F, hF⟩ : ∃ F, F = sipBl (l.length / 8) v0 l := ⟨_, rfl⟩
  obtain ⟨T, hT⟩ : ∃ T, T = l.drop (l.length / 8 * 8) := ⟨_, rfl⟩
  rw [← hF, ← hT]
  have HST := Lib.hid hst; have HR := Lib.hid hr; have HBN := Lib.hid hb; have HBY := Lib.hid hl; have HV := Lib.hid hv
  have hstart : sipBl (l.length / 8) v0 l = F ∧ l.drop (l.length / 8 * 8) = T := ⟨hF.symm, hT.symm⟩
  have HSTART := Lib.hid hstart
  clear hst hr hb hl hv hF hT hstart
  obtain ⟨va, vb, vc, vd⟩ := v0
  simp only [aggV] at *
  have C0 := sized_8
  go_enter Tryd.func27, Tryd.ntmps27
  go_upto_region 1 with fail
  generalize ((w.alloc _).alloc _) = w1 at *
  go_wp2_with fail
  refine (C0 _).mono ?_
  rintro e w' ⟨rfl, rfl⟩
  go_wp2_with fail
  refine (stepped_any _ (.func 41) #[] #[.pointer (some ⟨bn, 0, none⟩)]).mono ?_
  rintro e w' ⟨rfl, rfl⟩
  clear C1 C0
  go_wp2_with fail
  go_loopw [3] (fun s3 wr => ∃ (sr : Option Addr) (cr m : Nat) (r : List Nat) (a b c d : Nat), m ≤ 100000 ∧ m ≤ cr ∧ s3 = .slice sr m cr ∧ Hid (r.length = m) ∧ Hid (Byt r) ∧ Hid (Rd w 1 (.slice sr m cr) m (u8s r)) ∧ Hid (Lan w wr a b c d) ∧ Hid (V4.ok ⟨a, b, c, d⟩) ∧ Hid (sipBl (m / 8) ⟨a, b, c, d⟩ r = F ∧ r.drop (m / 8 * 8) = T)) (fun s3 _ => match s3 with | .slice _ m _ => m | _ => 0)
  case atStart => exact ⟨sa, cap, l.length, l, va, vb, vc, vd, hn, HR.out.cap_le.1, rfl, rfl, HBY, HR, HST, HV, HSTART⟩
  case round =>
    obtain ⟨sr, cr, m, r, a, b, c, d, hm, hmc, rfl, HLEN, HY, HRR, HL, HOK, HFIN⟩ := hrel
    obtain ⟨p0, p1, p2, p3⟩ := HL.out.cells
    by_cases h8 : 8 ≤ m
    · have h8c : 8 ≤ cr := by omega
      have hcl : ∀ W, Below w.heap.size w W → Calls Tryd.prog 40 #[.slice sr 8 8] W fun e w' => ∃ sx cx, e = .returned (.slice sx 8 cx) ∧ Rd w' 1 (.slice sx 8 cx) 8 (u8s (r.take 8)) ∧ Below W.heap.size W w' := fun W hW => by
        have h1 := (HRR.out.below hW).to h8 8 (Nat.le_refl _)
        rw [Nat.mul_one, ← u8s_take] at h1
        exact (clone_u8 _ _ _ W h1 (by omega)).mono fun e w' ⟨sx, cx, h1, h2, h3⟩ => ⟨sx, cx, h1, rd_of_row h2, h3⟩
      have hst : ∀ W sx cx, Below w.heap.size w W → Rd W 1 (.slice sx 8 cx) 8 (u8s (r.take 8)) → Calls Tryd.prog 41 #[aggV ⟨a, b, c, d⟩, .slice sx 8 cx, .pointer (some ⟨bn, 0, none⟩)] W fun e w' => e = .returned (aggV (sipW (leN (r.take 8)) ⟨a, b, c, d⟩)) ∧ Below W.heap.size W w' := fun W sx cx hW hx => by
        have h2 := stepc_any ⟨a, b, c, d⟩ HOK.out (r.take 8) (HY.out.take 8) _ 8 W hx bn ((hW.cell (p := ⟨bn, 0, none⟩) hbl).trans HBN.out)
        rwa [List.take_take] at h2
      obtain ⟨hs1, hs2⟩ := sipBl_step r ⟨a, b, c, d⟩ (by rw [HLEN.out]; exact h8)
      have hlen' : (r.drop 8).length = m - 8 := by rw [List.length_drop, HLEN.out]
      rw [HLEN.out, hlen', HFIN.out.1] at hs1
      rw [HLEN.out, hlen', HFIN.out.2] at hs2
      have hok' := sipW_ok (le8_lt r HY.out) HOK.out
      generalize sipW (leN (r.take 8)) ⟨a, b, c, d⟩ = u at *
      obtain ⟨ua, ub, uc, ud⟩ := u
      simp only [aggV] at hst
      have HCL := Lib.hid hcl; have HSTP := Lib.hid hst; have HS := Lib.hid (And.intro hs1.symm hs2.symm); have HO2 := Lib.hid hok'
      have hrest := HRR.out.rest (k := 8) h8
      rw [← u8s_drop] at hrest
      obtain ⟨sx, hx⟩ : ∃ sx, (if cr = 8 then sr else sr.map (·.add 8)) = sx := ⟨_, rfl⟩
      rw [hx] at hrest
      have HRE := Lib.hid hrest; have HL2 := Lib.hid hlen'; have HY2 := Lib.hid (HY.out.drop 8)
      clear hcl hst hs1 hs2 hok' hrest hlen' HLEN HY HFIN HOK HST HR HBY HV HSTART
      have hd8 : decide ((m : Int) ≥ 8) = true := decide_eq_true (by omega)
      go_upto_region 3 with fail
      go_cut [] (fun wx => Hid (Lan w wx ua ub uc ud))
      case first =>
        go_region_with (first
          | (go_at_call 40; refine (HCL.out _ (by first | exact HL.out.bel | exact HL.out.bel.drew | exact HL.out.bel.drew.drew)).mono ?_; rintro e w2 ⟨sy, cy, rfl, hry, hb2⟩; have HL2 := Lib.hid (show Lan w w2 a b c d by first | exact HL.out.below hb2 | exact HL.out.drew.below hb2 | exact HL.out.drew.drew.below hb2); obtain ⟨r0, r1, r2, r3⟩ := HL2.out.cells)
          | (go_at_call 41; refine (HSTP.out _ _ _ (by first | exact HL2.out.bel | exact HL2.out.bel.drew) (by first | exact hry | exact hry.below (Below.refl _ _).drew)).mono ?_; rintro e w3 ⟨rfl, hb3⟩; have HL3 := Lib.hid (show Lan w w3 a b c d by first | exact HL2.out.below hb3 | exact HL2.out.drew.below hb3); obtain ⟨d0, d1, d2, d3⟩ := HL3.out.cells; obtain ⟨q0, q1, q2, q3⟩ := HL3.out.frees))
        all_goals
          go_wp2_with fail
          go_meet
          exact HL3.out.set4 ua ub uc ud
      case rest =>
        clear p0 p1 p2 p3 HL HCL HSTP HRR
        have HL := hcut; clear hcut
        have e8 : ((8 : Int) ≤ (m : Int)) := by omega
        go_wp2_with fail
        go_roundw
        case rel =>
          exact ⟨sx, cr - 8, m - 8, r.drop 8, ua, ub, uc, ud, by omega, by omega, by subst hx; rfl, HL2, HY2, HRE, HL, HO2, HS⟩
        case measure => simp; omega
    · have hd8 : decide ((m : Int) ≥ 8) = false := decide_eq_false (by omega)
      have h0 : m / 8 = 0 := by omega
      have hF2 : (⟨a, b, c, d⟩ : V4) = F ∧ r = T := by
        have := HFIN.out
        rw [h0] at this
        exact this
      obtain ⟨hF2, rfl⟩ := hF2
      have hcl : ∀ W, Below w.heap.size w W → Calls Tryd.prog 40 #[.slice sr m cr] W fun e w' => ∃ sx cx, e = .returned (.slice sx m cx) ∧ w'.ownsRow W.heap.size 5 1 (.slice sx m cx) m (u8s r) ∧ Below W.heap.size W w' := fun W hW =>
        clone_u8 _ _ _ W (HRR.out.below hW) (by omega)
      have HCL := Lib.hid hcl; have HF2 := Lib.hid hF2
      clear hcl hF2 HFIN HSTART HST HR
      obtain ⟨k0, k1, k2, k3⟩ := HL.out.rcells
      obtain ⟨j0, j1, j2, j3⟩ := HL.out.rfrees
      go_upto_region 5 with fail
      go_cut [9] (fun s9 wx => Hid (FoldE w wx m r a b c d s9))
      case first =>
        go_region_with (go_at_call 40; refine (HCL.out _ (by first | exact HL.out.bel | exact HL.out.bel.drew | exact HL.out.ends _ _ _ _ | exact HL.out.drew.ends _ _ _ _ | exact (HL.out.ends _ _ _ _).drew)).mono ?_; rintro e w2 ⟨sy, cy, rfl, hry, hb2⟩; first | (have HL2 := Lib.hid (show Lan w w2 a b c d by first | exact HL.out.below hb2 | exact HL.out.drew.below hb2); obtain ⟨r0, r1, r2, r3⟩ := HL2.out.cells; obtain ⟨d0, d1, d2, d3⟩ := HL2.out.rcells; obtain ⟨q0, q1, q2, q3⟩ := HL2.out.rfrees) | skip)
        all_goals
          (try go_wp2_with fail)
          go_meet
          first
            | exact foldE_1 HL.out hry hb2
            | exact foldE_1 HL.out.drew hry hb2
            | exact foldE_2 HL.out hry (by simpa using hb2)
            | exact foldE_2 HL.out.drew hry (by simpa using hb2)
      case rest =>
        clear HL k0 k1 k2 k3 j0 j1 j2 j3 p0 p1 p2 p3 HCL HRR
        obtain ⟨sx, cx, rfl, h1, h2, h3⟩ := hcut.out
        have d0 := cell_of h2 0 rfl
        have d1 := cell_of h2 1 rfl
        have d2 := cell_of h2 2 rfl
        have d3 := cell_of h2 3 rfl
        have HE := Lib.hid (And.intro h1 h3)
        clear hcut h1 h2 h3
        go_wp2_with fail
        refine bodyPost_ret (v := .tuple #[aggV ⟨a, b, c, d⟩, .slice sx m cx]) (by simp [aggV, results, Tryd.results27, go_sem, d0, d1, d2, d3]) rfl ⟨sx, m, cx, ?_, HE.out.1, HE.out.2⟩
        rw [← HF2.out]
        exact (rfl : _ = _)

end Go.Proofs.YtgnbgjdkhnhlkaaDoor
