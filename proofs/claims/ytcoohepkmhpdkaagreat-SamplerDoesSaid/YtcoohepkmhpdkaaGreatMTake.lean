/-
  Draws by a mask from a tape: mask.Take.
-/
import Derived.Test.YtcoohepkmhpdkaaGreatMask
import Derived.Test.YtcoohepkmhpdkaaGreatTake
import Derived.Test.YtcoohepkmhpdkaaGreatAli2
import Derived.Laws.EntriesVeiled
namespace Go.Proofs.YtcoohepkmhpdkaaGreat
open Go.RowKit
set_option linter.unusedVariables false
set_option linter.unusedSimpArgs false

/-- what lies in the blocks of the call's own while it draws by a mask -/
structure MskAt (W wr : World) (B b : Nat) (wv tv tv' : Value) (l : List Int) (k used : Nat) : Prop where
  tape : TapeAt wr B b wv tv' l k
  fresh : ∀ g, tv'.ownBlock = some g → tv.ownBlock = some g ∨ W.heap.size + 3 ≤ g
  chg : Chg (tapeBlocks b tv) W wr
  size : W.heap.size + 3 ≤ wr.heap.size
  box : wr.heap[W.heap.size]? = some (.cells #[.pointer (some ⟨b, 0, none⟩)] 29 (0, 0))
  res : wr.heap[W.heap.size + 1]? = some (.cells #[.int .u64 0, .int .u64 0, .int .i64 0] 65 (0, 0))
  cur : wr.heap[W.heap.size + 1 + 1]? = some (.cells #[.int .i64 (used : Int)] 3 (0, 0))
  bl : b < W.heap.size
  wl : ∀ g, wv.ownBlock = some g → g < W.heap.size
  tl : ∀ g, tv.ownBlock = some g → g < W.heap.size

section
variable {W wr w' : World} {B b : Nat} {wv tv tv' tv2 : Value} {l : List Int} {k used : Nat}

theorem MskAt.start (h : TapeAt W B b wv tv l k) : MskAt W (((W.alloc (.cells #[.pointer (some ⟨b, 0, none⟩)] 29)).alloc (.cells #[.int .u64 0, .int .u64 0, .int .i64 0] 65)).alloc (.cells #[.int .i64 0] 3)) B b wv tv tv l k 0 := by
  have hb := block_lt h.2.2.1
  have h1 := (((Chg.refl (tapeBlocks b tv) W).alloc (.cells #[.pointer (some ⟨b, 0, none⟩)] 29)).alloc (.cells #[.int .u64 0, .int .u64 0, .int .i64 0] 65)).alloc (.cells #[.int .i64 0] 3)
  refine ⟨h.below ((((Below.refl _ W).alloc (Nat.le_refl _) _).alloc (by simp) _).alloc (by simp; omega) _), fun g hg => .inl hg, h1, by simp, ?_, ?_, ?_, hb, fun g hg => (h.2.2.2.1.lt g hg).2, fun g hg => (h.2.2.2.2.1.lt g hg).2⟩
  · exact heap_up (heap_up (heap_at rfl))
  · exact heap_up (heap_at (by simp))
  · exact heap_at (by simp)

theorem MskAt.next (h : MskAt W wr B b wv tv tv' l k used) (ht : TapeAt w' B b wv tv2 l (k + 1)) (hc : Chg (tapeBlocks b tv') wr w') (hf : ∀ g, tv2.ownBlock = some g → tv'.ownBlock = some g ∨ wr.heap.size ≤ g) :
    MskAt W w' B b wv tv tv2 l (k + 1) used := by
  have hs := h.size
  have hb := h.bl
  have hn : ∀ g, W.heap.size ≤ g → g < W.heap.size + 3 → ¬ tapeBlocks b tv' g := fun g h1 h2 hx => by
    rcases hx with rfl | hx
    · omega
    · rcases h.fresh g hx with h3 | h3
      · have := h.tl g h3; omega
      · omega
  refine ⟨ht, fun g hg => ?_, h.chg.trans' hc fun i hi hlt => ?_, Nat.le_trans hs hc.size, ?_, ?_, ?_, hb, h.wl, h.tl⟩
  · rcases hf g hg with h1 | h1
    · exact h.fresh g h1
    · exact .inr (by omega)
  · rcases hi with rfl | hi
    · exact .inl rfl
    · rcases h.fresh i hi with h1 | h1
      · exact .inr h1
      · omega
  · exact (hc.block _ (by omega) (hn _ (by omega) (by omega))).trans h.box
  · exact (hc.block _ (by omega) (hn _ (by omega) (by omega))).trans h.res
  · exact (hc.block _ (by omega) (hn _ (by omega) (by omega))).trans h.cur

theorem MskAt.setc (h : MskAt W wr B b wv tv tv' l k used) : MskAt W (wr.setCell ⟨W.heap.size + 1 + 1, 0, none⟩ (.int .i64 ((used : Int) + 1))) B b wv tv tv' l k (used + 1) := by
  have hb := h.bl
  refine ⟨h.tape.chg (S := fun x => x = W.heap.size + 1 + 1) ((Chg.refl (fun x => x = W.heap.size + 1 + 1) wr).setCell (p := ⟨W.heap.size + 1 + 1, 0, none⟩) (.inl rfl) _) (by omega) (fun g hg hx => ?_) (fun g hg hx => ?_), h.fresh, h.chg.setCell (p := ⟨W.heap.size + 1 + 1, 0, none⟩) (.inr (by show W.heap.size ≤ W.heap.size + 1 + 1; omega)) _, by simpa [World.setCell] using h.size, ?_, ?_, ?_, hb, h.wl, h.tl⟩
  · have := h.wl g hg; omega
  · rcases h.fresh g hg with h1 | h1
    · have := h.tl g h1; omega
    · omega
  · rw [Below.heap_setCell _ _ _ _ (by show W.heap.size ≠ W.heap.size + 1 + 1; omega)]; exact h.box
  · rw [Below.heap_setCell _ _ _ _ (by simp)]; exact h.res
  · rw [set_of h.cur 0 _]
    simp

theorem MskAt.below (h : MskAt W wr B b wv tv tv' l k used) (hb : Below wr.heap.size wr w') : MskAt W w' B b wv tv tv' l k used := by
  have hs := h.size
  refine ⟨h.tape.below hb, h.fresh, h.chg.trans (Chg.of_below hb), Nat.le_trans hs hb.size, ?_, ?_, ?_, h.bl, h.wl, h.tl⟩
  · exact (hb.block _ (by omega)).trans h.box
  · exact (hb.block _ (by omega)).trans h.res
  · exact (hb.block _ (by omega)).trans h.cur

theorem MskAt.fin (h : MskAt W wr B b wv tv tv' l k used) (hc : Chg (fun x => W.heap.size ≤ x ∧ x < W.heap.size + 3) wr w') : TapeTo W w' B b wv tv l k W.heap.size := by
  have hb := h.bl
  refine ⟨⟨tv', h.tape.chg hc (fun hx => ?_) (fun g hg hx => ?_) (fun g hg hx => ?_), fun g hg => ?_⟩, h.chg.trans' hc fun i hi hlt => ?_⟩
  · omega
  · have := h.wl g hg; omega
  · rcases h.fresh g hg with h1 | h1
    · have := h.tl g h1; omega
    · omega
  · rcases h.fresh g hg with h1 | h1
    · exact .inl h1
    · exact .inr (by omega)
  · omega
end

theorem ent_msk1 (args : Array Value) (w : World) : (callFunc 97 args).run Tryz.prog w = .ok (.enter 97 args) w :=
  enters Tryz.func97 (by kernel_rfl) (by kernel_rfl) args w

set_option maxRecDepth 100000 in
set_option maxHeartbeats 2000000 in
theorem mtake1_some (W wr : World) (B b : Nat) (wv tv tv' : Value) (l : List Nat) (k used : Nat) (h : MskAt W wr B b wv tv tv' (zsN l) k used) (hk : k < l.length) (hl : l.length < 50000) (hu : used ≤ 50000) :
    Calls Tryz.prog 97 #[.pointer (some ⟨W.heap.size, 0, none⟩), .pointer (some ⟨W.heap.size + 1 + 1, 0, none⟩)] wr fun e w' => ∃ tv2, e = .returned (.tuple #[.int .u64 (l.getD k 0 : Int), .int .i64 0]) ∧ MskAt W w' B b wv tv tv2 (zsN l) (k + 1) (used + 1) := by
  have N := next_some wr B b wv tv' (zsN l) k h.tape (by rw [zsN_len]; exact hk) (by rw [zsN_len]; exact hl)
  rw [zsN_get] at N
  generalize l.getD k 0 = a at *
  have c0 := cell_of h.box 0 rfl
  have HN := Lib.hid N; have H := Lib.hid h
  have hu' : (used : Int) ≤ 50000 := by omega
  clear N h hu
  go_enter Tryz.func97, Tryz.ntmps97
  go_wp2_with fail
  refine HN.out.mono ?_
  rintro e w2 ⟨tv2, rfl, ht2, hc2, hf2⟩
  have h2 := H.out.next ht2 hc2 hf2
  have c2 := cell_of h2.cur 0 rfl
  have f2 := frozen_of h2.cur 0
  have H2 := Lib.hid h2
  clear ht2 hc2 hf2 h2
  go_wp2_with fail
  go_ret2
  exact ⟨tv2, rfl, H2.out.setc⟩

set_option maxRecDepth 100000 in
set_option maxHeartbeats 2000000 in
theorem mtake1_none (W wr : World) (B b : Nat) (wv tv tv' : Value) (l : List Nat) (used : Nat) (h : MskAt W wr B b wv tv tv' (zsN l) l.length used) (hu : used ≤ 50000) :
    Calls Tryz.prog 97 #[.pointer (some ⟨W.heap.size, 0, none⟩), .pointer (some ⟨W.heap.size + 1 + 1, 0, none⟩)] wr fun e w' => e = .returned (.tuple #[.int .u64 0, .int .i64 7]) ∧ MskAt W w' B b wv tv tv' (zsN l) l.length (used + 1) := by
  have N := next_none wr B b wv tv' (zsN l) (by rw [zsN_len]; exact h.tape)
  have c0 := cell_of h.box 0 rfl
  have c2 := cell_of h.cur 0 rfl
  have f2 := frozen_of h.cur 0
  have HN := Lib.hid N; have H := Lib.hid h
  have hu' : (used : Int) ≤ 50000 := by omega
  clear N h hu
  go_enter Tryz.func97, Tryz.ntmps97
  go_wp2_with fail
  refine HN.out.mono ?_
  rintro e w2 ⟨rfl, rfl⟩
  go_wp2_with fail
  go_ret2
  exact ⟨rfl, H.out.setc⟩

set_option maxRecDepth 100000 in
set_option maxHeartbeats 4000000 in
theorem mtake_any (W : World) (B b : Nat) (wv tv : Value) (l : List Nat) (k0 n : Nat) (ht : TapeAt W B b wv tv (zsN l) k0) (hl : l.length < 50000) (hw : W64 l) (h0 : 0 < n) (hn : n < 2 ^ 64) :
    Calls Tryz.prog 50 #[.pointer (some ⟨b, 0, none⟩), .int .u64 (n : Int)] W fun e w' => match takeM n 0 (l.drop k0) with
      | some d => e = .returned (.tuple #[.agg #[.int .u64 (d.1 : Int), .int .u64 (d.2.1 : Int), .int .i64 (d.2.2 : Int)], .int .i64 0]) ∧ TapeTo W w' B b wv tv (zsN l) (k0 + d.2.2) W.heap.size
      | none => e = .returned (.tuple #[.agg #[.int .u64 0, .int .u64 0, .int .i64 0], .int .i64 7]) ∧ TapeTo W w' B b wv tv (zsN l) l.length W.heap.size := by
  have q0 : ((n : Int) == 0) = false := by simp; omega
  have HS := Lib.hid (MskAt.start ht)
  have hk0 : k0 ≤ l.length := by have := ht.1; rw [zsN_len] at this; exact this
  have HN := Lib.hid hn; have HW := Lib.hid hw; have H0 := Lib.hid h0
  clear ht hn hw h0
  obtain ⟨R, hR⟩ : ∃ R, R = takeM n 0 (l.drop k0) := ⟨_, rfl⟩
  rw [← hR]
  have HR := Lib.hid hR; clear hR
  go_enter Tryz.func50, Tryz.ntmps50
  go_wp2
  go_step3
  go_wp2
  go_step3
  go_wp2
  go_loopg [8] (l.length - k0) (fun g s8 wr => ∃ (u : Nat) (tv' : Value), k0 + u + g = l.length ∧ Hid (MskAt W wr B b wv tv tv' (zsN l) (k0 + u) u) ∧ Hid (R = takeM n u (l.drop (k0 + u))))
  case atStart => exact ⟨0, tv, by omega, HS, HR⟩
  case round =>
    obtain ⟨u, tv', hg, HTk, HRk⟩ := hrel
    clear HS HR
    by_cases hlt : 0 < gk
    · have hw1 := HW.out.at (k := k0 + u) (by omega)
      have N := mtake1_some W wr B b wv tv tv' l (k0 + u) u HTk.out (by omega) hl (by omega)
      have hyes := takeM_yes (n := n) (u := u) (k := k0 + u) (l := l) (by omega)
      have hno := takeM_no (n := n) (u := u) (k := k0 + u) (l := l) (by omega)
      have T := fun w => mtakes_any w (l.getD (k0 + u) 0) n H0.out hw1 HN.out
      have K := fun w => mrank_any w (l.getD (k0 + u) 0) n hw1 HN.out
      generalize l.getD (k0 + u) 0 = a at *
      have HNX := Lib.hid N; have HTT := Lib.hid T; have HKK := Lib.hid K; have HY := Lib.hid hyes; have HNO := Lib.hid hno
      clear N T K hyes hno hw1
      go_wp2_with fail
      refine HNX.out.mono ?_
      rintro e w2 ⟨tv2, rfl, hT2⟩
      have HT2 := Lib.hid hT2
      clear hT2
      go_wp2_with fail
      refine (HTT.out _).mono ?_
      rintro e w3 ⟨rfl, rfl⟩
      cases htk : tmB a n with
      | true =>
        have hK := HKK.out w2 htk
        have hYY := HY.out htk
        have HK := Lib.hid hK; have HYY := Lib.hid hYY
        clear hK hYY
        generalize telM a n = v at *
        generalize rnkM a n = r at *
        clear htk
        go_wp2_with fail
        refine HK.out.mono ?_
        rintro e w4 ⟨rfl, hb4⟩
        have hT4 := HT2.out.below hb4
        have c0 := cell_of hT4.cur 0 rfl
        have d0 := cell_of hT4.res 0 rfl
        have d1 := cell_of hT4.res 1 rfl
        have d2 := cell_of hT4.res 2 rfl
        have g0 := frozen_of hT4.res 0
        have g1 := frozen_of hT4.res 1
        have g2 := frozen_of hT4.res 2
        have HT4 := Lib.hid hT4
        clear hb4 hT4
        go_wp2_with fail
        try rw [Exit.noGoto_ret]
        refine bodyPost_ret (v := .tuple #[.agg #[.int .u64 (v : Int), .int .u64 (r : Int), .int .i64 ((u + 1 : Nat) : Int)], .int .i64 0]) ?hres rfl ?_
        case hres =>
          simp [results, Tryz.results50, go_sem, d0, d1, d2]
        rw [HRk.out, HYY.out]
        refine ⟨rfl, HT4.out.fin ?_⟩
        refine (((Chg.refl _ _).setCell ?_ _).setCell ?_ _).setCell ?_ _ <;> exact .inl (by constructor <;> simp)
      | false =>
        have HNN := Lib.hid (HNO.out htk)
        clear htk
        go_wp2_with fail
        go_roundg (gk - 1)
        case rel => exact ⟨u + 1, tv2, by omega, HT2, Lib.hid (by rw [HRk.out, HNN.out]; rfl)⟩
        case measure => omega
    · obtain rfl : gk = 0 := by omega
      have hku : k0 + u = l.length := by omega
      have hT := HTk.out
      rw [hku] at hT
      have NN := mtake1_none W wr B b wv tv tv' l u hT (by omega)
      have hE : R = none := by rw [HRk.out, hku]; exact takeM_end
      have HNN := Lib.hid NN; have HE := Lib.hid hE
      clear NN hE hT hku hg
      go_wp2_with fail
      refine HNN.out.mono ?_
      rintro e w2 ⟨rfl, hT⟩
      have d0 := cell_of hT.res 0 rfl
      have d1 := cell_of hT.res 1 rfl
      have d2 := cell_of hT.res 2 rfl
      have g0 := frozen_of hT.res 0
      have g1 := frozen_of hT.res 1
      have g2 := frozen_of hT.res 2
      have HTT := Lib.hid hT
      clear hT
      go_wp2_with fail
      try rw [Exit.noGoto_ret]
      refine bodyPost_ret (v := .tuple #[.agg #[.int .u64 0, .int .u64 0, .int .i64 0], .int .i64 7]) ?hres2 rfl ?_
      case hres2 =>
        simp [results, Tryz.results50, go_sem, d0, d1, d2]
      rw [HE.out]
      refine ⟨rfl, HTT.out.fin ?_⟩
      refine (((Chg.refl _ _).setCell ?_ _).setCell ?_ _).setCell ?_ _ <;> exact .inl (by constructor <;> simp)

end Go.Proofs.YtcoohepkmhpdkaaGreat
