/-
  Paths in the document's words: Parts, Same; derive.Join.
-/
import Derived.Test.YtgnbgjdkhnhlkaaDoorDrv5
import Derived.WideShapes
namespace Go.Proofs.YtgnbgjdkhnhlkaaDoor
open Go.RowKit
set_option linter.unusedVariables false
set_option linter.unusedSimpArgs false

theorem bsN_inj {a b : ByteArray} (h : bsN a = bsN b) : a = b := by
  have h2 : a.data.toList = b.data.toList := List.map_inj_right (fun x y e => UInt8.toNat_inj.1 e) |>.1 h
  cases a with | mk da => cases b with | mk db => exact congrArg ByteArray.mk (Array.toList_inj.1 h2)
theorem map_bsN_inj {a b : List ByteArray} (h : a.map bsN = b.map bsN) : a = b := List.map_inj_right (fun x y e => bsN_inj e) |>.1 h
theorem strs_at (l : List ByteArray) (k : Nat) (h : k < l.length) : (strs l)[k]? = some (.string (l.getD k ByteArray.empty)) := by simp [strs, List.getD, List.getElem?_eq_getElem h]

theorem app_str (W : World) {ops : Array Oper} {rest : List Oper} {o : Oper} {a : Act} {Q : Exit → Act → World → Prop} (hgd : o.guard = none) (s x : Operand)
    (ho : o.op = .call { callee := .builtin .append, args := #[s, x], argTypes := #[26, 26] })
    (base : Nat) (v : Value) (n : Nat) (xs : List Value) (hs : a.eval s = v) (hown : W.ownsRow base 9 1 v n xs)
    (g : Nat) (y : ByteArray) (hx : a.eval x = .slice (some ⟨g, 0, none⟩) 1 1) (hg : g = W.heap.size) (hn : n ≤ 1000000) (hbase : base ≤ W.heap.size)
    (h : ∀ v' w', w'.ownsRow base 9 1 v' (n + 1) (xs ++ [.string y]) → Chg (fun k => v.ownBlock = some k) W w' → (∀ k, v'.ownBlock = some k → v.ownBlock = some k ∨ W.heap.size ≤ k) → wpList Tryd.prog ops Q rest (a.put o.dst v') w') :
    wpList Tryd.prog ops Q (o :: rest) a (W.alloc (.cells #[.string y] 9)) := by
  obtain ⟨i0, hi, hz0, hz1, hz2⟩ := info_parts info_str
  exact app1 W hgd s x _ ho base _ i0 _ 16 Tryd.underlying26 hi hz0 hz1 hz2 rfl v n xs hs hown g _ hx hg rfl (by unfold maxLen; omega) (by omega) hbase h

/-- no byte 47 -/
def No47 (s : ByteArray) : Prop := ∀ c ∈ bsN s, c ≠ 47
theorem no47_empty : No47 ⟨#[]⟩ := by intro c hc; simp [bsN] at hc
theorem bsN_empty : bsN ⟨#[]⟩ = [] := rfl

/-- what the document's loop holds between two bytes -/
structure PSt (p : ByteArray) (i : Nat) (s : ByteArray) (L : List ByteArray) : Prop where
  no : No47 s
  sz : s.size ≤ i
  good : ∀ x ∈ L, labE (bsN x) = 0
  eq : i ≤ p.size → splitN (bsN p) = L.map bsN ++ splitN (bsN s ++ (bsN p).drop i)
  fin : p.size < i → splitN (bsN p) = L.map bsN

theorem PSt.start (p : ByteArray) : PSt p 0 ⟨#[]⟩ [] := ⟨no47_empty, Nat.le_refl _, by simp, fun _ => by rw [bsN_empty]; simp, fun h => by omega⟩
theorem ext1 (p : ByteArray) (i : Nat) (h : i < p.size) : bsN (p.extract i (i + 1)) = [p[i].toNat] := by
  rw [bsN_extract, show i + 1 - i = 1 by omega]
  have hl : i < (bsN p).length := by rw [bsN_len]; exact h
  rw [List.drop_eq_getElem_cons hl]
  have := bsN_get p h
  rw [List.getElem?_eq_getElem hl] at this
  rw [Option.some.inj this]; rfl
theorem drop1 (p : ByteArray) (i : Nat) (h : i < p.size) : (bsN p).drop i = p[i].toNat :: (bsN p).drop (i + 1) := by
  have hl : i < (bsN p).length := by rw [bsN_len]; exact h
  rw [List.drop_eq_getElem_cons hl]
  have := bsN_get p h
  rw [List.getElem?_eq_getElem hl] at this
  rw [Option.some.inj this]
theorem PSt.byte {p : ByteArray} {i : Nat} {s : ByteArray} {L : List ByteArray} (h : PSt p i s L) (hi : i < p.size) (hc : p[i].toNat ≠ 47) : PSt p (i + 1) (s ++ p.extract i (i + 1)) L := by
  refine ⟨?_, ?_, h.good, fun _ => ?_, fun h1 => by omega⟩
  · intro c hcm
    rw [bsN_append, ext1 p i hi, List.mem_append, List.mem_singleton] at hcm
    rcases hcm with hcm | rfl
    · exact h.no c hcm
    · exact hc
  · rw [size_append', ← bsN_len (p.extract i (i + 1)), ext1 p i hi]; have := h.sz; simp; omega
  · rw [h.eq (by omega), drop1 p i hi, bsN_append, ext1 p i hi, List.append_assoc]; rfl
theorem PSt.cutB {p : ByteArray} {i : Nat} {s : ByteArray} {L : List ByteArray} (h : PSt p i s L) (hi : i < p.size) (hc : p[i].toNat = 47) : splitN (bsN p) = (L ++ [s]).map bsN ++ splitN ((bsN p).drop (i + 1)) := by
  rw [h.eq (by omega), drop1 p i hi, hc, splitN_append, splitN_plain _ h.no, List.map_append, List.append_assoc]; rfl
theorem PSt.cutE {p : ByteArray} {s : ByteArray} {L : List ByteArray} (h : PSt p p.size s L) : splitN (bsN p) = (L ++ [s]).map bsN := by
  rw [h.eq (Nat.le_refl _), List.drop_eq_nil_of_le (by rw [bsN_len]; exact Nat.le_refl _), List.append_nil, splitN_plain _ h.no, List.map_append]; rfl
theorem PSt.pieceB {p : ByteArray} {i : Nat} {s : ByteArray} {L : List ByteArray} (h : PSt p i s L) (hi : i < p.size) (hc : p[i].toNat = 47) (hg : labE (bsN s) = 0) : PSt p (i + 1) ⟨#[]⟩ (L ++ [s]) := by
  refine ⟨no47_empty, Nat.zero_le _, ?_, fun _ => ?_, fun h1 => by omega⟩
  · intro x hx; rw [List.mem_append, List.mem_singleton] at hx
    rcases hx with hx | rfl
    · exact h.good x hx
    · exact hg
  · rw [h.cutB hi hc, bsN_empty, List.nil_append]
theorem PSt.pieceE {p : ByteArray} {s : ByteArray} {L : List ByteArray} (h : PSt p p.size s L) (hg : labE (bsN s) = 0) : PSt p (p.size + 1) ⟨#[]⟩ (L ++ [s]) := by
  refine ⟨no47_empty, Nat.zero_le _, ?_, fun h1 => by omega, fun _ => h.cutE⟩
  intro x hx; rw [List.mem_append, List.mem_singleton] at hx
  rcases hx with hx | rfl
  · exact h.good x hx
  · exact hg
theorem bad_piece {p s : ByteArray} {L : List ByteArray} {R : List (List Nat)} (hgood : ∀ x ∈ L, labE (bsN x) = 0) (h : splitN (bsN p) = (L ++ [s]).map bsN ++ R) (hb : labE (bsN s) ≠ 0) (h0 : p.size ≠ 0) : partsE (bsN p) = labE (bsN s) := by
  have hf : firstBad (splitN (bsN p)) = labE (bsN s) := by
    rw [h, List.map_append, List.append_assoc, firstBad_append, firstBad_good (fun y hy => by
      obtain ⟨z, hz, rfl⟩ := List.mem_map.1 hy
      exact hgood z hz), if_neg (by simp)]
    show (if labE (bsN s) ≠ 0 then labE (bsN s) else _) = _
    rw [if_pos hb]
  unfold partsE
  rw [if_neg (by intro h; have := congrArg List.length h; rw [bsN_len] at this; exact h0 (by simpa using this)), hf, if_pos hb]
theorem good_parts {p : ByteArray} {L : List ByteArray} (hgood : ∀ x ∈ L, labE (bsN x) = 0) (h : splitN (bsN p) = L.map bsN) (h0 : p.size ≠ 0) : partsE (bsN p) = if 16 < L.length then 9 else 0 := by
  have hf : firstBad (splitN (bsN p)) = 0 := by
    rw [h]; exact firstBad_good (fun y hy => by
      obtain ⟨z, hz, rfl⟩ := List.mem_map.1 hy
      exact hgood z hz)
  unfold partsE
  rw [if_neg (by intro h; have := congrArg List.length h; rw [bsN_len] at this; exact h0 (by simpa using this)), hf, if_neg (by simp), h, List.length_map]

set_option maxRecDepth 100000 in
set_option maxHeartbeats 4000000 in
theorem refparts_any (p : ByteArray) (hp : p.size ≤ 100000) (w : World) :
    Calls Tryd.prog 9 #[.string p] w fun e w' => ∃ (v : Value) (L : List ByteArray), e = .returned (.tuple #[v, .int .i64 (partsE (bsN p) : Nat)]) ∧ L.map bsN = partsL (bsN p) ∧ w'.ownsRow w.heap.size 9 1 v L.length (strs L) ∧ Below w.heap.size w w' := by
  by_cases h0 : p.size = 0
  · have g0 := bsN_nil.2 h0
    have hb0 : bsN p = [] := by apply List.eq_nil_of_length_eq_zero; rw [bsN_len]; exact h0
    rw [hb0]
    go_enter Tryd.func9, Tryd.ntmps9
    go_wp2
    refine bodyPost_ret (results_tmp2 rfl _ _ _) rfl ⟨.slice none 0 0, [], ?_, rfl, World.ownsRow_nil _ _ _ _, Below.refl _ _⟩
    exact (rfl : _ = _)
  have g0 : p.toList.isEmpty = false := by
    rw [Bool.eq_false_iff]; intro h; exact h0 (bsN_nil.1 h)
  have hbad := fun s L R hg h hb => bad_piece (p := p) (s := s) (L := L) (R := R) hg h hb h0
  have hgd := fun L hg h => good_parts (p := p) (L := L) hg h h0
  have hpL : ∀ L : List ByteArray, splitN (bsN p) = L.map bsN → partsE (bsN p) = 0 → L.map bsN = partsL (bsN p) := fun L h e => by
    unfold partsL
    rw [if_neg, h]
    rintro (h1 | h1)
    · have := congrArg List.length h1; rw [bsN_len] at this; exact h0 (by simpa using this)
    · exact h1 e
  have hpN : partsE (bsN p) ≠ 0 → ([] : List ByteArray).map bsN = partsL (bsN p) := fun h => by unfold partsL; rw [if_pos (.inr h)]; rfl
  obtain ⟨E, hE⟩ : ∃ E, E = partsE (bsN p) := ⟨_, rfl⟩
  rw [← hE] at hbad hgd hpL hpN ⊢
  have HBAD := Lib.hid hbad; have HGD := Lib.hid hgd; have HPL := Lib.hid hpL; have HPN := Lib.hid hpN
  clear hbad hgd hpL hpN hE
  go_enter Tryd.func9, Tryd.ntmps9
  go_wp2
  go_loopw [4, 5, 6] (fun v s i wr => ∃ (j : Nat) (r : ByteArray) (L : List ByteArray) (m : Nat) (sa : Option Addr) (cap : Nat), j ≤ p.size + 1 ∧ r.size ≤ 100001 ∧ m ≤ 100001 ∧ i = .int .i64 (j : Int) ∧ s = .string r ∧ v = .slice sa m cap ∧ Hid (L.length = m ∧ m ≤ j) ∧ Hid (PSt p j r L) ∧ Hid (wr.ownsRow w.heap.size 9 1 (.slice sa m cap) m (strs L)) ∧ Hid (Below w.heap.size w wr)) (fun _ _ i _ => p.size + 1 - (intOf i).toNat)
  case atStart => exact ⟨0, ⟨#[]⟩, [], 0, none, 0, by omega, Nat.zero_le _, by omega, rfl, rfl, rfl, Lib.hid ⟨rfl, Nat.le_refl _⟩, Lib.hid (PSt.start p), World.ownsRow_nil _ _ _ _, Below.refl _ w⟩
  case round =>
    obtain ⟨j, r, L, m, sa, cap, hj, hr, hm, rfl, rfl, rfl, HLM, HP, HO, HB⟩ := hrel
    have C := reflabel_any r wr
    obtain ⟨F, hF⟩ : ∃ F, F = labE (bsN r) := ⟨_, rfl⟩
    rw [← hF] at C
    by_cases hlt : j < p.size
    · have hle : (j : Int) ≤ (p.size : Int) := by omega
      by_cases hc : p[j].toNat = 47
      · have hc1 : (((p[j].toNat : Nat) : Int) != 47) = false := by rw [bne_eq_false_iff_eq]; omega
        by_cases hz : F = 0
        · subst hz
          have hnx := HP.out.pieceB hlt hc hF.symm
          have HC := Lib.hid C; have HN := Lib.hid hnx
          clear C hF hnx
          have hlm := HLM.out
          have hz0 : (((0 : Nat) : Int) != 0) = false := rfl
          go_wp2_with fail
          refine HC.out.mono ?_
          rintro e w' ⟨rfl, rfl⟩
          go_wp2_with (at_builtin; refine app_str _ rfl _ _ rfl w.heap.size _ _ _ rfl HO.out _ _ rfl ?ag ?an ?ab ?_)
          case ag => rfl
          case an => omega
          case ab => exact HB.out.size
          intro v' w2 hown hchg hfresh
          obtain ⟨sa', cap', rfl⟩ := (rd_of_row hown).form
          rw [← strs_snoc] at hown
          have HO2 := Lib.hid hown; have HB2 := Lib.hid (HB.out.trans (hchg.below (B := w.heap.size) HB.out.size fun i hi => (HO.out.lt i hi).1))
          clear hown hchg hfresh
          go_wp2
          go_roundw
          case rel => exact ⟨_, ⟨#[]⟩, L ++ [r], m + 1, sa', cap', by omega, Nat.zero_le _, by omega, by go_num, rfl, by go_num, Lib.hid ⟨by simp; exact hlm.1, by omega⟩, HN, HO2, HB2⟩
          case measure => first | (simp [intOf]; done) | (simp [intOf]; omega)
        · have hne : ((F : Int) != 0) = true := by rw [bne_iff_ne]; omega
          have hEF : E = F := by rw [hF]; exact HBAD.out r L _ HP.out.good (HP.out.cutB hlt hc) (by rw [← hF]; exact hz)
          have hpn := HPN.out (by rw [hEF]; exact hz)
          have HC := Lib.hid C; have HEF := Lib.hid hEF; have HPN2 := Lib.hid hpn
          clear C hF hEF hpn
          go_wp2_with fail
          refine HC.out.mono ?_
          rintro e w' ⟨rfl, rfl⟩
          go_wp2_with fail
          refine bodyPost_ret (results_tmp2 rfl _ _ _) rfl ⟨.slice none 0 0, [], ?_, HPN2.out, World.ownsRow_nil _ _ _ _, HB.out⟩
          rw [HEF.out]
          exact (rfl : _ = _)
      · have hc1 : (((p[j].toNat : Nat) : Int) != 47) = true := by rw [bne_iff_ne]; omega
        have hnx := HP.out.byte hlt hc
        have hsz : (r ++ p.extract j (j + 1)).size ≤ j + 1 := hnx.sz
        have hszr := HP.out.sz
        have hlm := HLM.out
        have he1 : (p.extract j (j + 1)).size = 1 := by rw [← bsN_len, ext1 p j hlt]; rfl
        have HN := Lib.hid hnx
        clear C hF hnx hc
        go_wp2
        go_roundw
        case rel => exact ⟨j + 1, r ++ p.extract j (j + 1), L, m, sa, cap, by omega, by omega, by omega, by go_num, rfl, rfl, Lib.hid ⟨hlm.1, by omega⟩, HN, HO, HB⟩
        case measure => first | (simp [intOf]; done) | (simp [intOf]; omega)
    · by_cases heq : j = p.size
      · subst heq
        have hle : (p.size : Int) ≤ (p.size : Int) := Int.le_refl _
        have hnl : ¬ ((p.size : Int) < (p.size : Int)) := by omega
        by_cases hz : F = 0
        · subst hz
          have hnx := HP.out.pieceE hF.symm
          have HC := Lib.hid C; have HN := Lib.hid hnx
          clear C hF hnx
          have hlm := HLM.out
          have hz0 : (((0 : Nat) : Int) != 0) = false := rfl
          go_wp2_with fail
          refine HC.out.mono ?_
          rintro e w' ⟨rfl, rfl⟩
          go_wp2_with (at_builtin; refine app_str _ rfl _ _ rfl w.heap.size _ _ _ rfl HO.out _ _ rfl ?cg ?cn ?cb ?_)
          case cg => rfl
          case cn => omega
          case cb => exact HB.out.size
          intro v' w2 hown hchg hfresh
          obtain ⟨sa', cap', rfl⟩ := (rd_of_row hown).form
          rw [← strs_snoc] at hown
          have HO2 := Lib.hid hown; have HB2 := Lib.hid (HB.out.trans (hchg.below (B := w.heap.size) HB.out.size fun i hi => (HO.out.lt i hi).1))
          clear hown hchg hfresh
          go_wp2
          go_roundw
          case rel => exact ⟨_, ⟨#[]⟩, L ++ [r], m + 1, sa', cap', by omega, Nat.zero_le _, by omega, by go_num, rfl, by go_num, Lib.hid ⟨by simp; exact hlm.1, by omega⟩, HN, HO2, HB2⟩
          case measure => first | (simp [intOf]; done) | (simp [intOf]; omega)
        · have hne : ((F : Int) != 0) = true := by rw [bne_iff_ne]; omega
          have hEF : E = F := by rw [hF]; exact HBAD.out r L [] HP.out.good (by rw [List.append_nil]; exact HP.out.cutE) (by rw [← hF]; exact hz)
          have hpn := HPN.out (by rw [hEF]; exact hz)
          have HC := Lib.hid C; have HEF := Lib.hid hEF; have HPN2 := Lib.hid hpn
          clear C hF hEF hpn
          go_wp2_with fail
          refine HC.out.mono ?_
          rintro e w' ⟨rfl, rfl⟩
          go_wp2_with fail
          refine bodyPost_ret (results_tmp2 rfl _ _ _) rfl ⟨.slice none 0 0, [], ?_, HPN2.out, World.ownsRow_nil _ _ _ _, HB.out⟩
          rw [HEF.out]
          exact (rfl : _ = _)
      · have hgt : p.size < j := by omega
        have hfin := HP.out.fin hgt
        have hEL := HGD.out L HP.out.good hfin
        have hlm := HLM.out
        have hd1 : decide ((j : Int) ≤ (p.size : Int)) = false := decide_eq_false (by omega)
        rw [hlm.1] at hEL
        by_cases h16 : 16 < m
        · rw [if_pos h16] at hEL
          have hpn := HPN.out (by rw [hEL]; decide)
          have HEF := Lib.hid hEL; have HPN2 := Lib.hid hpn
          clear C hF hfin hEL hpn
          go_wp2
          refine bodyPost_ret (results_tmp2 rfl _ _ _) rfl ⟨.slice none 0 0, [], ?_, HPN2.out, World.ownsRow_nil _ _ _ _, HB.out⟩
          rw [HEF.out]
          exact (rfl : _ = _)
        · rw [if_neg h16] at hEL
          have hpl := HPL.out L hfin hEL
          have HEF := Lib.hid hEL; have HPL2 := Lib.hid hpl; have HLM1 := Lib.hid hlm.1
          clear C hF hfin hEL hpl hlm
          go_wp2
          refine bodyPost_ret (results_tmp2 rfl _ _ _) rfl ⟨.slice sa m cap, L, ?_, HPL2.out, ?_, HB.out⟩
          · rw [HEF.out]
            exact (rfl : _ = _)
          · rw [HLM1.out]; exact HO.out

end Go.Proofs.YtgnbgjdkhnhlkaaDoor
