/-
  tally.lists: all lists of numbers below limits, in order: the iterator's contract.
-/
import Derived.Test.YtnnaijbdimdhpaaRange
import Derived.Shelf.Abstract
import Derived.Laws.EntriesVeiled
import Derived.Shelf.RegionOpen
import Derived.OwnWalkIn
import Derived.TacticsInMore
import Derived.LoopNIn
import Derived.LoopIn
namespace Go.Proofs.Ytnnaijbdimdhpaa
open Go.RowKit Go.Shelf
set_option linter.unusedVariables false
attribute [local go_sem] Oper.semAt_some

/-- all lists of numbers below limits, in order -/
def allL : List Int → List (List Int)
  | [] => [[]]
  | n :: ns => (List.range n.toNat).flatMap fun x => (allL ns).map (((x : Nat) : Int) :: ·)

/-- those at one place whose first number is below x -/
def partL (p : List Int) (rest : List Int) (x : Nat) : List (List Int) := (List.range x).flatMap fun y => (allL rest).map (p ++ [((y : Nat) : Int)] ++ ·)

theorem partL_succ (p rest : List Int) (x : Nat) : partL p rest (x + 1) = partL p rest x ++ (allL rest).map (p ++ [(x : Int)] ++ ·) := by
  simp [partL, List.range_succ, List.flatMap_append]
theorem partL_all (p : List Int) (n : Int) (rest : List Int) : (allL (n :: rest)).map (p ++ ·) = partL p rest n.toNat := by
  simp only [allL, partL, List.map_flatMap, List.map_map]
  congr 1
  funext y
  congr 1
  funext z
  simp
theorem partL_pre (p rest : List Int) {x n : Nat} (h : x ≤ n) : partL p rest x <+: partL p rest n := by
  obtain ⟨d, rfl⟩ : ∃ d, n = x + d := ⟨n - x, by omega⟩
  simp only [partL, List.range_add, List.flatMap_append]
  exact List.prefix_append _ _

/-- the block of a slice's cells -/
def sBlk : Value → Option Nat
  | .slice (some a) _ _ => some a.block
  | _ => none
theorem Rd.keep {W W' : World} {sz : Nat} {v : Value} {n : Nat} {cs : List Value} (h : Rd W sz v n cs) (hk : ∀ b, sBlk v = some b → b < W.heap.size → W'.heap[b]? = W.heap[b]?) : Rd W' sz v n cs := by
  obtain ⟨h1, h2, sa, cap, rfl, hc, h3⟩ := h
  refine ⟨h1, h2, sa, cap, rfl, hc, ?_⟩
  rcases h3 with h3 | ⟨b, off, rfl, h5⟩
  · exact .inl h3
  · exact .inr ⟨b, off, rfl, fun i u hu => by have := h5 i u hu; simp only [World.cell?, hk b rfl (World.block_lt_of_cell? _ _ this)] at this ⊢; exact this⟩
theorem cell_same {W W' : World} {b o : Nat} {u : Value} (h : W.cell? ⟨b, o, none⟩ = some u) (hk : W'.heap[b]? = W.heap[b]?) : W'.cell? ⟨b, o, none⟩ = some u := by
  simp only [World.cell?, hk] at h ⊢; exact h

/-- what the iterator has laid for itself, and the limits -/
structure LF (l s Lb k : Nat) (limv : Value) (lims : List Int) (W : World) : Prop where
  y : W.cell? ⟨s, 0, none⟩ = some (.func (.yield l) #[] #[])
  ls : W.cell? ⟨s + 2, 0, none⟩ = some (.slice (some ⟨s + 1, 0, none⟩) k k)
  at' : W.cell? ⟨s + 3, 0, none⟩ = some (.func (.func 78) #[] #[.pointer (some ⟨s + 2, 0, none⟩), .pointer (some ⟨s, 0, none⟩), .pointer (some ⟨Lb, 0, none⟩), .pointer (some ⟨s + 3, 0, none⟩)])
  lb : W.cell? ⟨Lb, 0, none⟩ = some limv
  rd : Rd W 1 limv k (u64s lims)
theorem LF.same {l s Lb k : Nat} {limv : Value} {lims : List Int} {W W' : World} (h : LF l s Lb k limv lims W) (hk : ∀ b, (s ≤ b ∧ b < s + 4 ∧ b ≠ s + 1) ∨ (b = Lb ∨ sBlk limv = some b) → b < W.heap.size → W'.heap[b]? = W.heap[b]?) : LF l s Lb k limv lims W' :=
  ⟨cell_same h.y (hk _ (.inl (by omega)) (World.block_lt_of_cell? _ _ h.y)), cell_same h.ls (hk _ (.inl (by omega)) (World.block_lt_of_cell? _ _ h.ls)), cell_same h.at' (hk _ (.inl (by omega)) (World.block_lt_of_cell? _ _ h.at')), cell_same h.lb (hk _ (.inr (.inl rfl)) (World.block_lt_of_cell? _ _ h.lb)), h.rd.keep fun b hb => hk b (.inr (.inr hb))⟩

/-- the list as it stands -/
def LRow (s k : Nat) (r : List Int) (W : World) : Prop := r.length = k ∧ W.heap[s + 1]? = some (.cells (u64s r).toArray 22 (0, 0))
theorem LRow.rd {s k : Nat} {r : List Int} {W : World} (h : LRow s k r W) (hk : k ≤ maxLen) : Rd W 1 (.slice (some ⟨s + 1, 0, none⟩) k k) k (u64s r) := by
  refine ⟨by rw [u64s_len, h.1, Nat.mul_one], hk, _, _, rfl, Nat.le_refl _, .inr ⟨s + 1, 0, rfl, fun i u hu => ?_⟩⟩
  exact cell_of h.2 _ (by simpa using hu)
theorem LRow.set {s k : Nat} {r : List Int} {W : World} (h : LRow s k r W) (i : Nat) (x : Int) : LRow s k (r.set i x) (W.setCell ⟨s + 1, i, none⟩ (.int .u64 x)) := by
  refine ⟨by simpa using h.1, ?_⟩
  rw [set_of h.2, u64s_set]
  simp

theorem take_of_snoc {r p : List Int} {i : Nat} {x : Int} (h : r.take (i + 1) = p ++ [x]) (hp : p.length = i) (hi : i < r.length) : r.take i = p ∧ r.getD i 0 = x := by
  have h1 : r.take (i + 1) = r.take i ++ [r.getD i 0] := by rw [List.take_add_one, List.getElem?_eq_getElem hi]; simp [List.getD, List.getElem?_eq_getElem hi]
  rw [h1] at h
  obtain ⟨a, b⟩ := List.append_inj h (by rw [List.length_take, hp]; omega)
  exact ⟨a, by simpa using b⟩

section
variable (l s Lb k : Nat) (limv : Value) (lims : List Int) (xs : List (List Int)) (J : List (List Int) → World → Prop)

set_option maxRecDepth 100000 in
set_option maxHeartbeats 2000000 in
theorem at_any (hlen : lims.length = k) (hk : k ≤ 100000) (hpos : ∀ n ∈ lims, 0 ≤ n ∧ n < 18446744073709551616) (hLb : Lb < s) (hlv : ∀ b, sBlk limv = some b → b < s)
    (hJ : ∀ pre A B, J pre A → Chg (fun b => s ≤ b ∧ b < s + 4) A B → J pre B)
    (hY : ∀ pre x W1, J pre W1 → pre ++ [x] <+: xs → Rd W1 1 (.slice (some ⟨s + 1, 0, none⟩) k k) k (u64s x) → YieldAt Fence.wide 0 Try.prog l #[.slice (some ⟨s + 1, 0, none⟩) k k] W1 fun e W' =>
      e = .returned (.bool true) ∧ J (pre ++ [x]) W' ∧ W1.heap.size ≤ W'.heap.size ∧ ∀ b, (s ≤ b ∧ b < s + 4) ∨ (b = Lb ∨ sBlk limv = some b) → b < W1.heap.size → W'.heap[b]? = W1.heap[b]?) :
    ∀ (d i : Nat) (p : List Int) (pre : List (List Int)) (r : List Int) (W : World), i + d = k → p.length = i → LF l s Lb k limv lims W → LRow s k r W → r.take i = p → J pre W →
      pre ++ (allL (lims.drop i)).map (p ++ ·) <+: xs →
      CallsIn Fence.wide 0 Try.prog 78 #[.int .i64 i, .pointer (some ⟨s + 2, 0, none⟩), .pointer (some ⟨s, 0, none⟩), .pointer (some ⟨Lb, 0, none⟩), .pointer (some ⟨s + 3, 0, none⟩)] W fun e W' =>
        e = .returned (.bool true) ∧ J (pre ++ (allL (lims.drop i)).map (p ++ ·)) W' ∧ LF l s Lb k limv lims W' ∧ ∃ r', LRow s k r' W' ∧ r'.take i = p := by
  intro d
  induction d with
  | zero =>
    intro i p pre r W hi hp hF hr hrp hj hpre
    obtain rfl : i = k := hi
    have hd0 : lims.drop i = [] := List.drop_eq_nil_of_le (by omega)
    have hrr : r = p := by rw [← hrp, List.take_of_length_le (by rw [hr.1]; exact Nat.le_refl _)]
    subst hrr
    rw [hd0] at hpre ⊢
    simp only [allL, List.map_cons, List.map_nil, List.append_nil] at hpre ⊢
    obtain ⟨fn, tmps, assign, body, hy, hR⟩ := hY pre r W hj hpre (hr.rd (by unfold maxLen; omega))
    have hls := hF.ls
    have hyy := hF.y
    refine callsIn_of_wp Try.func78 rfl trivial ?_ rfl
    simp only [Try.ntmps78, List.size_toArray, List.length_cons, List.length_nil, Nat.reduceAdd, Nat.reduceSub, Array.replicate_succ, Array.replicate_zero, List.push_toArray, List.append_toArray, List.nil_append, List.cons_append]
    gi_wp2_with ((try refine ⟨rfl, ?_⟩); refine hR.mono ?_; rintro e W' ⟨rfl, hj', hs', hb'⟩)
    go_ret
    refine ⟨rfl, hj', hF.same fun b hb => hb' b (hb.imp (fun h => by omega) id), r, ⟨hr.1, (hb' _ (.inl (by omega)) (block_lt hr.2)).trans hr.2⟩, hrp⟩
  | succ d ih =>
    intro i p pre r W hi hp hF hr hrp hj hpre
    have hik : i < k := by omega
    obtain ⟨n, hn⟩ : ∃ n, n = lims.getD i 0 := ⟨_, rfl⟩
    have hdr : lims.drop i = n :: lims.drop (i + 1) := by
      rw [hn, List.drop_eq_getElem_cons (by omega)]; simp [List.getD, List.getElem?_eq_getElem (show i < lims.length by omega)]
    have hnb : 0 ≤ n ∧ n < 18446744073709551616 := hpos n (by rw [hn]; simp [List.getD, List.getElem?_eq_getElem (show i < lims.length by omega)])
    rw [hdr, partL_all] at hpre ⊢
    have hls := hF.ls
    have hkm : k ≤ maxLen := by unfold maxLen; omega
    obtain ⟨sa, cap, hlim⟩ := hF.rd.form
    subst hlim
    obtain ⟨g, off, rfl, hcl⟩ := hF.rd.at (by omega)
    have hgs : g < s := hlv g rfl
    have hcap := hF.rd.cap_le.1
    refine callsIn_of_wp Try.func78 rfl trivial ?_ rfl
    simp only [Try.ntmps78, List.size_toArray, List.length_cons, List.length_nil, Nat.reduceAdd, Nat.reduceSub, Array.replicate_succ, Array.replicate_zero, List.push_toArray, List.append_toArray, List.nil_append, List.cons_append]
    have hc0 : W.cell? ⟨s + 1, i, none⟩ = some (.int .u64 (r.getD i 0)) := cell_of hr.2 _ (by have := u64s_at r i (by rw [hr.1]; omega); simpa using this)
    have hf0 : W.frozen? ⟨s + 1, i, none⟩ = false := frozen_of hr.2 _
    gi_wp2
    have hfix0 : LF l s Lb k (.slice (some ⟨g, off, none⟩) k cap) lims (W.setCell ⟨s + 1, i, none⟩ (.int .u64 0)) := hF.same fun b hb _ => Below.heap_setCell _ _ _ _ (by show b ≠ s + 1; rcases hb with hb | hb | hb; omega; omega; have := hlv b hb; omega)
    have hrow0 := hr.set i 0
    have hj0 : J pre (W.setCell ⟨s + 1, i, none⟩ (.int .u64 0)) := hJ _ _ _ hj ((Chg.refl _ W).setCell (.inl (by simp)) _)
    have hp0 : (r.set i 0).take i = p := by rw [List.take_set_of_le (Nat.le_refl _)]; exact hrp
    obtain ⟨W0, hW0⟩ : ∃ W0, W0 = W.setCell ⟨s + 1, i, none⟩ (.int .u64 0) := ⟨_, rfl⟩
    rw [← hW0] at hfix0 hrow0 hj0 ⊢
    gi_loopw [] (fun wr => ∃ (x : Nat) (r' : List Int), x ≤ n.toNat ∧ LF l s Lb k (.slice (some ⟨g, off, none⟩) k cap) lims wr ∧ LRow s k r' wr ∧ r'.take i = p ∧ r'.getD i 0 = (x : Int) ∧ J (pre ++ partL p (lims.drop (i + 1)) x) wr)
      (fun wr => match wr.cell? ⟨s + 1, i, none⟩ with | some (.int _ z) => n.toNat - z.toNat | _ => 0)
    case atStart =>
      refine ⟨0, r.set i 0, Nat.zero_le _, hfix0, hrow0, hp0, ?_, by simpa [partL] using hj0⟩
      have := hr.1
      simp [List.getD, show i < r.length by omega]
    case round =>
      obtain ⟨x, r', hx, hF', hr', hrp', hrx, hj'⟩ := hrel
      clear hfix0 hrow0 hj0 hls hc0 hf0
      have hls := hF'.ls
      have hlb := hF'.lb
      have hat := hF'.at'
      have hc1 : wr.cell? ⟨s + 1, i, none⟩ = some (.int .u64 (x : Int)) := cell_of hr'.2 _ (by have := u64s_at r' i (by rw [hr'.1]; omega); rw [hrx] at this; simpa using this)
      have hf1 : wr.frozen? ⟨s + 1, i, none⟩ = false := frozen_of hr'.2 _
      have hcn : wr.cell? ⟨g, off + i, none⟩ = some (.int .u64 n) := by
        obtain ⟨b', off', e1, e2⟩ := hF'.rd.at (by omega)
        cases e1
        exact e2 i _ (by have := u64s_at lims i (by omega); rw [← hn] at this; exact this)
      by_cases hlt : x < n.toNat
      · have hltZ : (x : Int) < n := by omega
        have hcall := (ih (i + 1) (p ++ [(x : Int)]) (pre ++ partL p (lims.drop (i + 1)) x) r' wr.drew (by omega) (by simp [hp]) (hF'.same fun _ _ _ => rfl) hr' (by
          rw [List.take_add_one, List.getElem?_eq_getElem (by rw [hr'.1]; omega), hrp']
          have := hrx; simp [List.getD, List.getElem?_eq_getElem (show i < r'.length by rw [hr'.1]; omega)] at this
          simp [this]) (hJ _ _ _ hj' (Chg.refl _ wr).drew) (by
          rw [List.append_assoc, ← partL_succ]
          refine List.IsPrefix.trans ?_ hpre
          exact (List.prefix_append_right_inj pre).2 (partL_pre _ _ (by omega)))).mono (R' := fun e W' => e = .returned (.bool true) ∧ J (pre ++ partL p (lims.drop (i + 1)) (x + 1)) W' ∧ LF l s Lb k (.slice (some ⟨g, off, none⟩) k cap) lims W' ∧
            ∃ r2, LRow s k r2 W' ∧ r2.take i = p ∧ W'.cell? ⟨s + 2, 0, none⟩ = some (.slice (some ⟨s + 1, 0, none⟩) k k) ∧ W'.cell? ⟨s + 1, i, none⟩ = some (.int .u64 (x : Int)) ∧ W'.frozen? ⟨s + 1, i, none⟩ = false) (by
          rintro e W' ⟨he, hj2, hF2, r2, hr2, hrp2⟩
          rw [List.append_assoc, ← partL_succ] at hj2
          obtain ⟨t1, t2⟩ := take_of_snoc hrp2 hp (by rw [hr2.1]; omega)
          exact ⟨he, hj2, hF2, r2, hr2, t1, hF2.ls, cell_of hr2.2 _ (by have := u64s_at r2 i (by rw [hr2.1]; omega); rw [t2] at this; simpa using this), frozen_of hr2.2 _⟩)
        rw [show ((i + 1 : Nat) : Int) = (i : Int) + 1 from by omega] at hcall
        have hmx : Try.prog.follows .mixedOrders = true := by kernel_rfl
        clear hcl hn hdr ih hY hpos hpre hx hrp hr
        gi_wp2
        gi_region
        all_goals gi_wp2_with ((try refine ⟨trivial, ?_⟩); (try refine ⟨rfl, ?_⟩); refine hcall.mono ?_; rintro e W' ⟨rfl, hj2, hF2, r2, hr2, hrp2, hl2, hc2, hf2⟩)
        refine ⟨⟨x + 1, r2.set i ((x : Int) + 1), by omega, hF2.same fun b hb _ => Below.heap_setCell _ _ _ _ (by show b ≠ s + 1; rcases hb with hb | hb | hb; omega; omega; have := hlv b hb; omega), hr2.set i _, by rw [List.take_set_of_le (Nat.le_refl _)]; exact hrp2, ?_, hJ _ _ _ hj2 ((Chg.refl _ W').setCell (.inl (by simp)) _)⟩, ?_⟩
        · have := hr2.1
          simp [List.getD, show i < r2.length by omega]
        · rw [World.cell?_setCell_same' _ _ _ (by rw [hc2]; rfl), hc1]
          simp only
          omega
      · obtain rfl : x = n.toNat := by omega
        have hltZ : (n.toNat : Int) = n := by omega
        rw [hltZ] at hc1
        have hmx : Try.prog.follows .mixedOrders = true := by kernel_rfl
        clear hcl hn hdr ih hY hpos hpre hrp hr hrx hltZ hlt hx
        gi_wp2
        gi_region
        all_goals gi_wp2
        go_ret
        exact ⟨rfl, hJ _ _ _ hj' (Chg.refl _ wr).drew, hF'.same fun _ _ _ => rfl, r', hr', hrp'⟩
end

/-- 'make([]uint64, n)' inside a fence: the block that it lays. -/
theorem mkIn_u64 {F : Fence} {d : Nat} (w : World) {ops : Array Oper} {rest : List Oper} {o : Oper} {a : Act} {Q : Exit → Act → World → Prop} (hg : o.guard = none) (l c : Operand) (hop : o.op = Op.makeSlice 24 l c)
    (kl kc : IntKind) (m : Nat) (hl : a.eval l = .int kl (m : Int)) (hc : a.eval c = .int kc (m : Int)) (hm : m ≤ 1000000)
    (hK : wpListIn F d Try.prog ops Q rest (a.put o.dst (.slice (some ⟨w.heap.size, 0, none⟩) m m)) (w.alloc (.cells (u64s (List.replicate m 0)).toArray 22))) :
    wpListIn F d Try.prog ops Q (o :: rest) a w := by
  obtain ⟨i0, hi, hz0, hz1, hz2⟩ := info_parts info_u64
  refine wpListIn_plain hg fun K hK' => ?_
  have hrun := run_make (P := Try.prog) w 24 _ i0 _ Try.underlying24 hi hz0 kl kc (m : Int) (m : Int) (by omega) (Int.le_refl _) (by rw [hz2]; omega) (by omega)
  have e : madeCells (Value.cells (.int .u64 0)) ((m : Int).toNat * i0.size) = (u64s (List.replicate m 0)).toArray := by
    apply Array.toList_inj.1
    rw [hz1, show Value.cells (.int .u64 0) = #[.int .u64 0] from rfl, toList_madeCells_one, Nat.mul_one, Int.toNat_natCast]
    simp [u64s]
  rw [e, Int.toNat_natCast] at hrun
  unfold Oper.wpIn
  refine ⟨?_, ?_⟩
  · simp [Oper.about, hop]
  · rw [Oper.semAt_plain F _ _ (by rw [hop]; intro c hc'; cases hc')]
    simp [execOp, hop, hl, hc, hrun, Result.andThen]
    exact hK' _ _ hK

/-- what is known of a world behind a new block -/
theorem alloc_facts (W : World) (o : Obj) : ∃ W1, W1 = W.alloc o ∧ W1.heap.size = W.heap.size + 1 ∧ W1.heap[W.heap.size]? = some o ∧ ∀ k, k < W.heap.size → W1.heap[k]? = W.heap[k]? :=
  ⟨_, rfl, by simp, World.alloc_heap_new W o, fun k hk => Below.heap_alloc _ _ _ hk⟩
theorem cell0_of {W : World} {b : Nat} {u : Value} {e : TypeId} {f : Nat × Nat} (h : W.heap[b]? = some (.cells #[u] e f)) : W.cell? ⟨b, 0, none⟩ = some u := cell_of h 0 rfl

set_option maxRecDepth 100000 in
set_option maxHeartbeats 2000000 in
/-- the iterator that tally.lists gives -/
theorem lists_gives (Lb k : Nat) (limv : Value) (lims : List Int) (w : World) (hlen : lims.length = k) (hk : k ≤ 100000) (hpos : ∀ n ∈ lims, 0 ≤ n ∧ n < 18446744073709551616) (hLb : w.cell? ⟨Lb, 0, none⟩ = some limv) (hrd : Rd w 1 limv k (u64s lims))
    (hlv : ∀ b, sBlk limv = some b → b < w.heap.size) :
    GivesOwn Try.prog 77 #[.pointer (some ⟨Lb, 0, none⟩)] (fun (_ : List Int) s => .slice (some ⟨s + 1, 0, none⟩) k k) (fun x s W => Rd W 1 (.slice (some ⟨s + 1, 0, none⟩) k k) k (u64s x)) (allL lims) 4 (fun b => b = Lb ∨ sBlk limv = some b) w := by
  intro l J W hW hJ hY h0
  have hLs : Lb < w.heap.size := World.block_lt_of_cell? _ _ hLb
  have hsz := hW.size
  have hkp : ∀ b, (b = Lb ∨ sBlk limv = some b) → b < w.heap.size := fun b hb => hb.elim (fun e => e ▸ hLs) (hlv b)
  obtain ⟨sa, cap, hlim⟩ := hrd.form
  have hcap : k ≤ cap := by rw [hlim] at hrd; exact hrd.cap_le.1
  obtain ⟨fv, hfv⟩ : ∃ fv, fv = Value.func (.func 78) #[] #[.pointer (some ⟨W.heap.size + 2, 0, none⟩), .pointer (some ⟨W.heap.size, 0, none⟩), .pointer (some ⟨Lb, 0, none⟩), .pointer (some ⟨W.heap.size + 3, 0, none⟩)] := ⟨_, rfl⟩
  have hlb0 : W.cell? ⟨Lb, 0, none⟩ = some limv := cell_same hLb (hW.block _ hLs)
  subst hlim
  have hlb1 : ∀ o, (W.alloc o).cell? ⟨Lb, 0, none⟩ = some (.slice sa k cap) := fun o => cell_same hlb0 (Below.heap_alloc _ _ _ (by omega))
  have hfin : ∀ W5, W5 = (((W.alloc (.cells #[.func (.yield l) #[] #[]] 115)).alloc (.cells (u64s (List.replicate k 0)).toArray 22)).alloc (.cells #[.slice (some ⟨W.heap.size + 1, 0, none⟩) k k] 24)).alloc (.cells #[fv] 116) →
      CallsIn Fence.wide 0 Try.prog 78 #[.int .i64 0, .pointer (some ⟨W.heap.size + 1 + 1, 0, none⟩), .pointer (some ⟨W.heap.size, 0, none⟩), .pointer (some ⟨Lb, 0, none⟩), .pointer (some ⟨W.heap.size + 1 + 1 + 1, 0, none⟩)] W5 fun e W' => e = .returned (.bool true) ∧ J (allL lims) W' := by
    intro W5 h5
    obtain ⟨W1, e1, s1, n1, k1⟩ := alloc_facts W (.cells #[.func (.yield l) #[] #[]] 115)
    obtain ⟨W2, e2, s2, n2, k2⟩ := alloc_facts W1 (.cells (u64s (List.replicate k 0)).toArray 22)
    obtain ⟨W3, e3, s3, n3, k3⟩ := alloc_facts W2 (.cells #[.slice (some ⟨W.heap.size + 1, 0, none⟩) k k] 24)
    obtain ⟨W4, e4, s4, n4, k4⟩ := alloc_facts W3 (.cells #[fv] 116)
    rw [← e1, ← e2, ← e3, ← e4] at h5
    subst h5
    rw [s1] at n2
    rw [s2, s1] at n3
    rw [s3, s2, s1] at n4
    have hc : Chg (fun b => W.heap.size ≤ b ∧ b < W.heap.size + 4) W W5 := by
      rw [e4, e3, e2, e1]
      exact (((Chg.refl _ W).alloc _).alloc _).alloc _ |>.alloc _
    have kw : ∀ b, b < W.heap.size → W5.heap[b]? = W.heap[b]? := fun b hb => hc.block b hb (by omega)
    have hF : LF l W.heap.size Lb k (.slice sa k cap) lims W5 := by
      refine ⟨cell0_of ((k4 _ (by omega)).trans ((k3 _ (by omega)).trans ((k2 _ (by omega)).trans n1))), cell0_of ((k4 _ (by omega)).trans n3), ?_, cell_same hlb0 (kw _ (by omega)), ?_⟩
      · rw [cell0_of n4, hfv]
      · exact hrd.keep fun b hb _ => (kw _ (by have := hlv b hb; omega)).trans (hW.block _ (hlv b hb))
    have hR : LRow W.heap.size k (List.replicate k 0) W5 := ⟨by simp, (k4 _ (by omega)).trans ((k3 _ (by omega)).trans n2)⟩
    have := at_any l W.heap.size Lb k (.slice sa k cap) lims (allL lims) J hlen hk hpos (by omega) (fun b hb => by have := hlv b hb; omega) hJ hY k 0 [] [] (List.replicate k 0) W5 (by omega) rfl hF hR rfl (hJ _ _ _ h0 hc) (by simp)
    refine this.mono ?_
    rintro e W' ⟨he, hj, _⟩
    exact ⟨he, by simpa using hj⟩
  subst hfv
  refine callsIn_of_wp Try.func77 rfl trivial ?_ rfl
  simp only [Try.ntmps77, List.size_toArray, List.length_cons, List.length_nil, Nat.reduceAdd, Nat.reduceSub, Array.replicate_succ, Array.replicate_zero, List.push_toArray, List.append_toArray, List.nil_append, List.cons_append]
  gi_wp2_with (first
    | (gi_at_make; refine mkIn_u64 _ rfl _ _ rfl .i64 .i64 k rfl rfl (by omega) ?_)
    | ((try refine ⟨trivial, ?_⟩); (try refine ⟨rfl, ?_⟩); refine (hfin _ rfl).mono ?_; rintro e W' ⟨rfl, hj'⟩))
  go_end0
  exact ⟨⟨_, rfl⟩, hj'⟩

end Go.Proofs.Ytnnaijbdimdhpaa
