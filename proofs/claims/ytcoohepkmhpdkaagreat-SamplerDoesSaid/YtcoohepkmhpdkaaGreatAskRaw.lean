/-
  An ask that came in: three numbers and words.
-/
import Derived.Test.YtcoohepkmhpdkaaGreatLawSC
import Derived.OpenShut
import Derived.ChangeSame
import Derived.SizedLaws
namespace Go.Proofs.YtcoohepkmhpdkaaGreat
open Go.RowKit Go.ChangeShapes Go.WideShapes
set_option linter.unusedVariables false
set_option linter.unusedSimpArgs false

theorem bytes_u64 : Tryz.prog.bytesOf 48 = 8 := by kernel_rfl
theorem cells_int : Tryz.prog.cellsOf 3 = 1 := by kernel_rfl
theorem cells_u64s : Tryz.prog.cellsOf 22 = 1 := by kernel_rfl
theorem cells_ask : Tryz.prog.cellsOf 24 = 4 := by kernel_rfl

set_option maxRecDepth 100000 in
theorem ask_of_raw {H : Type} {enc : TypeId × Value → H} {w : World} {b0 : Nat} {v : Value} {d : DataW H} {p : List MemPlace} {ts : List TypeId} {ds : List (DataW H)} {j : Nat}
    (hok : Value.okWide Tryz.prog w .any b0 24 v) (h : DataW.Trod enc Tryz.prog w 0 (fun _ => true) true 24 v d p)
    (hsz : (DataW.weightsEach Tryz.prog ts ds).all (· ≤ reachBytes) = true) (hj : ts[j]? = some 24) (hd : ds[j]? = some d) :
    ∃ (K N k : Int) (a : Option Addr) (len cap : Nat) (ws : List Nat), v = .agg #[.int .i64 K, .int .i64 N, .int .i64 k, .slice a len cap] ∧ Rd w 1 (.slice a len cap) len (u64s (zsN ws)) ∧ W64 ws ∧ len ≤ 17592186043904 := by
  obtain ⟨cs, rfl, hcs⟩ := okWide_struct Tryz.underlying24 hok
  rw [cells_ask] at hcs
  obtain ⟨fuel, hf⟩ := h
  obtain ⟨l, rfl⟩ : ∃ l : List Value, cs = l.toArray := ⟨cs.toList, by simp⟩
  obtain ⟨c0, c1, c2, c3, rfl⟩ : ∃ c0 c1 c2 c3, l = [c0, c1, c2, c3] := by
    have hl : l.length = 4 := by simpa using hcs
    match l, hl with
    | [a, b, c, d], _ => exact ⟨a, b, c, d, rfl⟩
  obtain ⟨xs, n, rfl, hx, hl, hlen, hfld⟩ := DataW.trod_struct Tryz.underlying24 hf
  have e0 := hfld 0 _ rfl
  have e1 := hfld 1 _ rfl
  have e2 := hfld 2 _ rfl
  have e3 := hfld 3 _ rfl
  have hlen4 : xs.length = 4 := hlen
  obtain ⟨y0, y1, y2, y3, rfl⟩ : ∃ y0 y1 y2 y3, xs = [y0, y1, y2, y3] := by
    match xs, hlen4 with
    | [a, b, c, d], _ => exact ⟨a, b, c, d, rfl⟩
  have f0 : DataW.trod enc Tryz.prog w 0 (fun _ => true) true n 3 [c0] = some y0 := e0
  have f1 : DataW.trod enc Tryz.prog w 0 (fun _ => true) true n 3 [c1] = some y1 := e1
  have f2 : DataW.trod enc Tryz.prog w 0 (fun _ => true) true n 3 [c2] = some y2 := e2
  have f3 : DataW.trod enc Tryz.prog w 0 (fun _ => true) true n 22 [c3] = some y3 := e3
  obtain ⟨K, k0, -, -⟩ := DataW.trod_int Tryz.underlying3 f0
  obtain ⟨N, k1, -, -⟩ := DataW.trod_int Tryz.underlying3 f1
  obtain ⟨k, k2, -, -⟩ := DataW.trod_int Tryz.underlying3 f2
  simp only [List.cons.injEq, and_true] at k0 k1 k2
  subst k0; subst k1; subst k2
  rcases open_ints Tryz.underlying22 Tryz.underlying48 (by kernel_rfl) f3 with ⟨hc, _⟩ | ⟨x, len, cap, zs, hc, _, hlc, hm, hz, hx3, hcell, hwz⟩
  · simp only [List.cons.injEq, and_true] at hc
    subst hc
    exact ⟨K, N, k, none, 0, 0, [], rfl, Rd.nil _ _, (fun a ha => by cases ha), by omega⟩
  · simp only [List.cons.injEq, and_true] at hc
    subst hc
    have hz' : zs.length = cap := by simpa using hz
    obtain ⟨ws, hr, hw⟩ := rd_words (w := w) (a := some x) (len := len) (cap := cap) (zs := zs) (.inr ⟨x, rfl, hlc, hm, hz', hcell, hwz⟩)
    refine ⟨K, N, k, some x, len, cap, ws, rfl, hr, hw, ?_⟩
    simp only [Prod.mk.injEq] at hx
    obtain ⟨hx, -⟩ := hx
    have hmem : ((lits .u64 (zs.take len) : List (DataW H)).length + (lits .u64 (zs.drop len) : List (DataW H)).length) * Tryz.prog.bytesOf 48 ∈ d.weights Tryz.prog 24 := by
      rw [hx]
      simp only [DataW.weights, Tryz.underlying24]
      refine DataW.weights_mem_each (j := 3) (t := 22) rfl (congrArg some (congrArg Prod.fst hx3)) _ ?_
      simp [DataW.weights, Tryz.underlying22]
    have hreach := List.all_eq_true.1 hsz _ (DataW.weights_mem_each hj hd _ hmem)
    rw [bytes_u64] at hreach
    simp only [lits, List.length_map, List.length_take, List.length_drop, reachBytes, decide_eq_true_eq] at hreach
    omega

end Go.Proofs.YtcoohepkmhpdkaaGreat
