/-
  The law's own list of handles, rising; two lists held against each other.
-/
import Derived.Test.YtamjhblhkabpaaaHl2
namespace Go.Proofs.Ytamjhblhkabpaaa
open Go.RowKit
set_option linter.unusedVariables false
set_option linter.unusedSimpArgs false

/-- the least handle above 'last' among the first s places -/
def Best (ls : List Plc) (last : Int) (s : Nat) (best : Int) : Prop :=
  (best = 0 ∧ ∀ j, j < s → (ls.getD j plZ).1 = true → 16 * (ls.getD j plZ).2.1 + (j : Int) ≤ last) ∨
  (last < best ∧ InH ls best ∧ ∀ j, j < s → (ls.getD j plZ).1 = true → last < 16 * (ls.getD j plZ).2.1 + (j : Int) → best ≤ 16 * (ls.getD j plZ).2.1 + (j : Int))
theorem best_zero (ls : List Plc) (last : Int) : Best ls last 0 0 := .inl ⟨rfl, fun j hj => by omega⟩
theorem best_skip {ls : List Plc} {last best : Int} {s : Nat} (h : Best ls last s best) (hn : (ls.getD s plZ).1 = true → 16 * (ls.getD s plZ).2.1 + (s : Int) ≤ last ∨ (last < best ∧ best ≤ 16 * (ls.getD s plZ).2.1 + (s : Int))) (hl : 0 ≤ last) : Best ls last (s + 1) best := by
  rcases h with ⟨h1, h2⟩ | ⟨h1, h2, h3⟩
  · refine .inl ⟨h1, fun j hj hin => ?_⟩
    by_cases e : j = s
    · subst e
      rcases hn hin with h | h
      · exact h
      · omega
    · exact h2 j (by omega) hin
  · refine .inr ⟨h1, h2, fun j hj hin hlt => ?_⟩
    by_cases e : j = s
    · subst e
      rcases hn hin with h | h
      · omega
      · exact h.2
    · exact h3 j (by omega) hin hlt
theorem best_take {ls : List Plc} {last best : Int} {s : Nat} (h : Best ls last s best) (hs : s < ls.length) (hin : (ls.getD s plZ).1 = true) (hlt : last < 16 * (ls.getD s plZ).2.1 + (s : Int)) (hb : best = 0 ∨ 16 * (ls.getD s plZ).2.1 + (s : Int) < best) (hl : 0 ≤ last) : Best ls last (s + 1) (16 * (ls.getD s plZ).2.1 + (s : Int)) := by
  refine .inr ⟨hlt, ⟨s, hs, hin, rfl⟩, fun j hj hj1 hj2 => ?_⟩
  by_cases e : j = s
  · subst e; exact Int.le_refl _
  · rcases h with ⟨h1, h2⟩ | ⟨h1, h2, h3⟩
    · have := h2 j (by omega) hj1
      omega
    · have := h3 j (by omega) hj1 hj2
      rcases hb with hb | hb
      · omega
      · omega

/-- what is told so far -/
structure Upto (ls : List Plc) (last : Int) (L : List Int) : Prop where
  asc : L.Pairwise (· < ·)
  le : ∀ x ∈ L, x ≤ last
  sub : ∀ x ∈ L, InH ls x
  all : ∀ x, InH ls x → x ≤ last → x ∈ L
theorem inH_pos {ls : List Plc} (h1 : ∀ i, i < ls.length → (ls.getD i plZ).1 = true → 1 ≤ (ls.getD i plZ).2.1) {x : Int} (h : InH ls x) : 0 < x := by
  obtain ⟨i, hi, hin, rfl⟩ := h
  have := h1 i hi hin
  omega
theorem upto_zero {ls : List Plc} (h1 : ∀ i, i < ls.length → (ls.getD i plZ).1 = true → 1 ≤ (ls.getD i plZ).2.1) : Upto ls 0 [] :=
  ⟨List.Pairwise.nil, fun x hx => (by cases hx), fun x hx => (by cases hx), fun x hx h0 => (by have := inH_pos h1 hx; omega)⟩
theorem upto_end {ls : List Plc} {last : Int} {L : List Int} (h : Upto ls last L) (hl : 0 ≤ last) (hb : Best ls last ls.length 0) : Hs ls L := by
  refine ⟨h.asc, fun x => ⟨h.sub x, fun hx => h.all x hx ?_⟩⟩
  rcases hb with ⟨-, h2⟩ | ⟨h1, -⟩
  · obtain ⟨i, hi, hin, rfl⟩ := hx
    exact h2 i hi hin
  · omega
theorem upto_next {ls : List Plc} {last best : Int} {L : List Int} (h : Upto ls last L) (hb : Best ls last ls.length best) (hne : best ≠ 0) : Upto ls best (L ++ [best]) ∧ last < best ∧ InH ls best := by
  rcases hb with ⟨h1, -⟩ | ⟨h1, h2, h3⟩
  · exact absurd h1 hne
  · refine ⟨⟨?_, fun x hx => ?_, fun x hx => ?_, fun x hx hle => ?_⟩, h1, h2⟩
    · rw [List.pairwise_append]
      refine ⟨h.asc, by simp, fun a ha b hb => ?_⟩
      rw [List.mem_singleton] at hb
      subst hb
      have := h.le a ha
      omega
    · rw [List.mem_append, List.mem_singleton] at hx
      rcases hx with hx | hx
      · have := h.le x hx; omega
      · omega
    · rw [List.mem_append, List.mem_singleton] at hx
      rcases hx with hx | hx
      · exact h.sub x hx
      · rw [hx]; exact h2
    · rw [List.mem_append, List.mem_singleton]
      by_cases hxl : x ≤ last
      · exact .inl (h.all x hx hxl)
      · refine .inr ?_
        obtain ⟨i, hi, hin, rfl⟩ := hx
        have := h3 i hi hin (by omega)
        omega

/-- handles are few: rising lists of them are short -/
theorem asc_len {L : List Int} (h : L.Pairwise (· < ·)) : ∀ {lo hi : Int}, (∀ x ∈ L, lo < x) → (∀ x ∈ L, x ≤ hi) → lo ≤ hi → (L.length : Int) ≤ hi - lo := by
  induction L with
  | nil => intro lo hi _ _ h; simp; omega
  | cons x L ih =>
    intro lo hi h1 h2 h3
    rw [List.pairwise_cons] at h
    have hx := h1 x (by simp)
    have hx2 := h2 x (by simp)
    have := ih h.2 (lo := x) (hi := hi) (fun y hy => h.1 y hy) (fun y hy => h2 y (by simp [hy])) hx2
    simp only [List.length_cons]
    omega

set_option maxRecDepth 100000 in
set_option maxHeartbeats 4000000 in
theorem all48_any (w : World) (B lb cap : Nat) (ls : List Plc) (hL : RefAt B w lb cap ls) (hF : Few 40000 ls) (h1 : ∀ i, i < ls.length → (ls.getD i plZ).1 = true → 1 ≤ (ls.getD i plZ).2.1) :
    Calls Try.prog 9 #[.slice (some ⟨lb, 0, none⟩) ls.length cap] w fun e w' => ∃ (so : Option Addr) (co : Nat) (L : List Int), e = .returned (.slice so L.length co) ∧ Hs ls L ∧ Rd w' 1 (.slice so L.length co) L.length (u64s L) ∧ Below w.heap.size w w' := by
  have hle := hL.le
  have HT := Lib.hid hL; have HF := Lib.hid hF; have H1 := Lib.hid h1; clear hL hF h1
  go_enter Try.func9, Try.ntmps9
  go_wp2_with fail
  go_loopw [3, 4] (fun u l wr => ∃ (q co : Nat) (so : Option Addr) (L : List Int) (last : Int), u = .slice so q co ∧ l = .int .u64 last ∧ q = L.length ∧ 0 ≤ last ∧ last ≤ 700000 ∧ Hid (Upto ls last L) ∧ Hid (wr.ownsRow w.heap.size 28 1 (.slice so q co) q (u64s L)) ∧ Hid (Below w.heap.size w wr)) (fun _ l _ => 1000000 - (intOf l).toNat)
  case atStart => exact ⟨0, 0, none, [], 0, rfl, rfl, rfl, Int.le_refl _, by omega, upto_zero H1.out, World.ownsRow_nil _ _ _ _, Below.refl _ _⟩
  case round =>
    obtain ⟨q, co, so, L, last, rfl, rfl, hq, hl0, hl1, HU, HO, HB⟩ := hrel
    go_wp2_with fail
    go_loopw [5, 11] (fun bv iv w2 => ∃ (best : Int) (s : Nat), bv = .int .u64 best ∧ iv = .int .i64 s ∧ s ≤ ls.length ∧ 0 ≤ best ∧ best ≤ 700000 ∧ Hid (Best ls last s best) ∧ Hid (w2.ownsRow w.heap.size 28 1 (.slice so q co) q (u64s L)) ∧ Hid (Below w.heap.size w w2)) (fun _ iv _ => ls.length - (intOf iv).toNat)
    case atStart => exact ⟨0, 0, rfl, rfl, Nat.zero_le _, Int.le_refl _, by omega, best_zero _ _, HO, HB⟩
    case round =>
      clear HO HB
      obtain ⟨best, s, rfl, rfl, hs, hb0, hb1, HBE, HO, HB⟩ := hrel
      by_cases hlt : s < ls.length
      · obtain ⟨c0, c1, c2⟩ := (HT.out.below HB.out).at hlt
        have hf := HF.out s hlt
        have hskip := fun hn => best_skip (s := s) HBE.out hn hl0
        have htake := fun q1 q2 q3 => best_take (s := s) HBE.out hlt q1 q2 q3 hl0
        obtain ⟨⟨b, t, x⟩, hp⟩ : ∃ p : Plc, ls.getD s plZ = p := ⟨_, rfl⟩
        rw [hp] at c0 c1 c2 hf hskip htake
        have f0 : 0 ≤ t := hf.1
        have f1 : t ≤ 40000 := hf.2
        have d0 : wr.cell? ⟨lb, s * 3, none⟩ = some (.bool b) := c0
        have d1 : wr.cell? ⟨lb, s * 3 + 1, none⟩ = some (.int .u64 t) := c1
        have d2 : wr.cell? ⟨lb, s * 3 + 2, none⟩ = some (.int .i64 x) := c2
        have HSK := Lib.hid hskip; have HTK := Lib.hid htake
        have hB2 : Hid (Below w.heap.size w (wr.alloc (.cells #[.bool b, .int .u64 t, .int .i64 x] 47))) := HB.out.alloc HB.out.size _
        have hO2 : Hid ((wr.alloc (.cells #[.bool b, .int .u64 t, .int .i64 x] 47)).ownsRow w.heap.size 28 1 (.slice so q co) q (u64s L)) := HO.out.alloc _
        clear hp c0 c1 c2 hf hskip htake
        cases b with
        | false =>
          have HN := Lib.hid (HSK.out (fun q => by cases q))
          clear HSK HTK
          go_wp2_with fail
          go_roundw
          case rel => exact ⟨best, s + 1, rfl, by go_num, by omega, by omega, by omega, HN, hO2, hB2⟩
          case measure => simp [intOf]; omega
        | true =>
          by_cases hgt : last < 16 * t + (s : Int)
          · by_cases hz : best = 0
            · have hq1 : (best == 0) = true := by simp [hz]
              have HN := Lib.hid (HTK.out rfl hgt (.inl hz))
              clear HSK HTK hz
              go_wp2_with fail
              go_roundw
              case rel => exact ⟨16 * t + (s : Int), s + 1, rfl, by go_num, by omega, by omega, by omega, HN, hO2, hB2⟩
              case measure => simp [intOf]; omega
            · have hq1 : (best == 0) = false := by simp [hz]
              by_cases hlb : 16 * t + (s : Int) < best
              · have HN := Lib.hid (HTK.out rfl hgt (.inr hlb))
                clear HSK HTK hz
                go_wp2_with fail
                go_roundw
                case rel => exact ⟨16 * t + (s : Int), s + 1, rfl, by go_num, by omega, by omega, by omega, HN, hO2, hB2⟩
                case measure => simp [intOf]; omega
              · have hbl : last < best := by
                  rcases HBE.out with h | h
                  · exact absurd h.1 hz
                  · exact h.1
                have HN := Lib.hid (HSK.out (fun _ => .inr ⟨hbl, by show best ≤ 16 * t + (s : Int); omega⟩))
                clear HSK HTK hz hbl
                go_wp2_with fail
                go_roundw
                case rel => exact ⟨best, s + 1, rfl, by go_num, by omega, by omega, by omega, HN, hO2, hB2⟩
                case measure => simp [intOf]; omega
          · have HN := Lib.hid (HSK.out (fun _ => .inl (by show 16 * t + (s : Int) ≤ last; omega)))
            clear HSK HTK
            go_wp2_with fail
            go_roundw
            case rel => exact ⟨best, s + 1, rfl, by go_num, by omega, by omega, by omega, HN, hO2, hB2⟩
            case measure => simp [intOf]; omega
      · obtain rfl : s = ls.length := by omega
        by_cases hz : best = 0
        · subst hz
          have HE := Lib.hid (upto_end HU.out hl0 HBE.out)
          subst hq
          go_wp2_with fail
          go_ret
          exact ⟨so, co, L, rfl, HE.out, rd_of_row HO.out, HB.out⟩
        · have hq1 : (best == 0) = false := by simp [hz]
          obtain ⟨hu2, hlb, hin⟩ := upto_next HU.out HBE.out hz
          have hlen : q ≤ 700000 := by
            have := asc_len HU.out.asc (lo := 0) (hi := last) (fun x hx => inH_pos H1.out (HU.out.sub x hx)) (fun x hx => HU.out.le x hx) hl0
            omega
          have HU2 := Lib.hid hu2
          clear hu2 hin hz HU
          subst hq
          go_wp2_with (at_builtin; refine app_u64 _ rfl _ _ rfl w.heap.size _ _ _ rfl HO.out _ _ rfl ?qg ?qn ?qb ?_)
          case qg => rfl
          case qn => omega
          case qb => exact HB.out.size
          intro v' w4 hown hchg hfresh
          obtain ⟨so', co', rfl⟩ := (rd_of_row hown).form
          rw [← u64s_snoc] at hown
          have hB4 : Below w.heap.size w w4 := HB.out.trans (hchg.below HB.out.size fun i hi => (HO.out.lt i hi).1)
          have HO4 := Lib.hid hown; have HB4 := Lib.hid hB4
          clear hown hchg hfresh hB4 HO HB HBE
          go_wp2_with fail
          go_roundw
          case rel => exact ⟨L.length + 1, co', so', L ++ [best], best, rfl, rfl, by simp, by omega, by omega, HU2, HO4, HB4⟩
          case measure => simp [intOf]; omega

end Go.Proofs.Ytamjhblhkabpaaa
