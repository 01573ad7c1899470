/- Walks of the three functions. -/
import Derived.Test.YtcjhmhmgbpdciaaRows
import Derived.WalkKit
import Derived.WalkSpells
import Derived.WalkLawsBesides
import Derived.Handy
namespace Go.Proofs.Ytcjhmhmgbpdciaa
open Go.RowKit

abbrev stV (a b c : Int) : Value := .agg #[.int .u64 a, .int .u32 b, .int .u32 c]

def lessB (a b c x y z : Int) : Bool := if a = x then if b = y then decide (c < z) else decide (b < y) else decide (a < x)

set_option maxHeartbeats 1000000 in
theorem below_any (a b c x y z : Int) (w : World) :
    Calls Try.prog 5 #[stV a b c, stV x y z] w fun e w' => e = .returned (.bool (lessB a b c x y z)) ∧ Below w.heap.size w w' := by
  have HB : Below w.heap.size w ((w.alloc (.cells #[.int .u64 a, .int .u32 b, .int .u32 c] 25)).alloc (.cells #[.int .u64 x, .int .u32 y, .int .u32 z] 25)) :=
    ((Below.refl _ _).alloc (Nat.le_refl _) _).alloc (by simp) _
  by_cases h1 : a = x
  · have h1b : (a != x) = false := by simpa using h1
    by_cases h2 : b = y
    · have h2b : (b != y) = false := by simpa using h2
      have hd : lessB a b c x y z = decide (c < z) := by simp [lessB, h1, h2]
      rw [hd]; clear hd h1 h2
      go_enter Try.func5, Try.ntmps5
      go_wp2
      go_ret
      exact ⟨rfl, HB⟩
    · have h2b : (b != y) = true := by simpa using h2
      have hd : lessB a b c x y z = decide (b < y) := by simp [lessB, h1, h2]
      rw [hd]; clear hd h1 h2
      go_enter Try.func5, Try.ntmps5
      go_wp2
      go_ret
      exact ⟨rfl, HB⟩
  · have h1b : (a != x) = true := by simpa using h1
    have hd : lessB a b c x y z = decide (a < x) := by simp [lessB, h1]
    rw [hd]; clear hd h1
    go_enter Try.func5, Try.ntmps5
    go_wp2
    go_ret
    exact ⟨rfl, HB⟩


theorem two_below (w : World) (cs ds : Array Value) (t u : TypeId) : Below w.heap.size w ((w.alloc (.cells cs t)).alloc (.cells ds u)) :=
  ((Below.refl _ _).alloc (Nat.le_refl _) _).alloc (by simp) _

set_option maxHeartbeats 1000000 in
theorem after_1 (a b c : Int) (w : World) (h0 : 0 ≤ c) (h : c < 4294967295) :
    Calls Try.prog 4 #[stV a b c] w fun e w' => e = .returned (stV a b (c + 1)) ∧ Below w.heap.size w w' := by
  have hb : decide (c < 4294967295) = true := by simpa using h
  go_enter Try.func4, Try.ntmps4
  go_wp2
  exact bodyPost_ret (v := stV a b (c + 1)) (by simp [results, Try.results4, go_sem]) rfl ⟨rfl, two_below _ _ _ _ _⟩

set_option maxHeartbeats 1000000 in
theorem after_2 (a b c : Int) (w : World) (hc : decide (c < 4294967295) = false) (h0 : 0 ≤ b) (h : b < 4294967295) :
    Calls Try.prog 4 #[stV a b c] w fun e w' => e = .returned (stV a (b + 1) 0) ∧ Below w.heap.size w w' := by
  have hb : decide (b < 4294967295) = true := by simpa using h
  go_enter Try.func4, Try.ntmps4
  go_wp2
  exact bodyPost_ret (v := stV a (b + 1) 0) (by simp [results, Try.results4, go_sem]) rfl ⟨rfl, two_below _ _ _ _ _⟩

set_option maxHeartbeats 1000000 in
theorem after_3 (a b c : Int) (w : World) (hc : decide (c < 4294967295) = false) (hb : decide (b < 4294967295) = false) (h0 : 0 ≤ a) (h : a < 18446744073709551615) :
    Calls Try.prog 4 #[stV a b c] w fun e w' => e = .returned (stV (a + 1) 0 0) ∧ Below w.heap.size w w' := by
  have hb : decide (a < 18446744073709551615) = true := by simpa using h
  have hw : IntKind.u64.wrap (a + 1) = a + 1 := IntWalk.u64_in _ (by omega)
  go_enter Try.func4, Try.ntmps4
  go_wp2
  exact bodyPost_ret (v := stV (a + 1) 0 0) (by simp [results, Try.results4, go_sem]) rfl ⟨rfl, two_below _ _ _ _ _⟩

set_option maxHeartbeats 1000000 in
theorem after_4 (a b c : Int) (w : World) (hc : decide (c < 4294967295) = false) (hb : decide (b < 4294967295) = false) (ha : decide (a < 18446744073709551615) = false) :
    Calls Try.prog 4 #[stV a b c] w fun e w' => e = .returned (stV a b c) ∧ Below w.heap.size w w' := by
  go_enter Try.func4, Try.ntmps4
  go_wp2
  exact bodyPost_ret (v := stV a b c) (by simp [results, Try.results4, go_sem]) rfl ⟨rfl, two_below _ _ _ _ _⟩

/-- A stamp as three numbers. -/
structure Stp where
  wall : Int
  logical : Int
  node : Int

def Stp.ok (s : Stp) : Prop := (0 ≤ s.wall ∧ s.wall ≤ 18446744073709551615) ∧ (0 ≤ s.logical ∧ s.logical ≤ 4294967295) ∧ 0 ≤ s.node ∧ s.node ≤ 4294967295
abbrev Stp.v (s : Stp) : Value := stV s.wall s.logical s.node
def Stp.less (s t : Stp) : Bool := lessB s.wall s.logical s.node t.wall t.logical t.node
def Stp.after (s : Stp) : Stp :=
  if s.node < 4294967295 then ⟨s.wall, s.logical, s.node + 1⟩ else if s.logical < 4294967295 then ⟨s.wall, s.logical + 1, 0⟩ else if s.wall < 18446744073709551615 then ⟨s.wall + 1, 0, 0⟩ else s

theorem after_any (s : Stp) (h : s.ok) (w : World) :
    Calls Try.prog 4 #[s.v] w fun e w' => e = .returned s.after.v ∧ Below w.heap.size w w' := by
  obtain ⟨⟨h1, h2⟩, ⟨h3, h4⟩, h5, h6⟩ := h
  unfold Stp.after
  by_cases c1 : s.node < 4294967295
  · rw [if_pos c1]; exact after_1 _ _ _ w h5 c1
  · rw [if_neg c1]
    have d1 : decide (s.node < 4294967295) = false := by simpa using c1
    by_cases c2 : s.logical < 4294967295
    · rw [if_pos c2]; exact after_2 _ _ _ w d1 h3 c2
    · rw [if_neg c2]
      have d2 : decide (s.logical < 4294967295) = false := by simpa using c2
      by_cases c3 : s.wall < 18446744073709551615
      · rw [if_pos c3]; exact after_3 _ _ _ w d1 d2 h1 c3
      · rw [if_neg c3]; exact after_4 _ _ _ w d1 d2 (by simpa using c3)

end Go.Proofs.Ytcjhmhmgbpdciaa
