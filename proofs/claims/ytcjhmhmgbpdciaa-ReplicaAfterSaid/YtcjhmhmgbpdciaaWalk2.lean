/- The law's walk. -/
import Derived.Test.YtcjhmhmgbpdciaaEq
import Derived.Lib.Hide
namespace Go.Proofs.Ytcjhmhmgbpdciaa
open Go.RowKit

theorem Stp.less_iff (s t : Stp) : s.less t = true ↔ (s.wall < t.wall ∨ s.wall = t.wall ∧ (s.logical < t.logical ∨ s.logical = t.logical ∧ s.node < t.node)) := by
  unfold Stp.less lessB
  split
  · split
    · simp_all
    · simp_all
  · simp_all

theorem Stp.after_cases (s : Stp) (h : s.ok) : (s.node < 4294967295 ∧ s.after = ⟨s.wall, s.logical, s.node + 1⟩) ∨ (s.node = 4294967295 ∧ s.logical < 4294967295 ∧ s.after = ⟨s.wall, s.logical + 1, 0⟩) ∨
    (s.node = 4294967295 ∧ s.logical = 4294967295 ∧ s.wall < 18446744073709551615 ∧ s.after = ⟨s.wall + 1, 0, 0⟩) ∨ (s.node = 4294967295 ∧ s.logical = 4294967295 ∧ s.wall = 18446744073709551615 ∧ s.after = s) := by
  obtain ⟨⟨h1, h2⟩, ⟨h3, h4⟩, h5, h6⟩ := h
  unfold Stp.after
  split
  · exact .inl ⟨‹_›, rfl⟩
  · split
    · exact .inr (.inl ⟨by omega, ‹_›, rfl⟩)
    · split
      · exact .inr (.inr (.inl ⟨by omega, by omega, ‹_›, rfl⟩))
      · exact .inr (.inr (.inr ⟨by omega, by omega, by omega, rfl⟩))

theorem Stp.less_after (s : Stp) (h : s.ok) (hl : ¬ (s.wall = 18446744073709551615 ∧ s.logical = 4294967295 ∧ s.node = 4294967295)) : s.less s.after = true := by
  rw [Stp.less_iff]
  rcases s.after_cases h with ⟨_, e⟩ | ⟨_, _, e⟩ | ⟨_, _, _, e⟩ | ⟨_, _, _, _⟩
  · rw [e]; dsimp; omega
  · rw [e]; dsimp; omega
  · rw [e]; dsimp; omega
  · omega

theorem Stp.after_least (s t : Stp) (h : s.ok) (ht : t.ok) (hst : s.less t = true) : t.less s.after = false := by
  obtain ⟨⟨k1, k2⟩, ⟨k3, k4⟩, k5, k6⟩ := ht
  rw [Bool.eq_false_iff, ne_eq, Stp.less_iff]
  rw [Stp.less_iff] at hst
  rcases s.after_cases h with ⟨_, e⟩ | ⟨_, _, e⟩ | ⟨_, _, _, e⟩ | ⟨_, _, _, e⟩ <;> rw [e] <;> (try dsimp) <;> omega




attribute [local go_sem high] eq_stamp

theorem boxed {w w1 : World} (cs : Array Value) (t : TypeId) (h : Below (w.alloc (.cells cs t)).heap.size (w.alloc (.cells cs t)) w1) :
    (∀ o, w1.cell? ⟨w.heap.size, o, none⟩ = cs[o]?) ∧ Below w.heap.size w w1 ∧ w.heap.size < w1.heap.size := by
  refine ⟨fun o => ?_, ?_, ?_⟩
  · rw [h.cell (p := ⟨w.heap.size, o, none⟩) (by simp)]
    simp [go_sem]
  · exact ((Below.refl _ _).alloc (Nat.le_refl _) _).trans (h.mono (by simp))
  · have := h.size
    simp at this
    omega

def AfterIs (a b c p q r : Int) : Prop := ∀ w : World, Calls Try.prog 4 #[stV a b c] w fun e w' => e = .returned (stV p q r) ∧ Below w.heap.size w w'

set_option maxHeartbeats 400000 in
theorem law_last (a b c x y z p q r : Int) (w : World) (H : AfterIs a b c p q r) (he : eqB a b c 18446744073709551615 4294967295 4294967295 = true) (hf : eqB p q r 18446744073709551615 4294967295 4294967295 = true) :
    Calls Try.prog 3 #[.agg #[.int .u64 a, .int .u32 b, .int .u32 c, .int .u64 x, .int .u32 y, .int .u32 z]] w fun e w' => e = .returned (.bool true) ∧ Below w.heap.size w w' := by
  go_enter Try.func3, Try.ntmps3
  go_wp2_with fail
  refine (H _).mono ?_
  rintro e w1 ⟨rfl, hb1⟩
  obtain ⟨hc, hb, hz⟩ := boxed _ _ hb1
  have h0 := hc 0; have h1 := hc 1; have h2 := hc 2
  clear hc hb1
  simp at h0 h1 h2
  have HB := Lib.hid hb
  clear hb
  go_wp2_with fail
  go_ret
  exact ⟨rfl, (HB.out.alloc (by omega) _).alloc (by simp; omega) _⟩

def LessIs (a b c x y z : Int) (r : Bool) : Prop := ∀ w : World, Calls Try.prog 5 #[stV a b c, stV x y z] w fun e w' => e = .returned (.bool r) ∧ Below w.heap.size w w'

theorem later {w w1 : World} {B : Nat} (h : Below B w w1) {b o : Nat} {v : Option Value} (hb : b < B) (hc : w.cell? ⟨b, o, none⟩ = v) : w1.cell? ⟨b, o, none⟩ = v := (h.cell (p := ⟨b, o, none⟩) hb).trans hc


/-- A block that holds these cells. -/
def Box (w : World) (b : Nat) (cs : Array Value) : Prop := b < w.heap.size ∧ ∀ o, w.cell? ⟨b, o, none⟩ = cs[o]?
theorem Box.later {w w1 : World} {B b : Nat} {cs : Array Value} (h : Box w b cs) (hb : Below B w w1) (hB : b < B) : Box w1 b cs :=
  ⟨Nat.lt_of_lt_of_le h.1 hb.size, fun o => (hb.cell (p := ⟨b, o, none⟩) hB).trans (h.2 o)⟩
theorem Box.alloc {w : World} {b : Nat} {cs : Array Value} (h : Box w b cs) (o : Obj) : Box (w.alloc o) b cs := by
  refine ⟨by have := h.1; simp; omega, fun k => ?_⟩
  rw [← h.2 k, World.cell?_of_block (w := w)]
  exact Below.heap_alloc w o b h.1
theorem Box.new (w : World) (cs : Array Value) (t : TypeId) : Box (w.alloc (.cells cs t)) w.heap.size cs := ⟨by simp, fun o => by simp [go_sem]⟩
theorem Box.new' (w : World) (cs : Array Value) (t : TypeId) (n : Nat) (h : w.heap.size = n) : Box (w.alloc (.cells cs t)) n cs := h ▸ Box.new w cs t

set_option maxHeartbeats 400000 in
theorem law_other (a b c x y z p q r : Int) (k : Bool) (w : World) (H : AfterIs a b c p q r) (he : eqB a b c 18446744073709551615 4294967295 4294967295 = false)
    (L1 : LessIs a b c p q r true) (L2 : LessIs a b c x y z k) (L3 : k = true → LessIs x y z p q r false) :
    Calls Try.prog 3 #[.agg #[.int .u64 a, .int .u32 b, .int .u32 c, .int .u64 x, .int .u32 y, .int .u32 z]] w fun e w' => e = .returned (.bool true) ∧ Below w.heap.size w w' := by
  go_enter Try.func3, Try.ntmps3
  go_wp2_with fail
  refine (H _).mono ?_
  rintro e w1 ⟨rfl, hb1⟩
  have B1 := (Box.new w #[.int .u64 a, .int .u32 b, .int .u32 c, .int .u64 x, .int .u32 y, .int .u32 z] 27).later hb1 (by simp)
  obtain ⟨-, hb, hz⟩ := boxed _ _ hb1
  clear hb1
  have HB := Lib.hid hb
  clear hb
  have hc := B1.2
  go_wp2_with fail
  refine (L1 _).mono ?_
  rintro e w2 ⟨rfl, hb2⟩
  have B2 := ((B1.alloc _).alloc _).later hb2 (by simp; omega)
  have C2 := ((Box.new w1 _ _).alloc _).later hb2 (by simp; omega)
  have HB2 := Lib.hid (((HB.out.alloc (by omega) _).alloc (by simp; omega) _).trans (hb2.mono (by simp; omega)))
  have hz2 : w.heap.size < w2.heap.size := B2.1
  clear hb2 B1 hc HB hz
  have hc2 := B2.2
  have hd2 := C2.2
  cases k
  · go_wp2_with fail
    refine (L2 _).mono ?_
    rintro e w3 ⟨rfl, hb3⟩
    have HB3 := Lib.hid (HB2.out.trans (hb3.mono (by omega)))
    clear hb3
    go_wp2_with fail
    go_ret
    exact ⟨rfl, HB3.out⟩
  · have L3' := L3 rfl
    clear L3
    go_wp2_with fail
    refine (L2 _).mono ?_
    rintro e w3 ⟨rfl, hb3⟩
    have B3 := B2.later hb3 hz2
    have C3 := C2.later hb3 C2.1
    have HB3 := Lib.hid (HB2.out.trans (hb3.mono (by omega)))
    have hz3 : w.heap.size < w3.heap.size := B3.1
    have hc3 := B3.2
    have hd3 := C3.2
    clear hb3 B2 C2 hc2 hd2
    go_wp2_with fail
    refine (L3' _).mono ?_
    rintro e w4 ⟨rfl, hb4⟩
    have HB4 := Lib.hid (HB3.out.trans (hb4.mono (by omega)))
    clear hb4
    go_wp2_with fail
    go_ret
    exact ⟨rfl, HB4.out⟩

theorem law_any (s t : Stp) (h : s.ok) (ht : t.ok) (w : World) :
    Calls Try.prog 3 #[.agg #[.int .u64 s.wall, .int .u32 s.logical, .int .u32 s.node, .int .u64 t.wall, .int .u32 t.logical, .int .u32 t.node]] w fun e w' => e = .returned (.bool true) ∧ Below w.heap.size w w' := by
  have A : AfterIs s.wall s.logical s.node s.after.wall s.after.logical s.after.node := fun w => after_any s h w
  have L : ∀ x y : Stp, LessIs x.wall x.logical x.node y.wall y.logical y.node (x.less y) := fun x y w => below_any _ _ _ _ _ _ w
  by_cases hl : s.wall = 18446744073709551615 ∧ s.logical = 4294967295 ∧ s.node = 4294967295
  · have hA : s.after = s := by
      obtain ⟨h1, h2, h3⟩ := hl
      simp [Stp.after, h1, h2, h3]
    rw [hA] at A
    have he : eqB s.wall s.logical s.node 18446744073709551615 4294967295 4294967295 = true := by simp [eqB, hl]
    exact law_last _ _ _ _ _ _ _ _ _ w A he he
  · have he : eqB s.wall s.logical s.node 18446744073709551615 4294967295 4294967295 = false := by
      rw [Bool.eq_false_iff, ne_eq]
      simp only [eqB, Bool.and_eq_true, beq_iff_eq]
      exact hl
    have L1 := L s s.after
    rw [Stp.less_after s h hl] at L1
    by_cases hk : s.less t = true
    · have L3 := L t s.after
      rw [Stp.after_least s t h ht hk] at L3
      exact law_other _ _ _ _ _ _ _ _ _ _ w A he L1 (L s t) (fun _ => L3)
    · have L2 := L s t
      rw [Bool.eq_false_iff.2 hk] at L2
      exact law_other _ _ _ _ _ _ _ _ _ false w A he L1 L2 (fun h => by cases h)

end Go.Proofs.Ytcjhmhmgbpdciaa
