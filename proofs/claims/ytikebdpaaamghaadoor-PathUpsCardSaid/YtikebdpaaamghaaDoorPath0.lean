/- The contracts of package path's small functions. -/
import Derived.Test.YtikebdpaaamghaaDoorErr
namespace Go.Proofs.YtikebdpaaamghaaDoor
open Go.RowKit

def goodB (c : UInt8) : Bool := decide (97 ≤ c.toNat ∧ c.toNat ≤ 122 ∨ 48 ≤ c.toNat ∧ c.toNat ≤ 57 ∨ c.toNat = 45 ∨ c.toNat = 95)
def partB (s : Str) : Bool := s.all goodB && decide (1 ≤ s.length ∧ s.length ≤ 16)

theorem good_any (c : UInt8) (w : World) :
    Calls Tryd.prog 31 #[.int .u8 (c.toNat : Int)] w fun e w' => e = .returned (.bool (goodB c)) ∧ w = w' := by
  go_enter Tryd.func31, Tryd.ntmps31
  go_wp2
  all_goals (go_ret; refine ⟨ret_bool ?_, rfl⟩; rw [Bool.eq_iff_iff]; simp [goodB]; omega)

theorem wrong_any (w : World) (hg : Glob w) :
    Calls Tryd.prog 19 #[] w fun e w' => ∃ b, w.heap.size ≤ b ∧ e = .returned (.iface 46 (.pointer (some ⟨b, 0, none⟩))) ∧ FaultC w' b 10 ∧ Below w.heap.size w w' := by
  have hA : Glob (w.alloc (.cells #[.int .i64 10, .string ⟨#[]⟩, .nilIface] 50)) := hg.below ((Below.refl _ _).alloc (Nat.le_refl _) _)
  have H := Lib.hid (wrap_at w.heap.size 10 ⟨#[112, 97, 116, 104]⟩ _ hA (FaultC.mk _ _ _ _ _))
  clear hA hg
  go_enter Tryd.func19, Tryd.ntmps19
  go_wp2_with (first | (go_at_call 30; refine (of_any 10 _ rfl).mono ?_; rintro e w' ⟨rfl, rfl⟩) | (go_at_call 29; refine H.out.mono ?_; rintro e w' ⟨W, hb, rfl, rfl⟩))
  go_ret
  refine ⟨W.heap.size, ?_, rfl, FaultC.mk _ _ _ _ _, ?_⟩
  · have := hb.size; simp at this; omega
  · exact (((Below.refl _ _).alloc (Nat.le_refl _) _).trans (hb.mono (by simp))).alloc (by have := hb.size; simp at this; omega) _

theorem take_all {s : Str} {k : Nat} (hk : k < s.length) (h : (s.take k).all goodB = true) (hb : (!goodB s[k]) = false) : (s.take (k + 1)).all goodB = true := by
  rw [List.take_succ_eq_append_getElem hk, List.all_append, h]
  simpa using hb
theorem part_no {s : Str} {k : Nat} (hk : k < s.length) (hb : (!goodB s[k]) = true) : partB s = false := by
  have : s.all goodB = false := by
    rw [List.all_eq_false]
    exact ⟨s[k], List.getElem_mem hk, by simpa using hb⟩
  simp [partB, this]
theorem part_yes {s : Str} {k : Nat} (hk : k = s.length) (h : (s.take k).all goodB = true) : partB s = decide (1 ≤ s.length ∧ s.length ≤ 16) := by
  subst hk
  rw [List.take_length] at h
  simp [partB, h]

theorem part_len (s : Str) : (!List.isEmpty s && decide ((s.length : Int) ≤ 16)) = decide (1 ≤ s.length ∧ s.length ≤ 16) := by
  rw [Bool.eq_iff_iff]; cases s <;> simp; omega

set_option maxHeartbeats 400000 in
theorem part_any (s : Str) (hs : s.length ≤ 9223372036854775807) (w : World) :
    Calls Tryd.prog 20 #[S s] w fun e w' => e = .returned (.bool (partB s)) ∧ w = w' := by
  go_enter Tryd.func20, Tryd.ntmps20
  go_wp2
  go_loop [6] (fun i => ∃ k : Nat, k ≤ s.length ∧ i = .int .i64 k ∧ (s.take k).all goodB = true) (fun i => s.length - (intOf i).toNat)
  case atStart => exact ⟨0, Nat.zero_le _, rfl, rfl⟩
  case round =>
    obtain ⟨k, hk, rfl, hall⟩ := hrel
    have HA := Lib.hid hall
    clear hall
    by_cases hlt : k < s.length
    · go_wp2_with (go_at_call 31; refine (good_any s[k] _).mono ?_; rintro e w' ⟨rfl, rfl⟩)
      · have hb : (!goodB s[k]) = true := by assumption
        go_ret
        exact ⟨ret_bool (part_no hlt hb).symm, rfl⟩
      · have hb : (!goodB s[k]) = false := by assumption
        go_round
        case rel => exact ⟨k + 1, by omega, by go_num, take_all hlt HA.out hb⟩
        case measure => simp [intOf]; omega
    · have hF := Lib.hid (part_yes (Nat.le_antisymm hk (Nat.le_of_not_lt hlt)) HA.out)
      go_wp2
      all_goals (go_ret; refine ⟨ret_bool ?_, rfl⟩; first | rfl | (rw [hF.out]; exact part_len s))
end Go.Proofs.YtikebdpaaamghaaDoor
