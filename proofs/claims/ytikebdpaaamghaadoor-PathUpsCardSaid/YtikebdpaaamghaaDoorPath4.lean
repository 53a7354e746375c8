/- The contracts of the reference of layer 5 and of the law's own helpers. -/
import Derived.Test.YtikebdpaaamghaaDoorPath3
import Derived.Deep.Light
import Derived.WalkSmall
namespace Go.Proofs.YtikebdpaaamghaaDoor
open Go.RowKit

theorem good_of (c : UInt8) (h : 97 ≤ c.toNat ∧ c.toNat ≤ 122 ∨ 48 ≤ c.toNat ∧ c.toNat ≤ 57 ∨ c.toNat = 45 ∨ c.toNat = 95) : (!goodB c) = false := by simp [goodB, h]
theorem bad_of (c : UInt8) (h : ¬ (97 ≤ c.toNat ∧ c.toNat ≤ 122 ∨ 48 ≤ c.toNat ∧ c.toNat ≤ 57 ∨ c.toNat = 45 ∨ c.toNat = 95)) : (!goodB c) = true := by simp [goodB, h]

set_option maxHeartbeats 1000000 in
theorem refPart_any (s : Str) (hs : s.length ≤ 9223372036854775807) (w : World) :
    Calls Tryd.prog 21 #[S s] w fun e w' => e = .returned (.bool (partB s)) ∧ w = w' := by
  go_enter Tryd.func21, Tryd.ntmps21
  go_wp2
  go_loop [3] (fun i => ∃ k : Nat, k ≤ s.length ∧ i = .int .i64 k ∧ (s.take k).all goodB = true) (fun i => s.length - (intOf i).toNat)
  case atStart => exact ⟨0, Nat.zero_le _, rfl, rfl⟩
  case round =>
    obtain ⟨k, hk, rfl, hall⟩ := hrel
    have HA := Lib.hid hall
    clear hall
    by_cases hlt : k < s.length
    · go_wp2
      all_goals first
        | (have hb : (!goodB s[k]) = true := bad_of ({ data := s.toArray } : ByteArray)[k] (by go_light; simp at *; omega)
           go_ret
           exact ⟨ret_bool (part_no hlt hb).symm, rfl⟩)
        | (have hb : (!goodB s[k]) = false := good_of ({ data := s.toArray } : ByteArray)[k] (by go_light; simp at *; omega)
           go_round
           case rel => exact ⟨k + 1, by omega, by go_num, take_all hlt HA.out hb⟩
           case measure => simp [intOf]; omega)
    · have hF := Lib.hid (part_yes (Nat.le_antisymm hk (Nat.le_of_not_lt hlt)) HA.out)
      go_wp2
      all_goals (go_ret; refine ⟨ret_bool ?_, rfl⟩; rw [hF.out, Bool.eq_iff_iff]; simp; omega)

def refMadeB (l : List Str) : Bool := l.all partB && decide (l.length < 7)
set_option maxHeartbeats 1000000 in
theorem refMade_any (l : List Str) (v : Value) (w : World) (M : List Nat) (hs : SlOf w M v l) :
    Calls Tryd.prog 7 #[v] w fun e w' => e = .returned (.bool (madeB l)) ∧ w = w' := by
  obtain ⟨a, c, rfl, hlc, hc48, -, hrow⟩ := hs
  go_enter Tryd.func7, Tryd.ntmps7
  go_wp2
  go_loop [7] (fun i => ∃ k : Nat, k ≤ l.length ∧ i = .int .i64 k ∧ (l.take k).all partB = true) (fun i => l.length - (intOf i).toNat)
  case atStart => exact ⟨0, Nat.zero_le _, rfl, rfl⟩
  case round =>
    obtain ⟨k, hk, rfl, hall⟩ := hrel
    have HA := Lib.hid hall
    clear hall
    by_cases hlt : k < l.length
    · obtain ⟨b, off, rfl, hr⟩ := hrow.resolve_left (by rintro rfl; simp at hlt)
      have hx := hr.str (k := k) (x := l[k]) (by simp [hlt])
      have hcell := hx.1
      have HP := fun w => refPart_any l[k] hx.2 w
      clear hr hx hrow
      go_wp2_with (go_at_call 21; refine (HP _).mono ?_; rintro e w' ⟨rfl, rfl⟩)
      · have hb : (!partB l[k]) = true := by assumption
        go_ret
        exact ⟨ret_bool (made_no hlt hb).symm, rfl⟩
      · have hb : (!partB l[k]) = false := by assumption
        go_round
        case rel => exact ⟨k + 1, by omega, by go_num, made_take hlt HA.out hb⟩
        case measure => simp [intOf]; omega
    · have hF := Lib.hid (show madeB l = decide ((l.length : Int) < 7) by
        have h := HA.out; rw [show k = l.length by omega, List.take_length] at h
        unfold madeB; rw [h, Bool.and_true, decide_eq_decide]; omega)
      go_wp2
      go_ret
      exact ⟨ret_bool hF.out.symm, rfl⟩

set_option maxHeartbeats 1000000 in
theorem refText_any (l : List Str) (v : Value) (w : World) (M : List Nat) (hs : SlOf w M v l) (h6 : madeB l = true) :
    Calls Tryd.prog 12 #[v] w fun e w' => e = .returned (S (textOf (flat l))) ∧ w = w' := by
  obtain ⟨a, c, rfl, hlc, hc48, -, hrow⟩ := hs
  have hl6 : l.length ≤ 6 := by simp [madeB] at h6; exact h6.1
  have HL : ∀ k, k ≤ l.length → (flat (l.take k)).length ≤ 102 := fun k hk => flat_len (by
    simp only [madeB, Bool.and_eq_true] at h6
    exact List.all_eq_true.2 (fun x hx => List.all_eq_true.1 h6.2 x (List.mem_of_mem_take hx))) (by omega)
  have HX : ∀ x, x ∈ l → x.length ≤ 16 := fun x hx => by
    simp only [madeB, Bool.and_eq_true] at h6
    have := List.all_eq_true.1 h6.2 x hx
    simp only [partB, Bool.and_eq_true, decide_eq_true_eq] at this; exact this.2.2
  clear h6
  by_cases h0 : l = []
  · subst h0
    clear HL HX
    have hT := Lib.hid (show textOf (flat []) = [47] from rfl)
    go_enter Tryd.func12, Tryd.ntmps12
    go_wp2
    go_ret
    exact ⟨rfl, rfl⟩
  · have hne : flat l ≠ [] := by
      obtain ⟨x, r, rfl⟩ := List.exists_cons_of_ne_nil h0
      simp [flat]
    have hT := Lib.hid (show textOf (flat l) = flat l from if_neg hne)
    have hl0 : 0 < l.length := List.length_pos_iff.2 h0
    have HLL := Lib.hid HL
    clear HL hne h0
    have hl0' : ((l.length : Int) == 0) = false := by simp; rintro rfl; simp at hl0
    go_enter Tryd.func12, Tryd.ntmps12
    go_wp2
    go_loop [3, 11] (fun o i => ∃ k : Nat, k ≤ l.length ∧ i = .int .i64 k ∧ o = S (flat (l.take k))) (fun _ i => l.length - (intOf i).toNat)
    case atStart => exact ⟨0, Nat.zero_le _, rfl, rfl⟩
    case round =>
      obtain ⟨k, hk, rfl, rfl⟩ := hrel
      by_cases hlt : k < l.length
      · obtain ⟨b, off, rfl, hr⟩ := hrow.resolve_left (by rintro rfl; simp at hlt)
        have hx := hr.str (k := k) (x := l[k]) (by simp [hlt])
        have hcell := hx.1
        have hL1 := HX l[k] (List.getElem_mem hlt)
        have hL2 := HLL.out k hk
        clear hr hx hrow HX
        go_wp2
        go_round
        case rel => exact ⟨k + 1, by omega, by go_num, by rw [flat_take hlt, show (⟨#[47]⟩ : ByteArray) = ⟨[47].toArray⟩ from rfl, sapp, sapp]; rfl⟩
        case measure => simp [intOf]; omega
      · obtain rfl : k = l.length := by omega
        clear HX
        go_wp2
        go_ret
        refine ⟨?_, rfl⟩
        rw [hT.out]; simp

theorem same_no {α : Type} [BEq α] [LawfulBEq α] {l m : List α} {k : Nat} (hl : k < l.length) (hm : k < m.length) (hb : (!l[k] == m[k]) = true) : (l == m) = false := by
  rw [beq_eq_false_iff_ne]; rintro rfl; simp at hb
theorem same_take {α : Type} [BEq α] [LawfulBEq α] {l m : List α} {k : Nat} (hl : k < l.length) (hm : k < m.length) (h : l.take k = m.take k) (hb : (!l[k] == m[k]) = false) : l.take (k + 1) = m.take (k + 1) := by
  rw [List.take_succ_eq_append_getElem hl, List.take_succ_eq_append_getElem hm, h]
  have : l[k] = m[k] := by simpa using hb
  rw [this]

set_option maxHeartbeats 1000000 in
theorem same_any (l m : List Str) (v u : Value) (w : World) (M : List Nat) (hv : SlOf w M v l) (hu : SlOf w M u m) :
    Calls Tryd.prog 13 #[v, u] w fun e w' => e = .returned (.bool (l == m)) ∧ Below w.heap.size w w' := by
  obtain ⟨a, c, rfl, hlc, hc48, -, hrow⟩ := hv
  obtain ⟨a', c', rfl, hlc', hc48', -, hrow'⟩ := hu
  by_cases hlen : l.length = m.length
  · have hlen' : ((l.length : Int) != (m.length : Int)) = false := by simp [hlen]
    have HLen := Lib.hid hlen
    clear hlen
    go_enter Tryd.func13, Tryd.ntmps13
    go_wp2
    go_loopw [13] (fun i wr => ∃ k : Nat, k ≤ l.length ∧ i = .int .i64 k ∧ (∃ n, wr = w.drewN n) ∧ l.take k = m.take k) (fun i _ => l.length - (intOf i).toNat)
    case atStart => exact ⟨0, Nat.zero_le _, rfl, ⟨0, rfl⟩, rfl⟩
    case round =>
      obtain ⟨k, hk, rfl, ⟨n, rfl⟩, heq⟩ := hrel
      have HE := Lib.hid heq
      clear heq
      by_cases hlt : k < l.length
      · obtain ⟨b, off, rfl, hr⟩ := hrow.resolve_left (by rintro rfl; simp at hlt)
        have hlt' : k < m.length := by have := HLen.out; omega
        obtain ⟨b', off', rfl, hr'⟩ := hrow'.resolve_left (by rintro rfl; simp at hlt')
        have hx := (hr.str (k := k) (x := l[k]) (by simp [hlt])).1
        have hx' := (hr'.str (k := k) (x := m[k]) (by simp [hlt'])).1
        have hi0 : (0 : Int) ≤ (k : Int) := by omega
        have hi1 : (k : Int) < (l.length : Int) := by omega
        have hi2 : (k : Int) < (m.length : Int) := by omega
        clear hr hr' hrow hrow'
        go_wp2
        go_quiet (fail)
        go_wp2
        · have hb : (!l[k] == m[k]) = true := by assumption
          go_ret
          exact ⟨ret_bool (same_no hlt hlt' hb).symm, below_drewN (below_drewN (Below.refl _ _) _) _⟩
        · have hb : (!l[k] == m[k]) = false := by assumption
          go_roundw
          case rel => exact ⟨k + 1, by omega, by go_num, ⟨_, rfl⟩, same_take hlt hlt' HE.out hb⟩
          case measure => simp [intOf]; omega
      · have hY := Lib.hid (show (l == m) = true by
          have h := HE.out; rw [List.take_of_length_le (by omega), List.take_of_length_le (by have := HLen.out; omega)] at h
          simp [h])
        go_wp2
        go_ret
        exact ⟨ret_bool hY.out.symm, below_drewN (Below.refl _ _) _⟩
  · have hne := Lib.hid (show (l == m) = false by simp; rintro rfl; exact hlen rfl)
    have hlen' : ((l.length : Int) != (m.length : Int)) = true := by simp; omega
    go_enter Tryd.func13, Tryd.ntmps13
    go_wp2
    go_ret
    exact ⟨ret_bool hne.out.symm, Below.refl _ _⟩
end Go.Proofs.YtikebdpaaamghaaDoor
