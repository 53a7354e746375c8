/- The contracts of path.Made, Parse and of Path's methods. -/
import Derived.Test.YtikebdpaaamghaaDoorPath0
import Derived.Test.YtikebdpaaamghaaDoorShelf
namespace Go.Proofs.YtikebdpaaamghaaDoor
open Go.RowKit

def flat (l : List Str) : Str := l.flatMap fun s => 47 :: s
def madeB (l : List Str) : Bool := decide (l.length ≤ 6) && l.all partB
/-- What path.Made and path.Parse answer. -/
def PathErr (w : World) (t : Str) (ok : Bool) (e : Ending) (w' : World) : Prop :=
  if ok = true then e = .returned (.tuple #[.agg #[S t], .nilIface]) ∧ Below w.heap.size w w'
  else ∃ b, w.heap.size ≤ b ∧ e = .returned (.tuple #[.agg #[S []], .iface 46 (.pointer (some ⟨b, 0, none⟩))]) ∧ FaultC w' b 10 ∧ Below w.heap.size w w'

theorem made_no {l : List Str} {k : Nat} (hk : k < l.length) (hb : (!partB l[k]) = true) : madeB l = false := by
  have : l.all partB = false := by
    rw [List.all_eq_false]
    exact ⟨l[k], List.getElem_mem hk, by simpa using hb⟩
  simp [madeB, this]
theorem made_yes {l : List Str} {k : Nat} (hk : k = l.length) (h6 : l.length ≤ 6) (h : (l.take k).all partB = true) : madeB l = true := by
  subst hk
  rw [List.take_length] at h
  simp [madeB, h, h6]
theorem made_take {l : List Str} {k : Nat} (hk : k < l.length) (h : (l.take k).all partB = true) (hb : (!partB l[k]) = false) : (l.take (k + 1)).all partB = true := by
  rw [List.take_succ_eq_append_getElem hk, List.all_append, h]
  simpa using hb
theorem flat_take {l : List Str} {k : Nat} (hk : k < l.length) : flat (l.take (k + 1)) = flat (l.take k) ++ 47 :: l[k] := by
  unfold flat
  rw [List.take_succ_eq_append_getElem hk, List.flatMap_append]
  simp

theorem flat_len : ∀ {l : List Str} {k : Nat}, (l.take k).all partB = true → k ≤ 6 → (flat (l.take k)).length ≤ 102 := by
  have aux : ∀ l : List Str, l.all partB = true → (flat l).length ≤ 17 * l.length := by
    intro l
    induction l with
    | nil => intro _; simp [flat]
    | cons x l ih =>
      intro h
      rw [List.all_cons, Bool.and_eq_true] at h
      have h1 := ih h.2
      have h2 : x.length ≤ 16 := by have := h.1; simp [partB] at this; exact this.2.2
      simp only [flat, List.flatMap_cons, List.length_append, List.length_cons] at h1 ⊢
      omega
  intro l k h hk
  have h1 := aux _ h
  have h2 : (l.take k).length ≤ k := List.length_take_le _ _
  omega

set_option maxHeartbeats 1000000 in
theorem made_any (l : List Str) (v : Value) (M : List Nat) (w : World) (hg : Glob w) (hs : SlOf w M v l) :
    Calls Tryd.prog 6 #[v] w (PathErr w (flat l) (madeB l)) := by
  obtain ⟨a, c, rfl, hlc, hc48, -, hrow⟩ := hs
  have HG := Lib.hid (hg.below ((Below.refl w.heap.size w).alloc (Nat.le_refl _) (.cells #[.string ⟨#[]⟩] 25)))
  clear hg
  by_cases h6 : l.length ≤ 6
  · go_enter Tryd.func6, Tryd.ntmps6
    go_wp2
    go_loop [4, 14] (fun o i => ∃ k : Nat, k ≤ l.length ∧ i = .int .i64 k ∧ o = S (flat (l.take k)) ∧ (l.take k).all partB = true) (fun _ i => l.length - (intOf i).toNat)
    case atStart => exact ⟨0, Nat.zero_le _, rfl, rfl, rfl⟩
    case round =>
      obtain ⟨k, hk, rfl, rfl, hall⟩ := hrel
      have HA := Lib.hid hall
      clear hall
      by_cases hlt : k < l.length
      · obtain ⟨b, off, rfl, hr⟩ := hrow.resolve_left (by rintro rfl; simp at hlt)
        have hx := hr.str (k := k) (x := l[k]) (by simp [hlt])
        have hcell := keepc_alloc (.cells #[.string ⟨#[]⟩] 25) hx.1
        have HP := fun w => part_any l[k] hx.2 w
        have hL2 := flat_len HA.out (by omega)
        clear hr hx hrow
        by_cases hpk : partB l[k] = true
        · have hL1 : l[k].length ≤ 16 := by simp only [partB, Bool.and_eq_true, decide_eq_true_eq] at hpk; exact hpk.2.2
          have HPK := Lib.hid hpk
          have HP' : ∀ w, Calls Tryd.prog 20 #[S l[k]] w fun e w' => e = .returned (.bool true) ∧ w = w' := fun w => by have := HP w; rwa [hpk] at this
          clear HP hpk
          go_wp2_with (first | (go_at_call 20; refine (HP' _).mono ?_; rintro e w' ⟨rfl, rfl⟩))
          go_roundw
          case rel => exact ⟨k + 1, by omega, by go_num, by rw [flat_take hlt, show (⟨#[47]⟩ : ByteArray) = ⟨[47].toArray⟩ from rfl, sapp, sapp]; rfl, made_take hlt HA.out (by simp [HPK.out])⟩
          case measure => simp [intOf]; omega
        · have hpk' : partB l[k] = false := by simpa using hpk
          have hN := Lib.hid (made_no hlt (by simp [hpk']))
          have HP' : ∀ w, Calls Tryd.prog 20 #[S l[k]] w fun e w' => e = .returned (.bool false) ∧ w = w' := fun w => by have := HP w; rwa [hpk'] at this
          clear HP hpk hpk'
          go_wp2_with (first | (go_at_call 20; refine (HP' _).mono ?_; rintro e w' ⟨rfl, rfl⟩) | (go_at_call 19; refine (wrong_any _ HG.out).mono ?_; rintro e w' ⟨b', hb', rfl, hf, hbel⟩; obtain ⟨hc1, hf1⟩ := res1 hbel))
          exact bodyPost_ret (v := .tuple #[.agg #[S []], .iface 46 (.pointer (some ⟨b', 0, none⟩))]) (by simp [results, Tryd.results6, go_sem, hc1]) rfl
            (by unfold PathErr; rw [if_neg (by simp [hN.out])]; exact ⟨b', by simp at hb'; omega, rfl, hf.setCell (by simp at hb'; show w.heap.size < b'; omega) _, (below_res1 hbel).setCell (Nat.le_refl _) _⟩)
      · have hY := Lib.hid (made_yes (Nat.le_antisymm hk (Nat.le_of_not_lt hlt)) h6 HA.out)
        obtain rfl : k = l.length := Nat.le_antisymm hk (Nat.le_of_not_lt hlt)
        rw [List.take_length] at *
        go_wp2
        exact bodyPost_ret (v := .tuple #[.agg #[S (flat l)], .nilIface]) (by simp [results, Tryd.results6, go_sem]) rfl
          (by unfold PathErr; rw [if_pos hY.out]; exact ⟨rfl, (Below.refl _ _).alloc (Nat.le_refl _) _⟩)
  · have hN := Lib.hid (show madeB l = false by simp [madeB, h6])
    go_enter Tryd.func6, Tryd.ntmps6
    go_wp2_with (go_at_call 19; refine (wrong_any _ HG.out).mono ?_; rintro e w' ⟨b', hb', rfl, hf, hbel⟩; obtain ⟨hc1, hf1⟩ := res1 hbel)
    exact bodyPost_ret (v := .tuple #[.agg #[S []], .iface 46 (.pointer (some ⟨b', 0, none⟩))]) (by simp [results, Tryd.results6, go_sem, hc1]) rfl
      (by unfold PathErr; rw [if_neg (by simp [hN.out])]; exact ⟨b', by simp at hb'; omega, rfl, hf.setCell (by simp at hb'; show w.heap.size < b'; omega) _, (below_res1 hbel).setCell (Nat.le_refl _) _⟩)
end Go.Proofs.YtikebdpaaamghaaDoor
