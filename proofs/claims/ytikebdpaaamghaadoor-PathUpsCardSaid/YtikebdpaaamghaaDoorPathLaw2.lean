/- Plain lists: parts, their text, and back. -/
import Derived.Test.YtikebdpaaamghaaDoorPath3
namespace Go.Proofs.YtikebdpaaamghaaDoor
open Go.RowKit

theorem good_ne {c : UInt8} (h : goodB c = true) : c ≠ 47 := by rintro rfl; simp [goodB] at h
theorem part_ne {s : Str} (h : partB s = true) : s ≠ [] ∧ s.length ≤ 16 ∧ ∀ c, c ∈ s → c ≠ 47 := by
  simp only [partB, Bool.and_eq_true, decide_eq_true_eq] at h
  exact ⟨by rintro rfl; simp at h, h.2.2, fun c hc => good_ne (List.all_eq_true.1 h.1 c hc)⟩
theorem made_parts {l : List Str} (h : madeB l = true) : l.length ≤ 6 ∧ ∀ s, s ∈ l → partB s = true := by
  simp only [madeB, Bool.and_eq_true, decide_eq_true_eq] at h
  exact ⟨h.1, fun s hs => List.all_eq_true.1 h.2 s hs⟩

theorem spl_app : ∀ (x t : Str), (∀ c, c ∈ x → c ≠ 47) → spl (x ++ 47 :: t) = x :: spl t
  | [], t, _ => by simp [spl]
  | c :: x, t, h => by
    have hc : c ≠ 47 := h c (by simp)
    have := spl_app x t (fun d hd => h d (by simp [hd]))
    simp [spl, hc, this]
theorem spl_one : ∀ (x : Str), (∀ c, c ∈ x → c ≠ 47) → spl x = [x]
  | [], _ => rfl
  | c :: x, h => by
    have hc : c ≠ 47 := h c (by simp)
    have := spl_one x (fun d hd => h d (by simp [hd]))
    simp [spl, hc, this]
theorem spl_flat : ∀ (x : Str) (r : List Str), (∀ s, s ∈ x :: r → partB s = true) → spl (x ++ flat r) = x :: r
  | x, [], h => by simp [flat]; exact spl_one x (part_ne (h x (by simp))).2.2
  | x, y :: r, h => by
    have e : flat (y :: r) = 47 :: (y ++ flat r) := by simp [flat]
    rw [e, spl_app x _ (part_ne (h x (by simp))).2.2, spl_flat y r (fun s hs => h s (by simp at hs ⊢; exact .inr hs))]
theorem flat_cons (x : Str) (r : List Str) : flat (x :: r) = 47 :: (x ++ flat r) := by simp [flat]
theorem partsOf_flat {l : List Str} (h : madeB l = true) : partsOf (flat l) = l := by
  cases l with
  | nil => rfl
  | cons x r => rw [flat_cons]; simp [partsOf, spl_flat x r (made_parts h).2]

theorem madeB_sub {l m : List Str} (h : madeB l = true) (hl : m.length ≤ l.length) (hs : ∀ s, s ∈ m → s ∈ l) : madeB m = true := by
  have ⟨h1, h2⟩ := made_parts h
  simp only [madeB, Bool.and_eq_true, decide_eq_true_eq]
  exact ⟨by omega, List.all_eq_true.2 fun s hm => h2 s (hs s hm)⟩
theorem madeB_dropLast {l : List Str} (h : madeB l = true) : madeB l.dropLast = true := madeB_sub h (by simp) fun _ hs => (List.dropLast_sublist l).subset hs

theorem parse_flat {l : List Str} (h : madeB l = true) : parseOk (textOf (flat l)) = true ∧ parseText (textOf (flat l)) = flat l := by
  cases l with
  | nil => exact ⟨rfl, rfl⟩
  | cons x r =>
    have hx := part_ne ((made_parts h).2 x (by simp))
    have hne : x ++ flat r ≠ [] := by simp [hx.1]
    have hs := spl_flat x r (made_parts h).2
    have e : textOf (flat (x :: r)) = 47 :: (x ++ flat r) := by rw [flat_cons]; rfl
    rw [e]
    constructor
    · simp only [parseOk, hs, h]; simp
    · simp only [parseText, List.tail_cons, if_neg hne, hs]

theorem flat_append (a b : List Str) : flat (a ++ b) = flat a ++ flat b := by simp [flat]
theorem flat_length {l : List Str} (h : madeB l = true) : (flat l).length ≤ 102 := by
  have := flat_len (l := l) (k := l.length) (by rw [List.take_length]; exact List.all_eq_true.2 (made_parts h).2) (made_parts h).1
  rwa [List.take_length] at this

theorem lastN_app (t x : Str) (hx : ∀ c, c ∈ x → c ≠ 47) : lastN (t ++ 47 :: x) = t.length := by
  unfold lastN
  have hat : ∀ j : Nat, ((⟨(t ++ 47 :: x).toArray⟩ : ByteArray).data[j]! : UInt8) = ((t ++ 47 :: x)[j]! : UInt8) := fun j => by simp
  rcases Go.Lib.lastIndexByte_spec ⟨(t ++ 47 :: x).toArray⟩ 47 with ⟨_, hn⟩ | ⟨i, hi, h1, hc, hn⟩
  · exfalso
    have := hn t.length (by simp [ByteArray.size])
    simp at this
  · rw [h1]
    have hsz : (⟨(t ++ 47 :: x).toArray⟩ : ByteArray).size = t.length + (x.length + 1) := by simp [ByteArray.size]
    rcases Nat.lt_trichotomy i t.length with hlt | rfl | hgt
    · exfalso
      have := hn t.length hlt (by omega)
      simp at this
    · rfl
    · exfalso
      obtain ⟨j, rfl⟩ : ∃ j, i = t.length + 1 + j := ⟨i - t.length - 1, by omega⟩
      have hj : j < x.length := by omega
      have e : (t ++ 47 :: x)[t.length + 1 + j]! = x[j] := by
        rw [List.getElem!_eq_getElem?_getD, List.getElem?_append_right (by omega)]
        have : t.length + 1 + j - t.length = j + 1 := by omega
        rw [this]; simp [hj]
      rw [hat, e] at hc
      exact hx x[j] (List.getElem_mem hj) (UInt8.toNat_inj.1 (by simp; omega))

theorem up_flat {l : List Str} (h : madeB l = true) : (flat l).take (lastN (flat l)) = flat l.dropLast := by
  rcases List.eq_nil_or_concat l with rfl | ⟨a, x, rfl⟩
  · rfl
  · rw [List.concat_eq_append] at *
    have hx := part_ne ((made_parts h).2 x (by simp))
    have e : flat (a ++ [x]) = flat a ++ 47 :: x := by rw [flat_append]; simp [flat]
    rw [e, lastN_app _ _ hx.2.2]
    simp

theorem over_flat (a b : List Str) : overB (flat a) (flat (a ++ b)) = true := by
  have h1 : Go.Lib.hasPrefix (flat (a ++ b)) (flat a) = true := by
    unfold Go.Lib.hasPrefix; rw [flat_append]; simp
  have h2 : Go.Lib.trimPrefix (flat (a ++ b)) (flat a) = flat b := by
    rw [Go.Lib.trimPrefix, if_pos h1, flat_append]; simp
  rw [overB, h1, h2]
  cases b with
  | nil => rfl
  | cons x r => rw [flat_cons]; rfl
theorem over_up (l : List Str) : overB (flat l.dropLast) (flat l) = true := by
  rcases List.eq_nil_or_concat l with rfl | ⟨a, x, rfl⟩
  · rfl
  · rw [List.concat_eq_append]
    have := over_flat a [x]
    simpa using this
end Go.Proofs.YtikebdpaaamghaaDoor
