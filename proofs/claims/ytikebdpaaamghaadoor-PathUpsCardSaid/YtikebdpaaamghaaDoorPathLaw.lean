/- Plain lists: a text cut at its slashes; paths as lists of parts. -/
import Derived.Lib.SplitLaws
import Derived.Lib.LastIndexByte
namespace Go.Proofs.YtikebdpaaamghaaDoor

/-- A text cut at its slashes. -/
def spl : List UInt8 → List (List UInt8)
  | [] => [[]]
  | c :: t => if c = 47 then [] :: spl t else (c :: (spl t).headD []) :: (spl t).tail

theorem spl_ne (l : List UInt8) : spl l ≠ [] := by
  cases l with
  | nil => simp [spl]
  | cons c t => unfold spl; split <;> simp

theorem index_cons (b : UInt8) (l : List UInt8) : Go.Lib.index (b :: l) [47] = if b = 47 then 0 else if Go.Lib.index l [47] = -1 then -1 else Go.Lib.index l [47] + 1 := by
  rw [Go.Lib.index]
  by_cases h : b = 47
  · subst h; simp [List.isPrefixOf]
  · have : ([47] : List UInt8).isPrefixOf (b :: l) = false := by simp [List.isPrefixOf, Ne.symm h]
    rw [this]; simp [h]

theorem spl_miss : ∀ l : List UInt8, Go.Lib.index l [47] = -1 → spl l = [l]
  | [], _ => rfl
  | b :: l, h => by
    rw [index_cons] at h
    by_cases hb : b = 47
    · rw [if_pos hb] at h; omega
    · rw [if_neg hb] at h
      have hl : Go.Lib.index l [47] = -1 := by
        by_cases hi : Go.Lib.index l [47] = -1
        · exact hi
        · rw [if_neg hi] at h; have := Go.Lib.index_ge l [47]; omega
      simp [spl, hb, spl_miss l hl]

theorem spl_hit : ∀ (l : List UInt8) (i : Nat), Go.Lib.index l [47] = i → spl l = l.take i :: spl (l.drop (i + 1))
  | [], i, h => by simp [Go.Lib.index] at h
  | b :: l, i, h => by
    rw [index_cons] at h
    by_cases hb : b = 47
    · rw [if_pos hb] at h
      obtain rfl : i = 0 := by omega
      simp [spl, hb]
    · rw [if_neg hb] at h
      by_cases hi : Go.Lib.index l [47] = -1
      · rw [if_pos hi] at h; omega
      · rw [if_neg hi] at h
        have := Go.Lib.index_ge l [47]
        obtain ⟨j, rfl⟩ : ∃ j, i = j + 1 := ⟨i - 1, by omega⟩
        have hs := spl_hit l j (by omega)
        simp [spl, hb, hs]

theorem splitK_spl : ∀ (k : Nat) (l : List UInt8), Go.Lib.count l [47] = k → Go.Lib.splitK [47] 0 k l = spl l
  | 0, l, h => by
    have : Go.Lib.index l [47] = -1 := by
      have hge := Go.Lib.index_ge l [47]
      by_cases hi : Go.Lib.index l [47] = -1
      · exact hi
      · obtain ⟨j, hj⟩ : ∃ j : Nat, Go.Lib.index l [47] = j := ⟨(Go.Lib.index l [47]).toNat, by omega⟩
        rw [Go.Lib.count_hit (by simp) hj] at h; omega
    rw [spl_miss l this]; rfl
  | k + 1, l, h => by
    have hge := Go.Lib.index_ge l [47]
    by_cases hi : Go.Lib.index l [47] = -1
    · rw [Go.Lib.count_miss hi] at h; omega
    · obtain ⟨j, hj⟩ : ∃ j : Nat, Go.Lib.index l [47] = j := ⟨(Go.Lib.index l [47]).toNat, by omega⟩
      rw [Go.Lib.count_hit (by simp) hj] at h
      have h' : Go.Lib.count (l.drop (j + 1)) [47] = k := by simp at h; omega
      have hm : ¬ (Go.Lib.index l [47] == -1) = true := fun e => hi (beq_iff_eq.1 e)
      rw [Go.Lib.splitK, if_neg hm, spl_hit l j hj, hj]
      simp [splitK_spl k _ h']
end Go.Proofs.YtikebdpaaamghaaDoor
