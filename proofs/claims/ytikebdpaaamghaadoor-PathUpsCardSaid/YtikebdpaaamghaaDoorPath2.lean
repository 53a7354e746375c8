/- The contracts of strings.Split at a slash, and of Path's methods. -/
import Derived.Test.YtikebdpaaamghaaDoorPath1
import Derived.Test.YtikebdpaaamghaaDoorPathLaw
import Derived.Deep.RegionHeld3
import Derived.StillTailTactics
namespace Go.Proofs.YtikebdpaaamghaaDoor
open Go.RowKit

/-- Where the last slash of a text stands; 0 if there is none. -/
def lastN (t : Str) : Nat := (Go.Lib.lastIndexByte ⟨t.toArray⟩ 47).toNat

theorem lastN_le (t : Str) : lastN t ≤ t.length := by
  unfold lastN
  rcases Go.Lib.lastIndexByte_spec ⟨t.toArray⟩ 47 with ⟨h1, _⟩ | ⟨i, hi, h1, _⟩
  · rw [h1]; simp
  · rw [h1]; simp [ByteArray.size] at hi; omega
theorem lastN_max (t : Str) : max (Go.Lib.lastIndexByte ⟨t.toArray⟩ 47) 0 = ((lastN t : Nat) : Int) := by
  unfold lastN; omega

theorem up_any (t : Str) (ht : t.length ≤ 4294967280) (w : World) :
    Calls Tryd.prog 11 #[.agg #[S t]] w fun e w' => e = .returned (.agg #[S (t.take (lastN t))]) ∧ Below w.heap.size w w' := by
  obtain ⟨r, hL, hmax⟩ : ∃ r : Int, (∀ W, Calls Tryd.prog 25 #[S t, .string ⟨#[47]⟩] W fun e w' => e = .returned (.int .i64 r) ∧ w' = W) ∧ max r 0 = ((lastN t : Nat) : Int) :=
    ⟨_, fun W => Tryd.strings_LastIndex_one ⟨t.toArray⟩ ⟨#[47]⟩ rfl (by simp [ByteArray.size]; omega) W, lastN_max t⟩
  have h0 : (0 : Int) ≤ (lastN t : Int) := by omega
  have h1 : (lastN t : Int) ≤ (t.length : Int) := by have := lastN_le t; omega
  go_enter Tryd.func11, Tryd.ntmps11
  go_wp2_with fail
  go_region_held3 (fun W : World => W.cell? ⟨w.heap.size, 0, none⟩ = some (S t)) (simp) (first | (go_at_call 25; refine (hL _).mono ?_; rintro e w' ⟨rfl, rfl⟩))
  go_wp2
  refine bodyPost_ret (v := .agg #[S (t.take (lastN t))]) (by simp [results, Tryd.results11, go_sem, sextract0]) rfl ⟨rfl, ?_⟩
  exact (((Below.refl _ _).alloc (Nat.le_refl _) _).alloc (by simp) _).drew

def textOf (t : Str) : Str := if t = [] then [47] else t
theorem text_any (t : Str) (w : World) :
    Calls Tryd.prog 10 #[.agg #[S t]] w fun e w' => e = .returned (S (textOf t)) ∧ Below w.heap.size w w' := by
  by_cases h : t = []
  · subst h
    go_enter Tryd.func10, Tryd.ntmps10
    go_wp2
    go_ret
    exact ⟨rfl, (Below.refl _ _).alloc (Nat.le_refl _) _⟩
  · have H := Lib.hid (show textOf t = t from if_neg h)
    have he : List.isEmpty t = false := by simpa using h
    clear h
    go_enter Tryd.func10, Tryd.ntmps10
    go_wp2
    go_ret
    refine ⟨?_, (Below.refl _ _).alloc (Nat.le_refl _) _⟩
    rw [H.out]; rfl

theorem depth_any (t : Str) (w : World) :
    Calls Tryd.prog 17 #[.agg #[S t]] w fun e w' => e = .returned (.int .i64 ((t.count 47 : Nat) : Int)) ∧ Below w.heap.size w w' := by
  have hC := fun W => Tryd.strings_Count_one ⟨t.toArray⟩ 47 W
  go_enter Tryd.func17, Tryd.ntmps17
  go_wp2_with (go_at_call 26; refine (hC _).mono ?_; rintro e w' ⟨rfl, rfl⟩)
  go_ret
  exact ⟨rfl, (Below.refl _ _).alloc (Nat.le_refl _) _⟩

/-- strings.Split at a slash. -/
theorem split_any (s : Str) (hs : s.length ≤ 4294967280) (w : World) (hg : Glob w) :
    Calls Tryd.prog 24 #[S s, .string ⟨#[47]⟩] w fun e w' =>
      e = .returned (.slice (some ⟨w.heap.size, 0, none⟩) (spl s).length (spl s).length) ∧ w' = w.alloc (.cells ((spl s).map S).toArray 9) := by
  obtain ⟨m, hm⟩ := hg.2
  have hd := Go.Lib.splitB_data ⟨#[47]⟩ 0 (Go.Lib.countB ⟨s.toArray⟩ ⟨#[47]⟩) ⟨s.toArray⟩
  have hl := Go.Lib.splitB_all ⟨#[47]⟩ (by decide) 0 (Go.Lib.countB ⟨s.toArray⟩ ⟨#[47]⟩) ⟨s.toArray⟩ rfl
  have hk := splitK_spl (Go.Lib.countB ⟨s.toArray⟩ ⟨#[47]⟩) s rfl
  have hd' : (Go.Lib.splitB ⟨#[47]⟩ 0 (Go.Lib.countB ⟨s.toArray⟩ ⟨#[47]⟩) ⟨s.toArray⟩).map (·.data.toList) = spl s := hd.trans hk
  refine (Tryd.strings_Split ⟨s.toArray⟩ ⟨#[47]⟩ m w (by simp [ByteArray.size]; omega) hm (by decide)).mono ?_
  rintro e w' ⟨rfl, rfl⟩
  have e1 : (spl s).length = Go.Lib.countB ⟨s.toArray⟩ ⟨#[47]⟩ + 1 := by rw [← hd', List.length_map, hl]
  refine ⟨by rw [e1], ?_⟩
  congr 2
  rw [← hd', List.map_map]
  congr 1

theorem row_of_alloc {w : World} {M : List Nat} (hM : ∀ k, k ∈ M → k < w.heap.size) {xs : List Str} (hx : ∀ x, x ∈ xs → x.length ≤ 9223372036854775807) (T : TypeId) :
    RowAt (w.alloc (.cells (xs.map S).toArray T)) M w.heap.size 0 xs :=
  ⟨fun h => Nat.lt_irrefl _ (hM _ h), by simp, fun i x hi => ⟨[S x], ⟨rfl, hx x (List.mem_of_getElem? hi)⟩, fun j v hj => by
    have : j = 0 ∧ v = S x := by
      cases j with
      | zero => exact ⟨rfl, by simpa using hj.symm⟩
      | succ j => simp at hj
    obtain ⟨rfl, rfl⟩ := this
    simp [Rep.sz, hi]⟩⟩
theorem sl_of_alloc {w : World} {n : Nat} (hn : n = w.heap.size) {M : List Nat} (hM : ∀ k, k ∈ M → k < w.heap.size) {xs : List Str} (hx : ∀ x, x ∈ xs → x.length ≤ 9223372036854775807) (hl : xs.length ≤ 9223372036854775807) (T : TypeId) :
    SlOf (w.alloc (.cells (xs.map S).toArray T)) M (.slice (some ⟨n, 0, none⟩) xs.length xs.length) xs := by
  subst hn; exact ⟨_, _, rfl, Nat.le_refl _, hl, fun h => (by cases h), .inr ⟨_, _, rfl, row_of_alloc hM hx T⟩⟩

theorem spl_len : ∀ (l : List UInt8), (spl l).length ≤ l.length + 1 ∧ ∀ x, x ∈ spl l → x.length ≤ l.length
  | [] => by simp [spl]
  | c :: t => by
    have ⟨h1, h2⟩ := spl_len t
    have hne := spl_ne t
    by_cases hc : c = 47
    · simp only [spl, hc, if_true, List.length_cons, List.mem_cons]
      exact ⟨by omega, fun x hx => by rcases hx with rfl | hx; simp; have := h2 x hx; omega⟩
    · obtain ⟨a, r, hr⟩ := List.exists_cons_of_ne_nil hne
      simp only [spl, hc, if_false, hr, List.headD_cons, List.tail_cons, List.length_cons, List.mem_cons] at h1 h2 ⊢
      exact ⟨by omega, fun x hx => by
        rcases hx with rfl | hx
        · have := h2 a (.inl rfl); simp; omega
        · have := h2 x (.inr hx); omega⟩

/-- The parts of a path with a text. -/
def partsOf (t : Str) : List Str := if t = [] then [] else spl t.tail
theorem parts_any (t : Str) (ht : t.length ≤ 4294967280) (w : World) (hg : Glob w) :
    Calls Tryd.prog 14 #[.agg #[S t]] w fun e w' => ∃ v, e = .returned v ∧ (∀ M, (∀ k, k ∈ M → k < w.heap.size) → SlOf w' M v (partsOf t)) ∧ Below w.heap.size w w' := by
  by_cases h : t = []
  · subst h
    go_enter Tryd.func14, Tryd.ntmps14
    go_wp2
    go_ret
    exact ⟨_, rfl, fun M _ => ⟨none, 0, rfl, Nat.le_refl _, by omega, fun _ => rfl, .inl rfl⟩, (Below.refl _ _).alloc (Nat.le_refl _) _⟩
  · have H := Lib.hid (show partsOf t = spl t.tail from if_neg h)
    have h1 : 1 ≤ t.length := by cases t with | nil => exact absurd rfl h | cons _ _ => simp
    have he : List.isEmpty t = false := by simpa using h
    have hx : (⟨t.toArray⟩ : ByteArray).extract 1 t.length = ⟨t.tail.toArray⟩ := by rw [sextract, List.take_length, List.drop_one]
    have hsl := split_any t.tail (by simp; omega) _ (hg.below ((Below.refl w.heap.size w).alloc (Nat.le_refl _) (.cells #[S t] 25)))
    have HS := Lib.hid (spl_len t.tail)
    have HX := Lib.hid hx
    clear hg h hx
    have h1' : (1 : Int) ≤ (t.length : Int) := by omega
    go_enter Tryd.func14, Tryd.ntmps14
    go_wp2_with (go_at_call 24; rw [HX.out]; refine hsl.mono ?_; rintro e w' ⟨rfl, rfl⟩)
    go_ret
    refine ⟨_, rfl, fun M hM => ?_, ((Below.refl _ _).alloc (Nat.le_refl _) _).alloc (by simp) _⟩
    rw [H.out]
    have hlen : t.tail.length ≤ 4294967280 := by simp; omega
    exact sl_of_alloc (w := w.alloc _) (by simp) (fun k hk => by have := hM k hk; simp; omega) (fun x hx => by have := HS.out.2 x hx; omega) (by have := HS.out.1; omega) _

end Go.Proofs.YtikebdpaaamghaaDoor
