/- The law PathMakes, walked: for every list of texts it returns true. -/
import Derived.Test.YtikebdpaaamghaaDoorPath5
import Derived.Test.YtikebdpaaamghaaDoorPathLaw2
namespace Go.Proofs.YtikebdpaaamghaaDoor
open Go.RowKit

theorem made_bad {l : List Str} {v : Value} {w : World} (hg : Glob w) (hs : SlOf w [] v l) (h : madeB l = false) :
    Calls Tryd.prog 6 #[v] w fun e w' => ∃ b, w.heap.size ≤ b ∧ e = .returned (.tuple #[.agg #[S []], .iface 46 (.pointer (some ⟨b, 0, none⟩))]) ∧ FaultC w' b 10 ∧ Below w.heap.size w w' := by
  have := made_any l v [] w hg hs
  rw [h] at this
  exact this
theorem made_good {l : List Str} {v : Value} {w : World} (hg : Glob w) (hs : SlOf w [] v l) (h : madeB l = true) :
    Calls Tryd.prog 6 #[v] w fun e w' => e = .returned (.tuple #[.agg #[S (flat l)], .nilIface]) ∧ Below w.heap.size w w' := by
  have := made_any l v [] w hg hs
  rw [h] at this
  exact this
theorem refMade_is {l : List Str} {v : Value} {w : World} {r : Bool} (hs : SlOf w [] v l) (h : madeB l = r) :
    Calls Tryd.prog 7 #[v] w fun e w' => e = .returned (.bool r) ∧ w = w' := by
  have := refMade_any l v w [] hs
  rwa [h] at this

theorem SlOf.below {α : Type} [Rep α] {w w' : World} {M : List Nat} {v : Value} {xs : List α} (h : SlOf w M v xs) (hb : Below w.heap.size w w') : SlOf w' M v xs := h.adv (Adv.of_below hb)

theorem SlOf.take {α : Type} [Rep α] {w : World} {M : List Nat} {a : Option Addr} {c : Nat} {xs : List α} (h : SlOf w M (.slice a xs.length c) xs) {n : Nat} (hn : n ≤ xs.length) : SlOf w M (.slice a n c) (xs.take n) := by
  obtain ⟨a', c', hv, h1, h2, hn', h3⟩ := h
  obtain ⟨rfl, rfl⟩ : a = a' ∧ c = c' := by injection hv with h1 h2 h3; exact ⟨h1, h3⟩
  refine ⟨a, c, by rw [List.length_take, Nat.min_eq_left hn], by rw [List.length_take]; omega, h2, hn', ?_⟩
  rcases h3 with rfl | ⟨b, off, ha, hb, hlt, hc⟩
  · left; simp
  · right
    refine ⟨b, off, ha, hb, hlt, fun i x hi => hc i x ?_⟩
    rw [List.getElem?_take] at hi
    split at hi
    · exact hi
    · cases hi

set_option maxHeartbeats 2000000 in
theorem pathMakes_bad (l : List Str) (v : Value) (w : World) (hg : Glob w) (hs : SlOf w [] v l) (h9 : l.length ≤ 9) (hm : madeB l = false) :
    Calls Tryd.prog 3 #[v] w fun e w' => e = .returned (.bool true) ∧ Below w.heap.size w w' := by
  obtain ⟨a, c, rfl, hlc, hc48, -, hrow⟩ := id hs
  have h9' : (l.length : Int) ≤ 9 := by omega
  have HM := Lib.hid hm
  clear hm hrow
  go_enter Tryd.func3, Tryd.ntmps3
  go_wp2_with (first
    | (go_at_call 5; with_reducible refine (awake_any _ hg).mono ?_; rintro e w1 ⟨rfl, hb1⟩; have hg1 := hg.below hb1; have hs1 := hs.below hb1)
    | (go_at_call 6; with_reducible refine (made_bad hg1 hs1 HM.out).mono ?_; rintro e w2 ⟨b2, hb2, rfl, hf2, hbel2⟩; have hs2 := hs1.below (ba hbel2 (.cells #[S []] 25)); have hg2 := hg1.below (ba hbel2 (.cells #[S []] 25)); have hF2 := hf2.below (ba (b0 w2) (.cells #[S []] 25)); have hc2 := cell_new w2 (S []) 25)
    | (go_at_call 7; with_reducible refine (refMade_is hs2 HM.out).mono ?_; rintro e w3 ⟨rfl, rfl⟩)
    | (go_at_call 8; with_reducible refine (code_at b2 10 _ hg2 hF2).mono ?_; rintro e w4 ⟨rfl, hb4⟩; have hc4 := keepb hb4 hc2))
  go_ret
  exact ⟨rfl, bt (ba (bt hb1 hbel2) _) hb4⟩

set_option maxHeartbeats 2000000 in
theorem pathMakes_long (l : List Str) (v : Value) (w : World) (hg : Glob w) (hs : SlOf w [] v l) (h9 : 9 < l.length) :
    Calls Tryd.prog 3 #[v] w fun e w' => e = .returned (.bool true) ∧ Below w.heap.size w w' := by
  obtain ⟨a, c, rfl, hlc, hc48, -, hrow⟩ := id hs
  have h9' : (9 : Int) < (l.length : Int) := by omega
  have h9c : (9 : Int) ≤ (c : Int) := by omega
  have HM := Lib.hid (show madeB (l.take 9) = false by simp [madeB]; omega)
  have hs9 := hs.take (n := 9) (by omega)
  have hrow' := hrow.resolve_left (by rintro rfl; simp at h9)
  obtain ⟨b, off, rfl, hr⟩ := hrow'
  clear hr hrow hs
  go_enter Tryd.func3, Tryd.ntmps3
  go_wp2_with (first
    | (go_at_call 5; with_reducible refine (awake_any _ hg).mono ?_; rintro e w1 ⟨rfl, hb1⟩; have hg1 := hg.below hb1; have hs1 := hs9.below hb1)
    | (go_at_call 6; with_reducible refine (made_bad hg1 hs1 HM.out).mono ?_; rintro e w2 ⟨b2, hb2, rfl, hf2, hbel2⟩; have hs2 := hs1.below (ba hbel2 (.cells #[S []] 25)); have hg2 := hg1.below (ba hbel2 (.cells #[S []] 25)); have hF2 := hf2.below (ba (b0 w2) (.cells #[S []] 25)); have hc2 := cell_new w2 (S []) 25)
    | (go_at_call 7; with_reducible refine (refMade_is hs2 HM.out).mono ?_; rintro e w3 ⟨rfl, rfl⟩)
    | (go_at_call 8; with_reducible refine (code_at b2 10 _ hg2 hF2).mono ?_; rintro e w4 ⟨rfl, hb4⟩; have hc4 := keepb hb4 hc2))
  go_ret
  exact ⟨rfl, bt (ba (bt hb1 hbel2) _) hb4⟩

/-- What a walk of PathMakes keeps. -/
structure KP (w W : World) (v : Value) (l : List Str) : Prop where
  glob : Glob W
  below : Below w.heap.size w W
  sl : SlOf W [] v l
theorem KP.step {w W W' : World} {v : Value} {l : List Str} (h : KP w W v l) (hb : Below W.heap.size W W') : KP w W' v l :=
  ⟨h.glob.below hb, bt h.below hb, h.sl.below hb⟩
theorem pm_keep {w W W' : World} {v : Value} {l : List Str} {b1 b2 b3 : Nat} {x1 x2 x3 : Value} (h : W.cell? ⟨b1, 0, none⟩ = some x1 ∧ W.cell? ⟨b2, 0, none⟩ = some x2 ∧ W.cell? ⟨b3, 0, none⟩ = some x3 ∧ KP w W v l) (hb : Below W.heap.size W W') :
    W'.cell? ⟨b1, 0, none⟩ = some x1 ∧ W'.cell? ⟨b2, 0, none⟩ = some x2 ∧ W'.cell? ⟨b3, 0, none⟩ = some x3 ∧ KP w W' v l :=
  ⟨keepb hb h.1, keepb hb h.2.1, keepb hb h.2.2.1, h.2.2.2.step hb⟩

theorem parse_good {l : List Str} {w : World} (hg : Glob w) (h : madeB l = true) :
    Calls Tryd.prog 9 #[S (textOf (flat l))] w fun e w' => e = .returned (.tuple #[.agg #[S (flat l)], .nilIface]) ∧ Below w.heap.size w w' := by
  have hl := flat_length h
  have := parse_any (textOf (flat l)) (by unfold textOf; split; exact (by decide); omega) w hg
  rw [(parse_flat h).1, (parse_flat h).2] at this
  exact this
theorem up_good {l : List Str} {w : World} (h : madeB l = true) :
    Calls Tryd.prog 11 #[.agg #[S (flat l)]] w fun e w' => e = .returned (.agg #[S (flat l.dropLast)]) ∧ Below w.heap.size w w' := by
  have := up_any (flat l) (by have := flat_length h; omega) w
  rwa [up_flat h] at this
theorem parts_good {l : List Str} {w : World} (hg : Glob w) (h : madeB l = true) :
    Calls Tryd.prog 14 #[.agg #[S (flat l)]] w fun e w' => ∃ v, e = .returned v ∧ SlOf w' [] v l ∧ Below w.heap.size w w' := by
  refine (parts_any (flat l) (by have := flat_length h; omega) w hg).mono ?_
  rintro e w' ⟨v, rfl, hv, hb⟩
  have := hv [] (by simp)
  rw [partsOf_flat h] at this
  exact ⟨v, rfl, this, hb⟩
theorem same_good {l : List Str} {v u : Value} {w : World} (hv : SlOf w [] v l) (hu : SlOf w [] u l) :
    Calls Tryd.prog 13 #[v, u] w fun e w' => e = .returned (.bool true) ∧ Below w.heap.size w w' := by
  have := same_any l l v u w [] hv hu
  simpa using this
theorem over_good (l : List Str) (w : World) :
    Calls Tryd.prog 15 #[.agg #[S (flat l.dropLast)], .agg #[S (flat l)]] w fun e w' => e = .returned (.bool true) ∧ Below w.heap.size w w' := by
  have := over_any (flat l.dropLast) (flat l) w
  rwa [over_up] at this

set_option maxHeartbeats 4000000 in
theorem pathMakes_good (l : List Str) (v : Value) (w : World) (hg : Glob w) (hs : SlOf w [] v l) (hm : madeB l = true) :
    Calls Tryd.prog 3 #[v] w fun e w' => e = .returned (.bool true) ∧ Below w.heap.size w w' := by
  obtain ⟨a, c, rfl, hlc, hc48, hnil, hrow⟩ := id hs
  have h6 := (made_parts hm).1
  have h9' : (l.length : Int) ≤ 9 := by omega
  have HM := Lib.hid hm
  have HD := Lib.hid (madeB_dropLast hm)
  obtain ⟨n, hn, hmax, hdrop⟩ : ∃ n : Nat, n ≤ l.length ∧ max ((l.length : Int) - 1) 0 = (n : Int) ∧ l.take n = l.dropLast :=
    ⟨l.length - 1, by omega, by omega, by rw [List.dropLast_eq_take]⟩
  have hn0 : (0 : Int) ≤ (n : Int) := by omega
  have hw : IntKind.i64.wrap ((l.length : Int) - 1) = (l.length : Int) - 1 := IntWalk.i64_in _ (by omega)
  have hn1 : (n : Int) ≤ (c : Int) := by omega
  have HDr := Lib.hid hdrop
  clear hm hrow hdrop
  cases a with
  | none =>
    obtain rfl := hnil rfl
    obtain rfl : n = 0 := by omega
    clear hnil
    go_enter Tryd.func3, Tryd.ntmps3
    go_wp2_with (first
      | (go_at_call 5; with_reducible refine (awake_any _ hg).mono ?_; rintro e w1 ⟨rfl, hb1⟩; have k1 : KP w w1 _ l := ⟨hg.below hb1, hb1, hs.below hb1⟩)
      | (go_at_call 6; with_reducible refine (made_good k1.glob k1.sl HM.out).mono ?_; rintro e w2 ⟨rfl, hb2⟩; have k2 := k1.step (ba hb2 (.cells #[S (flat l)] 25)); have hc2 := cell_new w2 (S (flat l)) 25)
      | (go_at_call 7; with_reducible refine (refMade_is k2.sl HM.out).mono ?_; rintro e w3 ⟨rfl, rfl⟩)
      | (go_at_call 10; with_reducible refine (text_any (flat l) _).mono ?_; rintro e w4 ⟨rfl, hb4⟩; have k4 := k2.step hb4; have hc4 := keepb hb4 hc2)
      | (go_at_call 9; with_reducible refine (parse_good k4.glob HM.out).mono ?_; rintro e w5 ⟨rfl, hb5⟩; have k5 := k4.step (ba hb5 (.cells #[S (flat l)] 25)); have hc5 := keepb (ba hb5 (.cells #[S (flat l)] 25)) hc4; have hq5 := cell_new w5 (S (flat l)) 25)
      | (go_at_call 11; with_reducible refine (up_good HM.out).mono ?_; rintro e w6 ⟨rfl, hb6⟩)) 
    have hb6' : Below (w5.alloc (.cells #[S (flat l)] 25)).heap.size (w5.alloc (.cells #[S (flat l)] 25)) (w6.alloc (.cells #[S (flat l.dropLast)] 25)).drew := (ba hb6 _).drew
    have hS0 : _ ∧ _ ∧ _ ∧ _ := ⟨keepb hb6' hc5, keepb hb6' hq5, (show (w6.alloc (.cells #[S (flat l.dropLast)] 25)).drew.cell? ⟨w6.heap.size, 0, none⟩ = some (S (flat l.dropLast)) by simp), k5.step hb6'⟩
    go_region_held3 (fun W : World => W.cell? ⟨w2.heap.size, 0, none⟩ = some (S (flat l)) ∧ W.cell? ⟨w5.heap.size, 0, none⟩ = some (S (flat l)) ∧ W.cell? ⟨w6.heap.size, 0, none⟩ = some (S (flat l.dropLast)) ∧ KP w W (.slice none l.length 0) l)
      (first | assumption | exact hS0)
      (first
        | (go_at_call 10; with_reducible refine (text_any (flat l) _).mono ?_; rintro e w7 ⟨rfl, hb7⟩; have hS7 := pm_keep hS0 hb7)
        | (go_at_call 12; with_reducible refine (refText_any l _ _ [] hS7.2.2.2.sl HM.out).mono ?_; rintro e w8 ⟨rfl, rfl⟩)
        | (go_at_call 14; with_reducible refine (parts_good hS7.2.2.2.glob HM.out).mono ?_; rintro e w9 ⟨v9, rfl, hv9, hb9⟩; have hS9 := pm_keep hS7 hb9)
        | (go_at_call 13; with_reducible refine (same_good hv9 hS9.2.2.2.sl).mono ?_; rintro e w10 ⟨rfl, hb10⟩; have hS10 := pm_keep hS9 hb10)
        | (go_at_call 14; with_reducible refine (parts_good hS10.2.2.2.glob HD.out).mono ?_; rintro e w11 ⟨v11, rfl, hv11, hb11⟩; have hS11 := pm_keep hS10 hb11)
        | (go_at_call 13; have ht := hS11.2.2.2.sl.take hn; rw [HDr.out] at ht; with_reducible refine (same_good hv11 ht).mono ?_; rintro e w12 ⟨rfl, hb12⟩; have hS12 := pm_keep hS11 hb12)
        | (go_at_call 15; with_reducible refine (over_good l _).mono ?_; rintro e w13 ⟨rfl, hb13⟩; have hS13 := pm_keep hS12 hb13))
    all_goals (go_wp2; go_ret; exact ⟨rfl, hS13.2.2.2.below⟩)
  | some p =>
    clear hnil
    go_enter Tryd.func3, Tryd.ntmps3
    go_wp2_with (first
      | (go_at_call 5; with_reducible refine (awake_any _ hg).mono ?_; rintro e w1 ⟨rfl, hb1⟩; have k1 : KP w w1 _ l := ⟨hg.below hb1, hb1, hs.below hb1⟩)
      | (go_at_call 6; with_reducible refine (made_good k1.glob k1.sl HM.out).mono ?_; rintro e w2 ⟨rfl, hb2⟩; have k2 := k1.step (ba hb2 (.cells #[S (flat l)] 25)); have hc2 := cell_new w2 (S (flat l)) 25)
      | (go_at_call 7; with_reducible refine (refMade_is k2.sl HM.out).mono ?_; rintro e w3 ⟨rfl, rfl⟩)
      | (go_at_call 10; with_reducible refine (text_any (flat l) _).mono ?_; rintro e w4 ⟨rfl, hb4⟩; have k4 := k2.step hb4; have hc4 := keepb hb4 hc2)
      | (go_at_call 9; with_reducible refine (parse_good k4.glob HM.out).mono ?_; rintro e w5 ⟨rfl, hb5⟩; have k5 := k4.step (ba hb5 (.cells #[S (flat l)] 25)); have hc5 := keepb (ba hb5 (.cells #[S (flat l)] 25)) hc4; have hq5 := cell_new w5 (S (flat l)) 25)
      | (go_at_call 11; with_reducible refine (up_good HM.out).mono ?_; rintro e w6 ⟨rfl, hb6⟩)) 
    have hb6' : Below (w5.alloc (.cells #[S (flat l)] 25)).heap.size (w5.alloc (.cells #[S (flat l)] 25)) (w6.alloc (.cells #[S (flat l.dropLast)] 25)).drew := (ba hb6 _).drew
    have hS0 : _ ∧ _ ∧ _ ∧ _ := ⟨keepb hb6' hc5, keepb hb6' hq5, (show (w6.alloc (.cells #[S (flat l.dropLast)] 25)).drew.cell? ⟨w6.heap.size, 0, none⟩ = some (S (flat l.dropLast)) by simp), k5.step hb6'⟩
    go_region_held3 (fun W : World => W.cell? ⟨w2.heap.size, 0, none⟩ = some (S (flat l)) ∧ W.cell? ⟨w5.heap.size, 0, none⟩ = some (S (flat l)) ∧ W.cell? ⟨w6.heap.size, 0, none⟩ = some (S (flat l.dropLast)) ∧ KP w W (.slice (some p) l.length c) l)
      (first | assumption | exact hS0)
      (first
        | (go_at_call 10; with_reducible refine (text_any (flat l) _).mono ?_; rintro e w7 ⟨rfl, hb7⟩; have hS7 := pm_keep hS0 hb7)
        | (go_at_call 12; with_reducible refine (refText_any l _ _ [] hS7.2.2.2.sl HM.out).mono ?_; rintro e w8 ⟨rfl, rfl⟩)
        | (go_at_call 14; with_reducible refine (parts_good hS7.2.2.2.glob HM.out).mono ?_; rintro e w9 ⟨v9, rfl, hv9, hb9⟩; have hS9 := pm_keep hS7 hb9)
        | (go_at_call 13; with_reducible refine (same_good hv9 hS9.2.2.2.sl).mono ?_; rintro e w10 ⟨rfl, hb10⟩; have hS10 := pm_keep hS9 hb10)
        | (go_at_call 14; with_reducible refine (parts_good hS10.2.2.2.glob HD.out).mono ?_; rintro e w11 ⟨v11, rfl, hv11, hb11⟩; have hS11 := pm_keep hS10 hb11)
        | (go_at_call 13; have ht := hS11.2.2.2.sl.take hn; rw [HDr.out] at ht; with_reducible refine (same_good hv11 ht).mono ?_; rintro e w12 ⟨rfl, hb12⟩; have hS12 := pm_keep hS11 hb12)
        | (go_at_call 15; with_reducible refine (over_good l _).mono ?_; rintro e w13 ⟨rfl, hb13⟩; have hS13 := pm_keep hS12 hb13))
    all_goals (go_wp2; go_ret; exact ⟨rfl, hS13.2.2.2.below⟩)
end Go.Proofs.YtikebdpaaamghaaDoor
