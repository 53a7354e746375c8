/- The law PathUps, walked: for every list of texts it returns true. -/
import Derived.Test.YtikebdpaaamghaaDoorPathMade
namespace Go.Proofs.YtikebdpaaamghaaDoor
open Go.RowKit

theorem count_part {x : Str} (h : ∀ c, c ∈ x → c ≠ 47) : x.count 47 = 0 := List.count_eq_zero.2 fun hm => h 47 hm rfl
theorem count_flat : ∀ {l : List Str}, (∀ s, s ∈ l → partB s = true) → (flat l).count 47 = l.length
  | [], _ => rfl
  | x :: r, h => by
    rw [flat_cons, List.count_cons_self, List.count_append, count_part (part_ne (h x (by simp))).2.2, count_flat (fun s hs => h s (by simp [hs]))]
    simp
theorem cmpS_self : ∀ a : Str, cmpS a a = 0 := by
  have hl : ∀ a : Str, Go.Op.bytesLess a a = false := by
    intro a
    induction a with
    | nil => rfl
    | cons c t ih => simp [Go.Op.bytesLess, ih]
  intro a; simp [cmpS, hl]
theorem cmpL_ext : ∀ (a b : List Str), b ≠ [] → cmpL a (a ++ b) = -1
  | [], b, h => by cases b with | nil => exact absurd rfl h | cons _ _ => rfl
  | x :: a, b, h => by rw [List.cons_append, cmpL, if_pos (cmpS_self x)]; exact cmpL_ext a b h
theorem over_not (a : List Str) (x : Str) : overB (flat (a ++ [x])) (flat a) = false := by
  have : Go.Lib.hasPrefix (flat a) (flat (a ++ [x])) = false := by
    unfold Go.Lib.hasPrefix
    rw [Bool.eq_false_iff]
    intro h
    have := (List.isPrefixOf_iff_prefix.1 h).length_le
    rw [flat_append] at this
    simp [flat] at this
    omega
  rw [overB, this]; rfl

/-- What one step up shows. -/
structure Ups (m u : List Str) : Prop where
  made : madeB m = true
  madeU : madeB u = true
  up : m.dropLast = u
  depth : (flat u).count 47 = u.length
  len : m.length = u.length + 1
  over : overB (flat u) (flat m) = true
  overNot : overB (flat m) (flat u) = false
  cmp : cmpL u m = -1
theorem ups_of {m : List Str} (h : madeB m = true) (hm : m ≠ []) : Ups m m.dropLast := by
  rcases List.eq_nil_or_concat m with rfl | ⟨a, x, rfl⟩
  · exact absurd rfl hm
  · rw [List.concat_eq_append] at *
    have e : (a ++ [x]).dropLast = a := by simp
    have hU := madeB_dropLast h
    exact ⟨h, hU, rfl, count_flat (made_parts hU).2, by simp, over_up _, by rw [e]; exact over_not a x, by rw [e]; exact cmpL_ext a [x] (by simp)⟩

theorem depth_good {u : List Str} (w : World) (h : (flat u).count 47 = u.length) :
    Calls Tryd.prog 17 #[.agg #[S (flat u)]] w fun e w' => e = .returned (.int .i64 (u.length : Int)) ∧ Below w.heap.size w w' := by
  have := depth_any (flat u) w
  rwa [h] at this
theorem over_is {p o : Str} {r : Bool} (w : World) (h : overB p o = r) :
    Calls Tryd.prog 15 #[.agg #[S p], .agg #[S o]] w fun e w' => e = .returned (.bool r) ∧ Below w.heap.size w w' := by
  have := over_any p o w
  rwa [h] at this
theorem compare_good {u m : List Str} {w : World} (hg : Glob w) (hu : madeB u = true) (hm : madeB m = true) {r : Int} (h : cmpL u m = r) :
    Calls Tryd.prog 18 #[.agg #[S (flat u)], .agg #[S (flat m)]] w fun e w' => e = .returned (.int .i64 r) ∧ Below w.heap.size w w' := by
  have := compare_any (flat u) (flat m) (by have := flat_length hu; omega) (by have := flat_length hm; omega) w hg
  rwa [partsOf_flat hu, partsOf_flat hm, h] at this

theorem glob_set {w : World} (h : Glob w) {n b : Nat} (hn : 4 ≤ n) (hb : n ≤ b) (v : Value) : Glob (w.setCell ⟨b, 0, none⟩ v) := by
  obtain ⟨h1, m, h2⟩ := h
  refine ⟨?_, m, ?_⟩
  · rw [World.cell?_setCell_other _ _ _ _ (fun e => by injection e with e1; omega)]; exact h1
  · rw [World.cell?_setCell_other _ _ _ _ (fun e => by injection e with e1; omega)]; exact h2

set_option maxRecDepth 100000 in
set_option maxHeartbeats 4000000 in
theorem pathUps_any (l : List Str) (v : Value) (w : World) (hg : Glob w) (hgw : 4 ≤ w.heap.size) (hs : SlOf w [] v l) :
    Calls Tryd.prog 4 #[v] w fun e w' => e = .returned (.bool true) ∧ Below w.heap.size w w' := by
  go_enter Tryd.func4, Tryd.ntmps4
  go_wp2_with (first
    | (go_at_call 5; with_reducible refine (awake_any _ hg).mono ?_; rintro e w1 ⟨rfl, hb1⟩; have hg1 := hg.below hb1; have hs1 := hs.below hb1)
    | (go_at_call 16; refine (lawMade_any l v _ hg1 hs1).mono ?_; rintro e w2 ⟨u, rfl, hsu, hb2⟩; obtain ⟨au, cu, hu, -, -, -, -⟩ := hsu [] (by simp); subst hu))
  obtain ⟨out, hout⟩ : ∃ out, pick l = out := ⟨_, rfl⟩
  have hpk0 := pick_made l
  rw [hout] at hpk0
  have hpk : madeB out = true := hpk0
  clear hpk0
  rw [hout] at *
  clear hout hs hs1 hsu
  have hbA : Below w.heap.size w (w2.alloc (.cells #[S (flat out)] 25)) := ba (bt hb1 hb2) _
  have hgA := hg.below hbA
  have hwA : w.heap.size ≤ w2.heap.size := (bt hb1 hb2).size
  clear hg hg1
  go_loopw [5] (fun i wr => ∃ k : Nat, k ≤ out.length ∧ i = .int .i64 k ∧ Glob wr ∧ Below w.heap.size w wr ∧ wr.cell? ⟨w2.heap.size, 0, none⟩ = some (S (flat (out.take k))) ∧ wr.frozen? ⟨w2.heap.size, 0, none⟩ = false) (fun i _ => (intOf i).toNat)
  case atStart => exact ⟨out.length, Nat.le_refl _, rfl, hgA, hbA, by rw [List.take_length]; simp, by simp⟩
  case round =>
    obtain ⟨k, hk, rfl, hgr, hbr, hcr, hfr⟩ := hrel
    clear hgA hbA
    by_cases hk0 : 0 < k
    · have hne : out.take k ≠ [] := by intro h; have h2 := congrArg List.length h; rw [List.length_take] at h2; simp only [List.length_nil] at h2; omega
      have hUps := ups_of (madeB_sub hpk (by simp; omega) (fun s hs => List.mem_of_mem_take hs) : madeB (out.take k) = true) hne
      obtain ⟨m, hm⟩ : ∃ m, out.take k = m := ⟨_, rfl⟩
      obtain ⟨uu, hu⟩ : ∃ uu, m.dropLast = uu := ⟨_, rfl⟩
      rw [hm] at hUps hcr
      rw [hu] at hUps
      have hml : m.length = k := by have h2 := congrArg List.length hm; rw [List.length_take] at h2; omega
      have hd : ((uu.length : Int) != (k : Int) - 1) = false := bne_eq_false_iff_eq.2 (by have := hUps.len; omega)
      have hut : uu = out.take (k - 1) := by rw [← hu, List.dropLast_eq_take, hml, ← hm, List.take_take, Nat.min_eq_left (by omega)]
      have HUT := Lib.hid hut
      have HM := Lib.hid hm
      have HU := Lib.hid hu
      have hUp := fun W => up_good (w := W) hUps.made
      rw [hu] at hUp
      clear hut hm hu hne hml
      have hw2r := lt_of_cell hcr
      have hk6 : (k : Int) ≤ 6 := by have := (made_parts hpk).1; omega
      have hk1 : (1 : Int) ≤ (k : Int) := by omega
      go_wp2_with (first
        | (go_at_call 11; with_reducible refine (hUp _).mono ?_; rintro e w3 ⟨rfl, hb3⟩; have hc3 := keepb (ba hb3 (.cells #[S (flat uu)] 25)) hcr; have hf3 := frz (ba hb3 (.cells #[S (flat uu)] 25)) hfr hw2r; have hg3 := hgr.below (ba hb3 (.cells #[S (flat uu)] 25)); have hu3 := cell_new w3 (S (flat uu)) 25; have hl3 := lt_of_cell hc3)
        | (go_at_call 17; with_reducible refine (depth_good _ hUps.depth).mono ?_; rintro e w4 ⟨rfl, hb4⟩; have hc4 := keepb hb4 hc3; have hu4 := keepb hb4 hu3; have hg4 := hg3.below hb4; have hf4 := frz hb4 hf3 hl3; have hl4 := lt_of_cell hc4)
        | (go_at_call 15; with_reducible refine (over_is _ hUps.over).mono ?_; rintro e w5 ⟨rfl, hb5⟩; have hc5 := keepb hb5 hc4; have hu5 := keepb hb5 hu4; have hg5 := hg4.below hb5; have hf5 := frz hb5 hf4 hl4; have hl5 := lt_of_cell hc5)
        | (go_at_call 15; with_reducible refine (over_is _ hUps.overNot).mono ?_; rintro e w6 ⟨rfl, hb6⟩; have hc6 := keepb hb6 hc5; have hu6 := keepb hb6 hu5; have hg6 := hg5.below hb6; have hf6 := frz hb6 hf5 hl5; have hl6 := lt_of_cell hc6)
        | (go_at_call 18; with_reducible refine (compare_good hg6 hUps.madeU hUps.made hUps.cmp).mono ?_; rintro e w7 ⟨rfl, hb7⟩; have hc7 := keepb hb7 hc6; have hu7 := keepb hb7 hu6; have hg7 := hg6.below hb7; have hf7 := frz hb7 hf6 hl6))
      have hbB : Below w.heap.size w w7 := bt (bt (bt (bt (ba (bt hbr hb3) _) hb4) hb5) hb6) hb7
      go_roundw
      case rel => exact ⟨k - 1, by omega, by go_num, glob_set hg7 hgw hwA _, hbB.setCell hwA _, by rw [World.cell?_setCell_same _ _ _ hc7, HUT.out], by simpa using hf7⟩
      case measure => simp [intOf]; omega
    · obtain rfl : k = 0 := by omega
      have hc0 : wr.cell? ⟨w2.heap.size, 0, none⟩ = some (S []) := hcr
      clear hcr hpk
      have hUp0 : ∀ W, Calls Tryd.prog 11 #[.agg #[S []]] W fun e w' => e = .returned (.agg #[S []]) ∧ Below W.heap.size W w' := fun W => up_good (l := []) (w := W) rfl
      have hTx0 : ∀ W, Calls Tryd.prog 10 #[.agg #[S []]] W fun e w' => e = .returned (S [47]) ∧ Below W.heap.size W w' := fun W => text_any [] W
      go_wp2_with fail
      have hS0 : wr.drew.cell? ⟨w2.heap.size, 0, none⟩ = some (S []) ∧ Below w.heap.size w wr.drew := ⟨hc0, hbr.drew⟩
      go_region_held3 (fun W : World => W.cell? ⟨w2.heap.size, 0, none⟩ = some (S []) ∧ Below w.heap.size w W)
        (first | assumption | exact hS0)
        (first
          | (go_at_call 11; with_reducible refine (hUp0 _).mono ?_; rintro e w8 ⟨rfl, hb8⟩; have hS8 := And.intro (keepb hb8 hS0.1) (bt hS0.2 hb8))
          | (go_at_call 10; with_reducible refine (hTx0 _).mono ?_; rintro e w9 ⟨rfl, hb9⟩; have hS9 := And.intro (keepb hb9 hS8.1) (bt hS8.2 hb9)))
      all_goals (go_wp2; go_ret; exact ⟨rfl, hS9.2⟩)
end Go.Proofs.YtikebdpaaamghaaDoor
