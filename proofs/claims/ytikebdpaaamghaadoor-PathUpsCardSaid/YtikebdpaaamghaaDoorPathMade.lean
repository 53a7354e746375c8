/- The contract of the law's own Made: a path of the first six parts of a list that may be parts. -/
import Derived.Test.YtikebdpaaamghaaDoorPathMakes
import Derived.OwnWalk
import Derived.Laws.OwnMore
import Derived.OneCell
namespace Go.Proofs.YtikebdpaaamghaaDoor
open Go.RowKit

theorem infoStr : (Tryd.prog.info? 9).map (fun i => (i.zero, i.size, i.bytes)) = some (some (.string ByteArray.empty), 1, 16) := by kernel_rfl

/-- The parts that Made takes. -/
def pick (l : List Str) : List Str := (l.filter partB).take 6
theorem pick_made (l : List Str) : madeB (pick l) = true := by
  simp only [madeB, pick, Bool.and_eq_true]
  refine ⟨by simp; omega, List.all_eq_true.2 fun x hx => ?_⟩
  exact (List.mem_filter.1 (List.mem_of_mem_take hx)).2

theorem filter_take_no {l : List Str} {k : Nat} (hk : k < l.length) (hb : partB l[k] = false) : (l.take (k + 1)).filter partB = (l.take k).filter partB := by
  rw [List.take_succ_eq_append_getElem hk, List.filter_append]; simp [hb]
theorem filter_take_yes {l : List Str} {k : Nat} (hk : k < l.length) (hb : partB l[k] = true) : (l.take (k + 1)).filter partB = (l.take k).filter partB ++ [l[k]] := by
  rw [List.take_succ_eq_append_getElem hk, List.filter_append]; simp [hb]
theorem pick_end {l : List Str} (h : (l.filter partB).length ≤ 6) : l.filter partB = pick l := by
  unfold pick; rw [List.take_of_length_le h]
theorem pick_six {l : List Str} {k : Nat} (h : ((l.take k).filter partB).length = 6) : (l.take k).filter partB = pick l := by
  have e : l.filter partB = (l.take k).filter partB ++ (l.drop k).filter partB := by rw [← List.filter_append, List.take_append_drop]
  have e2 : (l.filter partB).take 6 = (l.take k).filter partB := by
    rw [e]
    have h7 : 6 ≤ ((l.take k).filter partB).length := Nat.le_of_eq h.symm
    rw [List.take_append_of_le_length h7]
    exact List.take_of_length_le (Nat.le_of_eq h)
  exact e2.symm

theorem one_made {s : Str} : madeB [s] = partB s := by simp [madeB]

theorem refMade_one {s : Str} {n : Nat} {w : World} {r : Bool} (h : w.cell? ⟨n, 0, none⟩ = some (S s)) (hs : s.length ≤ 9223372036854775807) (hr : partB s = r) :
    Calls Tryd.prog 7 #[.slice (some ⟨n, 0, none⟩) 1 1] w fun e w' => e = .returned (.bool r) ∧ w = w' :=
  refMade_is (l := [s]) ⟨_, _, rfl, Nat.le_refl _, by decide, fun h => (by cases h), .inr ⟨n, 0, rfl, by simp, lt_of_cell h, fun i x hi => by
    cases i with
    | zero =>
      simp at hi; subst hi
      refine ⟨[S s], ⟨rfl, hs⟩, fun j v hj => ?_⟩
      cases j with
      | zero => simp at hj; subst hj; simpa using h
      | succ j => simp at hj
    | succ i => simp at hi⟩⟩ (by rw [one_made, hr])

theorem cell_new_at {w : World} {n : Nat} (hn : n = w.heap.size) (v : Value) (t : TypeId) : ∀ j u, [v][j]? = some u → (w.alloc (.cells #[v] t)).cell? ((⟨n, 0, none⟩ : Addr).add j) = some u := by
  subst hn
  intro j u hj
  cases j with
  | zero => simp at hj; subst hj; simp [Addr.add]
  | succ j => simp at hj

theorem own_ge {w : World} {base : Nat} {T : TypeId} {sz : Nat} {v : Value} {n : Nat} {xs : List Value} (h : w.ownsRow base T sz v n xs) : ∀ k, v.ownBlock = some k → base ≤ k := by
  rcases h.2 with ⟨rfl, rfl⟩ | ⟨g, cap, _, rfl, hg, _⟩
  · intro k hk; simp [Value.ownBlock] at hk
  · intro k hk; simp [Value.ownBlock] at hk; omega

theorem adv_set {w w5 : World} {M : List Nat} {p : Addr} (hb : Below w.heap.size w w5) (hM : ∀ k, k ∈ M → k ∈ p.block :: M ∨ w.heap.size ≤ k) (v : Value) (o : Obj) : Adv (p.block :: M) w M ((w5.setCell p v).alloc o) where
  size := by have := hb.size; simp; omega
  block := fun k hk hn => by
    have h1 : k < (w5.setCell p v).heap.size := by have := hb.size; simp; omega
    rw [Below.heap_alloc _ _ _ h1, Below.heap_setCell _ _ _ _ (fun e => hn (by simp [e])), hb.block k hk]
  sub := hM

theorem ownsRow_form {w : World} {base : Nat} {T : TypeId} {sz : Nat} {v : Value} {n : Nat} {xs : List Value} (h : w.ownsRow base T sz v n xs) : ∃ (A : Option Addr) (cap : Nat), v = .slice A n cap := by
  rcases h.2 with ⟨rfl, rfl⟩ | ⟨g, cap, _, rfl, _⟩
  · exact ⟨none, 0, rfl⟩
  · exact ⟨some ⟨g, 0, none⟩, cap, rfl⟩

theorem ownsRow_sl {w : World} {base : Nat} {T : TypeId} {v : Value} {xs : List Str} {M : List Nat} (h : w.ownsRow base T 1 v xs.length (xs.map S)) (hM : ∀ k, k ∈ M → k < base) (hx : ∀ x, x ∈ xs → x.length ≤ 9223372036854775807) : SlOf w M v xs := by
  obtain ⟨h1, h2⟩ := h
  rcases h2 with ⟨rfl, hn⟩ | ⟨g, cap, cur, rfl, hg, hh, hc, hm, hz, ht⟩
  · have : xs = [] := List.length_eq_zero_iff.1 hn
    subst this
    exact ⟨none, 0, rfl, Nat.le_refl _, by omega, fun _ => rfl, .inl rfl⟩
  · refine ⟨some ⟨g, 0, none⟩, cap, rfl, hc, by unfold maxLen at hm; omega, fun h => (by cases h), .inr ⟨g, 0, rfl, fun hm' => by have := hM g hm'; omega, ?_, fun i x hi => ?_⟩⟩
    · rcases Nat.lt_or_ge g w.heap.size with h | h
      · exact h
      · rw [Array.getElem?_eq_none h] at hh; cases hh
    · refine ⟨[S x], ⟨rfl, hx x (List.mem_of_getElem? hi)⟩, fun j v hj => ?_⟩
      cases j with
      | succ j => simp at hj
      | zero =>
        simp at hj; subst hj
        have hil : i < xs.length := by
          rcases Nat.lt_or_ge i xs.length with h | h
          · exact h
          · rw [List.getElem?_eq_none h] at hi; cases hi
        have e : cur.toList[i]? = some (S x) := by
          have : (cur.toList.take (xs.length * 1))[i]? = (xs.map S)[i]? := by rw [ht]
          rw [List.getElem?_take, if_pos (by omega), List.getElem?_map, hi] at this
          exact this
        simp only [Rep.sz, Nat.mul_one, Nat.zero_add, Nat.add_zero]
        simp [World.cell?, hh]
        simpa using e

set_option maxRecDepth 100000 in
set_option maxHeartbeats 2000000 in
theorem lawMade_any (l : List Str) (v : Value) (w : World) (hg : Glob w) (hs : SlOf w [] v l) :
    Calls Tryd.prog 16 #[v] w fun e w' => ∃ u, e = .returned (.tuple #[.agg #[S (flat (pick l))], u]) ∧ (∀ M, (∀ k, k ∈ M → k < w.heap.size) → SlOf w' M u (pick l)) ∧ Below w.heap.size w w' := by
  obtain ⟨a, c, rfl, hlc, hc48, -, hrow⟩ := id hs
  obtain ⟨i0, hi, hz0, hz1, hz2⟩ := info_parts infoStr
  have hb0 : Below w.heap.size w (w.alloc (.cells #[.string ⟨#[]⟩] 25)) := ba (b0 w) _
  go_enter Tryd.func16, Tryd.ntmps16
  go_wp2
  go_loopw [4, 5] (fun o i wr => ∃ k : Nat, k ≤ l.length ∧ i = .int .i64 k ∧ ((l.take k).filter partB).length ≤ 6 ∧ Below (w.heap.size + 1) (w.alloc (.cells #[.string ⟨#[]⟩] 25)) wr ∧ wr.ownsRow (w.heap.size + 1) 9 1 o ((l.take k).filter partB).length (((l.take k).filter partB).map S)) (fun _ i _ => l.length - (intOf i).toNat)
  case atStart => exact ⟨0, Nat.zero_le _, rfl, by simp, Below.refl _ _, by simp [World.ownsRow]⟩
  case round =>
    obtain ⟨k, hk, rfl, h6, hbel, hown⟩ := hrel
    obtain ⟨acc, hacc⟩ : ∃ acc, (l.take k).filter partB = acc := ⟨_, rfl⟩
    rw [hacc] at h6 hown
    obtain ⟨A, cap, rfl⟩ := ownsRow_form hown
    have HACC := Lib.hid hacc
    clear hacc
    have HI := Lib.hid hi
    have HZ0 := Lib.hid hz0
    have HZ1 := Lib.hid hz1
    have HZ2 := Lib.hid hz2
    have HO := Lib.hid hown
    clear hi hz0 hz1 hz2 hown hb0
    have hbw : Below w.heap.size w wr := (ba (b0 w) _).trans (hbel.mono (by omega))
    have hwsz : w.heap.size + 1 ≤ wr.heap.size := by have := hbel.size; simpa using this
    by_cases hgo : k < l.length ∧ acc.length < 6
    · obtain ⟨hlt, hlt6⟩ := hgo
      obtain ⟨b, off, rfl, hr⟩ := hrow.resolve_left (by rintro rfl; simp at hlt)
      have hx := hr.str (k := k) (x := l[k]) (by simp [hlt])
      have hcell := keepb hbw hx.1
      have hbl := lt_of_cell hcell
      have HX := Lib.hid hx.2
      clear hr hx hrow
      have hlt6' : (acc.length : Int) < 6 := by omega
      cases hpk : partB l[k] with
      | false =>
        have HP := Lib.hid hpk
        clear hpk
        go_wp2_with (first | (go_at_call 7; with_reducible refine (refMade_one (by simp) HX.out HP.out).mono ?_; rintro e w1 ⟨rfl, rfl⟩))
        go_roundw
        case rel => exact ⟨k + 1, by omega, by go_num, by rw [filter_take_no hlt HP.out, HACC.out]; exact h6, hbel.alloc hwsz _, by rw [filter_take_no hlt HP.out, HACC.out]; exact HO.out.alloc _⟩
        case measure => simp [intOf]; omega
      | true =>
        have HP := Lib.hid hpk
        clear hpk
        go_wp2_with (first
          | (go_at_call 7; with_reducible refine (refMade_one (by simp) HX.out HP.out).mono ?_; rintro e w1 ⟨rfl, rfl⟩)
          | (at_builtin; go_loud (refine wpList_append_own _ rfl _ _ 22 rfl (w.heap.size + 1) 9 i0 (.string ByteArray.empty) 1 16 Tryd.underlying22 HI.out HZ0.out HZ1.out HZ2.out rfl (by decide) _ _ _ rfl ((HO.out.alloc _).alloc _) ⟨wr.heap.size + 1, 0, none⟩ 1 1 [S l[k]] rfl rfl (cell_new_at (by simp) _ _) (fun x hx => by simp at hx; subst hx; rfl) (by unfold maxLen; omega) (by omega) (by simp; omega) ?_); intro v' w3 hown' hgrow hnil'))
        have hb1 : Below (w.heap.size + 1) (w.alloc (.cells #[.string ⟨#[]⟩] 25)) ((wr.alloc (.cells #[S l[k]] 9)).alloc (.cells #[S l[k]] 9)) := (hbel.alloc hwsz _).alloc (by simp; omega) _
        have hb3 := hb1.grown hgrow (by simp; omega) (own_ge HO.out)
        go_roundw
        case rel => exact ⟨k + 1, by omega, by go_num, by rw [filter_take_yes hlt HP.out, HACC.out]; simp; omega, hb3, by rw [filter_take_yes hlt HP.out, HACC.out]; simpa using hown'⟩
        case measure => simp [intOf]; omega
    · have hacc : acc = pick l := by
        by_cases hlt : k < l.length
        · have h7 : ¬ acc.length < 6 := fun h => hgo ⟨hlt, h⟩
          rw [← HACC.out]; exact pick_six (by rw [HACC.out]; omega)
        · have hkl : k = l.length := by omega
          have h8 := HACC.out
          rw [hkl, List.take_length] at h8
          rw [← h8]; exact pick_end (by rw [h8]; exact h6)
      subst hacc
      have HX : ∀ x, x ∈ pick l → x.length ≤ 9223372036854775807 := fun x hx => by have := (part_ne ((made_parts (pick_made l)).2 x hx)).2.1; omega
      have hsl := ownsRow_sl (M := []) HO.out (by simp) HX
      have hcr : wr.cell? ⟨w.heap.size, 0, none⟩ = some (.string ⟨#[]⟩) := keepc hbel (by simp) (by omega)
      have hfr : wr.frozen? ⟨w.heap.size, 0, none⟩ = false := frz hbel (by simp) (by omega)
      have hrl := lt_of_cell hcr
      have HG := Lib.hid (hg.below hbw)
      have hnot := Lib.hid hgo
      clear hgo hg hrow hs
      have hgo' : k < l.length → (6 : Int) ≤ ((pick l).length : Int) := fun h => by
        have : ¬ (pick l).length < 6 := fun h' => hnot.out ⟨h, h'⟩
        omega
      by_cases hlt : k < l.length
      · have h66 := hgo' hlt
        clear hgo' h6
        go_wp2_with (first | (go_at_call 6; with_reducible refine (made_good HG.out hsl (pick_made l)).mono ?_; rintro e w5 ⟨rfl, hb5⟩; have hc5 := keepb hb5 hcr; have hf5 := frz hb5 hfr hrl; have hl5 := lt_of_cell hc5))
        have hrl5 : w.heap.size < w5.heap.size := hl5
        refine bodyPost_ret (v := .tuple #[.agg #[S (flat (pick l))], .slice A (pick l).length cap]) (by simp [results, Tryd.results16, go_sem, hc5, hrl5]) rfl ⟨_, rfl, fun M hM => ?_, ?_⟩
        · exact (ownsRow_sl (M := w.heap.size :: M) HO.out (fun k hk => by rcases List.mem_cons.1 hk with rfl | hk; omega; have := hM k hk; omega) HX).adv (adv_set (p := ⟨w.heap.size, 0, none⟩) hb5 (fun k hk => .inl (List.mem_cons_of_mem _ hk)) _ _)
        · exact ((bt hbw hb5).setCell (Nat.le_refl _) _).alloc (by have := (bt hbw hb5).size; simp; omega) _
      · clear hgo' h6
        go_wp2_with (first | (go_at_call 6; with_reducible refine (made_good HG.out hsl (pick_made l)).mono ?_; rintro e w5 ⟨rfl, hb5⟩; have hc5 := keepb hb5 hcr; have hf5 := frz hb5 hfr hrl; have hl5 := lt_of_cell hc5))
        have hrl5 : w.heap.size < w5.heap.size := hl5
        refine bodyPost_ret (v := .tuple #[.agg #[S (flat (pick l))], .slice A (pick l).length cap]) (by simp [results, Tryd.results16, go_sem, hc5, hrl5]) rfl ⟨_, rfl, fun M hM => ?_, ?_⟩
        · exact (ownsRow_sl (M := w.heap.size :: M) HO.out (fun k hk => by rcases List.mem_cons.1 hk with rfl | hk; omega; have := hM k hk; omega) HX).adv (adv_set (p := ⟨w.heap.size, 0, none⟩) hb5 (fun k hk => .inl (List.mem_cons_of_mem _ hk)) _ _)
        · exact ((bt hbw hb5).setCell (Nat.le_refl _) _).alloc (by have := (bt hbw hb5).size; simp; omega) _
end Go.Proofs.YtikebdpaaamghaaDoor
