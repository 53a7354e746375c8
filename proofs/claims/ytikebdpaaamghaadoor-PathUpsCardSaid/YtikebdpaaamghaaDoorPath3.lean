/- The contracts of Path.Over, path.Compare, path.Parse. -/
import Derived.Test.YtikebdpaaamghaaDoorPath2
import Derived.WalkLawsBesides
namespace Go.Proofs.YtikebdpaaamghaaDoor
open Go.RowKit

def overB (p o : Str) : Bool := Go.Lib.hasPrefix o p && match Go.Lib.trimPrefix o p with | [] => true | c :: _ => c == 47

theorem byte_eq47 (c : UInt8) : ((c.toNat : Int) == 47) = (c == 47) := by
  rw [Bool.eq_iff_iff, beq_iff_eq, beq_iff_eq]
  exact ⟨fun h => UInt8.toNat_inj.1 (by simp; omega), fun h => by rw [h]; rfl⟩

set_option maxHeartbeats 1000000 in
theorem over_any (p o : Str) (w : World) :
    Calls Tryd.prog 15 #[.agg #[S p], .agg #[S o]] w fun e w' => e = .returned (.bool (overB p o)) ∧ Below w.heap.size w w' := by
  have hC := fun W => Tryd.strings_CutPrefix ⟨o.toArray⟩ ⟨p.toArray⟩ W
  by_cases hp : Go.Lib.hasPrefix o p = true
  · cases ht : Go.Lib.trimPrefix o p with
    | nil =>
      have H := Lib.hid (show overB p o = true by simp [overB, hp, ht])
      have hC' : ∀ W, Calls Tryd.prog 23 #[S o, S p] W fun e w' => e = .returned (.tuple #[S [], .bool true]) ∧ w' = W := fun W => by
        refine (hC W).mono ?_; rintro e w' ⟨rfl, rfl⟩; exact ⟨by rw [ht, hp], rfl⟩
      clear hC hp ht
      go_enter Tryd.func15, Tryd.ntmps15
      go_wp2_with (go_at_call 23; refine (hC' _).mono ?_; rintro e w' ⟨rfl, rfl⟩)
      go_ret
      exact ⟨ret_bool H.out.symm, ((Below.refl _ _).alloc (Nat.le_refl _) _).alloc (by simp) _⟩
    | cons c r =>
      have H := Lib.hid (show overB p o = (c == 47) by simp [overB, hp, ht])
      have hC' : ∀ W, Calls Tryd.prog 23 #[S o, S p] W fun e w' => e = .returned (.tuple #[S (c :: r), .bool true]) ∧ w' = W := fun W => by
        refine (hC W).mono ?_; rintro e w' ⟨rfl, rfl⟩; exact ⟨by rw [ht, hp], rfl⟩
      clear hC hp ht
      go_enter Tryd.func15, Tryd.ntmps15
      go_wp2_with (go_at_call 23; refine (hC' _).mono ?_; rintro e w' ⟨rfl, rfl⟩)
      go_ret
      refine ⟨ret_bool ?_, ((Below.refl _ _).alloc (Nat.le_refl _) _).alloc (by simp) _⟩
      rw [H.out]; exact byte_eq47 c
  · have hp' : Go.Lib.hasPrefix o p = false := by simpa using hp
    have H := Lib.hid (show overB p o = false by simp [overB, hp'])
    have hC' : ∀ W, Calls Tryd.prog 23 #[S o, S p] W fun e w' => e = .returned (.tuple #[S o, .bool false]) ∧ w' = W := fun W => by
      refine (hC W).mono ?_; rintro e w' ⟨rfl, rfl⟩; exact ⟨by rw [Go.Lib.trimPrefix, hp']; rfl, rfl⟩
    clear hC hp hp'
    go_enter Tryd.func15, Tryd.ntmps15
    go_wp2_with (go_at_call 23; refine (hC' _).mono ?_; rintro e w' ⟨rfl, rfl⟩)
    go_ret
    exact ⟨ret_bool H.out.symm, ((Below.refl _ _).alloc (Nat.le_refl _) _).alloc (by simp) _⟩

/-- Which text comes first, bytewise. -/
def cmpS (a b : Str) : Int := if Go.Op.bytesLess a b = true then -1 else if a = b then 0 else 1
/-- Which list of texts comes first. -/
def cmpL : List Str → List Str → Int
  | [], [] => 0
  | [], _ :: _ => -1
  | _ :: _, [] => 1
  | a :: l, b :: m => if cmpS a b = 0 then cmpL l m else cmpS a b

theorem cmp_any (a b : Str) (w : World) :
    Calls Tryd.prog 28 #[S a, S b] w fun e w' => e = .returned (.int .i64 (cmpS a b)) ∧ w = w' := by
  go_enter Tryd.func28, Tryd.ntmps28
  go_wp2
  · have h : Go.Op.bytesLess a b = true := by assumption
    go_ret; exact ⟨ret_int (by rw [cmpS, if_pos h]), rfl⟩
  · have h : Go.Op.bytesLess a b = false := by assumption
    have h2 : (!a == b) = true := by assumption
    go_ret; exact ⟨ret_int (by rw [cmpS, if_neg (by simp [h]), if_neg (by simpa using h2)]), rfl⟩
  · have h : Go.Op.bytesLess a b = false := by assumption
    have h2 : (!a == b) = false := by assumption
    go_ret; exact ⟨ret_int (by rw [cmpS, if_neg (by simp [h]), if_pos (by simpa using h2)]), rfl⟩

theorem cmpL_step {l m : List Str} {k : Nat} (hl : k < l.length) (hm : k < m.length) : cmpL (l.drop k) (m.drop k) = if cmpS l[k] m[k] = 0 then cmpL (l.drop (k + 1)) (m.drop (k + 1)) else cmpS l[k] m[k] := by
  rw [List.drop_eq_getElem_cons hl, List.drop_eq_getElem_cons hm]; rfl

set_option maxHeartbeats 1000000 in
theorem compareFunc_any (l m : List Str) (v u : Value) (w : World) (hv : SlOf w [] v l) (hu : SlOf w [] u m) (hl : l.length ≤ 4294967281) (hm : m.length ≤ 4294967281) :
    Calls Tryd.prog 27 #[v, u, .func (.func 28) #[] #[]] w fun e w' => e = .returned (.int .i64 (cmpL l m)) ∧ w = w' := by
  obtain ⟨a, c, rfl, hlc, hc48, -, hrow⟩ := hv
  obtain ⟨a', c', rfl, hlc', hc48', -, hrow'⟩ := hu
  go_enter Tryd.func27, Tryd.ntmps27
  go_wp2
  go_loop [13] (fun i => ∃ k : Nat, k ≤ l.length ∧ k ≤ m.length ∧ i = .int .i64 k ∧ cmpL l m = cmpL (l.drop k) (m.drop k)) (fun i => l.length - (intOf i).toNat)
  case atStart => exact ⟨0, Nat.zero_le _, Nat.zero_le _, rfl, rfl⟩
  case round =>
    obtain ⟨k, hk, hk', rfl, heq⟩ := hrel
    have HE := Lib.hid heq
    clear heq
    by_cases hlt : k < l.length
    · obtain ⟨b, off, rfl, hr⟩ := hrow.resolve_left (by rintro rfl; simp at hlt)
      have hx := hr.str (k := k) (x := l[k]) (by simp [hlt])
      have hcell := hx.1
      by_cases hlt' : k < m.length
      · obtain ⟨b', off', rfl, hr'⟩ := hrow'.resolve_left (by rintro rfl; simp at hlt')
        have hx' := hr'.str (k := k) (x := m[k]) (by simp [hlt'])
        have hcell' := hx'.1
        have HS := Lib.hid (cmpL_step hlt hlt')
        clear hr hx hrow hr' hx' hrow'
        go_wp2_with (go_at_call 28; refine (cmp_any l[k] m[k] _).mono ?_; rintro e w' ⟨rfl, rfl⟩)
        · have h : (cmpS l[k] m[k] != 0) = true := by assumption
          go_ret; exact ⟨ret_int (by rw [HE.out, HS.out, if_neg (by simpa using h)]), rfl⟩
        · have h : (cmpS l[k] m[k] != 0) = false := by assumption
          go_round
          case rel => exact ⟨k + 1, by omega, by omega, by go_num, by rw [HE.out, HS.out, if_pos (by simpa using h)]⟩
          case measure => simp [intOf]; omega
      · have HS := Lib.hid (show cmpL (l.drop k) (m.drop k) = 1 by rw [List.drop_eq_getElem_cons hlt, List.drop_eq_nil_of_le (show m.length ≤ k by omega)]; rfl)
        clear hr hx hrow hrow'
        go_wp2
        go_ret; exact ⟨ret_int (by rw [HE.out, HS.out]), rfl⟩
    · have hkl : l.drop k = [] := List.drop_eq_nil_of_le (by omega)
      by_cases hlm : l.length < m.length
      · have HS := Lib.hid (show cmpL (l.drop k) (m.drop k) = -1 by rw [hkl, List.drop_eq_getElem_cons (show k < m.length by omega)]; rfl)
        clear hkl
        go_wp2
        go_ret; exact ⟨ret_int (by rw [HE.out, HS.out]), rfl⟩
      · have HS := Lib.hid (show cmpL (l.drop k) (m.drop k) = 0 by rw [hkl, List.drop_eq_nil_of_le (by omega)]; rfl)
        clear hkl
        go_wp2
        go_ret; exact ⟨ret_int (by rw [HE.out, HS.out]), rfl⟩

theorem partsOf_len (t : Str) (ht : t.length ≤ 4294967280) : (partsOf t).length ≤ 4294967281 := by
  unfold partsOf
  split
  · simp
  · have := (spl_len t.tail).1; simp at this; omega

theorem cmp_keep {w W W' : World} {a b : Value} (h : W.cell? ⟨w.heap.size, 0, none⟩ = some a ∧ W.cell? ⟨w.heap.size + 1, 0, none⟩ = some b ∧ Glob W ∧ Below w.heap.size w W ∧ w.heap.size + 2 ≤ W.heap.size) (hb : Below W.heap.size W W') :
    W'.cell? ⟨w.heap.size, 0, none⟩ = some a ∧ W'.cell? ⟨w.heap.size + 1, 0, none⟩ = some b ∧ Glob W' ∧ Below w.heap.size w W' ∧ w.heap.size + 2 ≤ W'.heap.size :=
  ⟨keepc hb h.1 (by have := h.2.2.2.2; omega), keepc hb h.2.1 (by have := h.2.2.2.2; omega), h.2.2.1.below hb, h.2.2.2.1.trans (hb.mono h.2.2.2.1.size), by have := h.2.2.2.2; have := hb.size; omega⟩

theorem cmp_start (w : World) (a b : Value) (T : TypeId) (hg : Glob ((w.alloc (.cells #[a] T)).alloc (.cells #[b] T)).drew) :
    ((w.alloc (.cells #[a] T)).alloc (.cells #[b] T)).drew.cell? ⟨w.heap.size, 0, none⟩ = some a ∧ ((w.alloc (.cells #[a] T)).alloc (.cells #[b] T)).drew.cell? ⟨w.heap.size + 1, 0, none⟩ = some b ∧ Glob ((w.alloc (.cells #[a] T)).alloc (.cells #[b] T)).drew ∧ Below w.heap.size w ((w.alloc (.cells #[a] T)).alloc (.cells #[b] T)).drew ∧ w.heap.size + 2 ≤ ((w.alloc (.cells #[a] T)).alloc (.cells #[b] T)).drew.heap.size :=
  ⟨by simp, by simp, hg, (((Below.refl w.heap.size w).alloc (Nat.le_refl _) _).alloc (by simp) _).drew, by simp⟩

set_option maxHeartbeats 1000000 in
theorem compare_any (p o : Str) (hp : p.length ≤ 4294967280) (ho : o.length ≤ 4294967280) (w : World) (hg : Glob w) :
    Calls Tryd.prog 18 #[.agg #[S p], .agg #[S o]] w fun e w' => e = .returned (.int .i64 (cmpL (partsOf p) (partsOf o))) ∧ Below w.heap.size w w' := by
  have HP := fun W => parts_any p hp W
  have HO := fun W => parts_any o ho W
  have HC := fun v u W h1 h2 => compareFunc_any (partsOf p) (partsOf o) v u W h1 h2 (partsOf_len p hp) (partsOf_len o ho)
  have hB0 : Below w.heap.size w ((w.alloc (.cells #[S p] 25)).alloc (.cells #[S o] 25)).drew := (((Below.refl w.heap.size w).alloc (Nat.le_refl _) _).alloc (by simp) _).drew
  have hG0 := hg.below hB0
  have hS0 := cmp_start w (S p) (S o) 25 hG0
  clear hg
  go_enter Tryd.func18, Tryd.ntmps18
  go_wp2_with fail
  go_region_held3 (fun W : World => W.cell? ⟨w.heap.size, 0, none⟩ = some (S p) ∧ W.cell? ⟨w.heap.size + 1, 0, none⟩ = some (S o) ∧ Glob W ∧ Below w.heap.size w W ∧ w.heap.size + 2 ≤ W.heap.size)
    (first | assumption | exact hS0)
    (first
      | (go_at_call 14; with_reducible refine (HP _ hG0).mono ?_; rintro e w1 ⟨v1, rfl, hv1, hb1⟩; have hS1 := cmp_keep hS0 hb1; have hV1 := hv1 [] (by simp); clear hv1)
      | (go_at_call 14; with_reducible refine (HO _ hS1.2.2.1).mono ?_; rintro e w2 ⟨v2, rfl, hv2, hb2⟩; have hS2 := cmp_keep hS1 hb2; have hV2 := hv2 [] (by simp); clear hv2; have hV1' := hV1.adv (Adv.of_below hb2); clear hV1)
      | (go_at_call 27; with_reducible refine (HC _ _ _ hV1' hV2).mono ?_; rintro e w3 ⟨rfl, rfl⟩))
  go_wp2
  go_ret
  exact ⟨rfl, hS2.2.2.2.1⟩

def parseOk (s : Str) : Bool := match s with | [] => false | c :: r => c == 47 && (r.isEmpty || madeB (spl r))
def parseText (s : Str) : Str := if s.tail = [] then [] else flat (spl s.tail)

theorem PathErr.alloc {w w' : World} {o : Obj} {t : Str} {ok : Bool} {e : Ending} (h : PathErr (w.alloc o) t ok e w') : PathErr w t ok e w' := by
  unfold PathErr at *
  split
  · rename_i hk; rw [if_pos hk] at h; exact ⟨h.1, below_res1 h.2⟩
  · rename_i hk; rw [if_neg hk] at h
    obtain ⟨b, h1, h2, h3, h4⟩ := h
    exact ⟨b, by simp at h1; omega, h2, h3, below_res1 h4⟩

set_option maxHeartbeats 1000000 in
theorem parse_any (s : Str) (hs : s.length ≤ 4294967280) (w : World) (hg : Glob w) :
    Calls Tryd.prog 9 #[S s] w (PathErr w (parseText s) (parseOk s)) := by
  have HG := Lib.hid (hg.below ((Below.refl w.heap.size w).alloc (Nat.le_refl _) (.cells #[.string ⟨#[]⟩] 25)))
  have hC := fun W => Tryd.strings_CutPrefix ⟨s.toArray⟩ ⟨#[47]⟩ W
  by_cases h0 : s = [47]
  · subst h0
    have hN := Lib.hid (show parseOk [47] = true from rfl)
    have hT := Lib.hid (show parseText [47] = [] from rfl)
    clear hC hg
    go_enter Tryd.func9, Tryd.ntmps9
    go_wp2
    exact bodyPost_ret (v := .tuple #[.agg #[S []], .nilIface]) (by simp [results, Tryd.results9, go_sem]) rfl
      (by unfold PathErr; rw [if_pos hN.out, hT.out]; exact ⟨rfl, (Below.refl _ _).alloc (Nat.le_refl _) _⟩)
  · have h0' : (s == [47]) = false := by simpa using h0
    by_cases hp : Go.Lib.hasPrefix s [47] = true
    · obtain ⟨r, rfl⟩ : ∃ r, s = 47 :: r := by
        cases s with
        | nil => simp [Go.Lib.hasPrefix] at hp
        | cons c r => simp [Go.Lib.hasPrefix, List.isPrefixOf] at hp; exact ⟨r, by rw [← hp]⟩
      have hr : r ≠ [] := by rintro rfl; exact h0 rfl
      have hre : r.isEmpty = false := by simpa using hr
      have hN := Lib.hid (show parseOk (47 :: r) = madeB (spl r) by simp [parseOk, hre])
      have hT := Lib.hid (show parseText (47 :: r) = flat (spl r) by simp [parseText, hr])
      have hC' : ∀ W, Calls Tryd.prog 23 #[S (47 :: r), .string ⟨#[47]⟩] W fun e w' => e = .returned (.tuple #[S r, .bool true]) ∧ w' = W := fun W => by
        refine (hC W).mono ?_; rintro e w' ⟨rfl, rfl⟩; exact ⟨by rw [show Go.Lib.trimPrefix ({ data := List.toArray (47 :: r) } : ByteArray).data.toList ({ data := #[47] } : ByteArray).data.toList = r by simp [Go.Lib.trimPrefix, Go.Lib.hasPrefix]]; rfl, rfl⟩
      have hlr : r.length ≤ 4294967280 := by simp at hs; omega
      have HS := split_any r hlr _ HG.out
      have HL := spl_len r
      have hG2 : Glob (((w.alloc (.cells #[.string ⟨#[]⟩] 25))).alloc (.cells ((spl r).map S).toArray 9)) := HG.out.below ((Below.refl _ _).alloc (Nat.le_refl _) _)
      have HM := made_any (spl r) (.slice (some ⟨w.heap.size + 1, 0, none⟩) (spl r).length (spl r).length) [] _ hG2 (sl_of_alloc (w := w.alloc _) (by simp) (by simp) (fun x hx => by have := HL.2 x hx; omega) (by have := HL.1; omega) _)
      have HH := Lib.hid HG
      clear hC hg hp h0 hr hre hlr HL hG2 HG
      cases hmb : madeB (spl r) with
      | true =>
        rw [hmb] at HM hN
        have HM' := Lib.hid (show Calls Tryd.prog 6 #[.slice (some ⟨w.heap.size + 1, 0, none⟩) (spl r).length (spl r).length] _ (fun e w' => _ ∧ _) from HM)
        clear HM hmb
        go_enter Tryd.func9, Tryd.ntmps9
        go_wp2_with (first
          | (go_at_call 23; refine (hC' _).mono ?_; rintro e w' ⟨rfl, rfl⟩)
          | (go_at_call 24; refine HS.mono ?_; rintro e w' ⟨rfl, rfl⟩)
          | (go_at_call 6; refine HM'.out.mono ?_; rintro e w' ⟨rfl, hbel⟩; have hc1 := keepc hbel (b := w.heap.size) (o := 0) (v := .string ⟨#[]⟩) (by simp) (by simp <;> omega); have hf1 := frz hbel (b := w.heap.size) (o := 0) (by simp) (by simp <;> omega)))
        refine bodyPost_ret (v := .tuple #[.agg #[S (flat (spl r))], .nilIface]) (by simp [results, Tryd.results9, go_sem, hc1]) rfl
          (by unfold PathErr; rw [if_pos hN.out, hT.out]; exact ⟨rfl, ((((Below.refl _ _).alloc (Nat.le_refl _) _).alloc (by simp) _).trans (hbel.mono (by simp; omega))).setCell (Nat.le_refl _) _⟩)
      | false =>
        rw [hmb] at HM hN
        have HM' := Lib.hid (show Calls Tryd.prog 6 #[.slice (some ⟨w.heap.size + 1, 0, none⟩) (spl r).length (spl r).length] _ (fun e w' => ∃ b, _ ∧ _) from HM)
        clear HM hmb
        go_enter Tryd.func9, Tryd.ntmps9
        go_wp2_with (first
          | (go_at_call 23; refine (hC' _).mono ?_; rintro e w' ⟨rfl, rfl⟩)
          | (go_at_call 24; refine HS.mono ?_; rintro e w' ⟨rfl, rfl⟩)
          | (go_at_call 6; refine HM'.out.mono ?_; rintro e w' ⟨b', hb', rfl, hf, hbel⟩; have hc1 := keepc hbel (b := w.heap.size) (o := 0) (v := .string ⟨#[]⟩) (by simp) (by simp <;> omega); have hf1 := frz hbel (b := w.heap.size) (o := 0) (by simp) (by simp <;> omega)))
        refine bodyPost_ret (v := .tuple #[.agg #[S []], .iface 46 (.pointer (some ⟨b', 0, none⟩))]) (by simp [results, Tryd.results9, go_sem, hc1]) rfl
          (by unfold PathErr; rw [if_neg (by simp [hN.out])]; exact ⟨b', by simp at hb'; omega, rfl, hf.setCell (by simp at hb'; show w.heap.size < b'; omega) _, ((((Below.refl _ _).alloc (Nat.le_refl _) _).alloc (by simp) _).trans (hbel.mono (by simp; omega))).setCell (Nat.le_refl _) _⟩)
    · have hp' : Go.Lib.hasPrefix s [47] = false := by simpa using hp
      have hN := Lib.hid (show parseOk s = false by
        cases s with
        | nil => rfl
        | cons c r => simp [Go.Lib.hasPrefix, List.isPrefixOf] at hp; simp [parseOk, Ne.symm hp])
      have hC' : ∀ W, Calls Tryd.prog 23 #[S s, .string ⟨#[47]⟩] W fun e w' => e = .returned (.tuple #[S s, .bool false]) ∧ w' = W := fun W => by
        refine (hC W).mono ?_; rintro e w' ⟨rfl, rfl⟩; exact ⟨by rw [show Go.Lib.trimPrefix ({ data := List.toArray s } : ByteArray).data.toList ({ data := #[47] } : ByteArray).data.toList = s by simp [Go.Lib.trimPrefix, hp'], show Go.Lib.hasPrefix ({ data := List.toArray s } : ByteArray).data.toList ({ data := #[47] } : ByteArray).data.toList = false from hp'], rfl⟩
      clear hC hg hp h0
      go_enter Tryd.func9, Tryd.ntmps9
      go_wp2_with (first
        | (go_at_call 23; refine (hC' _).mono ?_; rintro e w' ⟨rfl, rfl⟩)
        | (go_at_call 19; refine (wrong_any _ HG.out).mono ?_; rintro e w' ⟨b', hb', rfl, hf, hbel⟩; obtain ⟨hc1, hf1⟩ := res1 hbel))
      exact bodyPost_ret (v := .tuple #[.agg #[S []], .iface 46 (.pointer (some ⟨b', 0, none⟩))]) (by simp [results, Tryd.results9, go_sem, hc1]) rfl
        (by unfold PathErr; rw [if_neg (by simp [hN.out])]; exact ⟨b', by simp at hb'; omega, rfl, hf.setCell (by simp at hb'; show w.heap.size < b'; omega) _, (below_res1 hbel).setCell (Nat.le_refl _) _⟩)
end Go.Proofs.YtikebdpaaamghaaDoor
