/- The contracts of package fault's New, Of, Wrap and Code: an error that is a *Fault with a code. -/
import Derived.Test.YtikebdpaaamghaaDoorFault
namespace Go.Proofs.YtikebdpaaamghaaDoor
open Go.RowKit

/-- The variable errors.errorType, and that a number lies in bytealg.MaxLen. -/
def Glob (w : World) : Prop :=
  w.cell? ⟨0, 0, none⟩ = some (.iface 76 (.agg #[.pointer (some ⟨4, 27, none⟩)])) ∧ ∃ m : Int, w.cell? ⟨1, 0, none⟩ = some (.int .i64 m)

theorem Glob.below {w w' : World} (h : Glob w) (hb : Below w.heap.size w w') : Glob w' :=
  ⟨(hb.cell (p := ⟨0, 0, none⟩) (lt_of_cell h.1)).trans h.1, let ⟨m, hm⟩ := h.2; ⟨m, (hb.cell (p := ⟨1, 0, none⟩) (lt_of_cell hm)).trans hm⟩⟩

/-- A *Fault with code c lies in block b. -/
def FaultC (w : World) (b : Nat) (c : Int) : Prop :=
  ∃ wh ca : Value, w.cell? ⟨b, 0, none⟩ = some (.int .i64 c) ∧ w.cell? ⟨b, 1, none⟩ = some wh ∧ w.cell? ⟨b, 2, none⟩ = some ca
theorem FaultC.mk (w : World) (c : Int) (wh ca : Value) (t : TypeId) : FaultC (w.alloc (.cells #[.int .i64 c, wh, ca] t)) w.heap.size c :=
  ⟨wh, ca, by simp, by simp, by simp⟩
theorem FaultC.lt {w : World} {b : Nat} {c : Int} (h : FaultC w b c) : b < w.heap.size := let ⟨_, _, h0, _⟩ := h; lt_of_cell h0
theorem FaultC.adv {w w' : World} {M M' : List Nat} {b : Nat} {c : Int} (h : FaultC w b c) (hb : b ∉ M) (g : Adv M w M' w') : FaultC w' b c :=
  let ⟨wh, ca, h0, h1, h2⟩ := h; ⟨wh, ca, g.cell hb h0, g.cell hb h1, g.cell hb h2⟩
theorem FaultC.below {w w' : World} {b : Nat} {c : Int} (h : FaultC w b c) (hb : Below w.heap.size w w') : FaultC w' b c :=
  h.adv (M := []) (M' := []) (by simp) (Adv.of_below hb)
theorem FaultC.setCell {w : World} {b : Nat} {c : Int} (h : FaultC w b c) {p : Addr} (hp : p.block < b) (v : Value) : FaultC (w.setCell p v) b c :=
  let ⟨wh, ca, h0, h1, h2⟩ := h
  have hk : ∀ o, (w.setCell p v).cell? ⟨b, o, none⟩ = w.cell? ⟨b, o, none⟩ := fun o => World.cell?_of_block (Below.heap_setCell w p v b (by omega))
  ⟨wh, ca, (hk 0).trans h0, (hk 1).trans h1, (hk 2).trans h2⟩
/-- An error: a *Fault with code c, outside M. -/
def FaultAt (w : World) (M : List Nat) (v : Value) (c : Int) : Prop :=
  ∃ b : Nat, v = .iface 46 (.pointer (some ⟨b, 0, none⟩)) ∧ b ∉ M ∧ FaultC w b c
theorem FaultAt.adv {w w' : World} {M M' : List Nat} {v : Value} {c : Int} (h : FaultAt w M v c) (g : Adv M w M' w') : FaultAt w' M' v c :=
  let ⟨b, hv, hb, hc⟩ := h; ⟨b, hv, g.fresh hb hc.lt, hc.adv hb g⟩

/-- fault.New of a code that isn't OK. -/
theorem new_any (c : Int) (s : ByteArray) (w : World) (h : (c == 0) = false) :
    Calls Tryd.prog 44 #[.int .i64 c, .string s] w fun e w' => e = .returned (.iface 46 (.pointer (some ⟨w.heap.size, 0, none⟩))) ∧ w' = w.alloc (.cells #[.int .i64 c, .string s, .nilIface] 50) := by
  go_enter Tryd.func44, Tryd.ntmps44
  go_wp2
  go_ret
  exact ⟨rfl, rfl⟩

theorem of_any (c : Int) (w : World) (h : (c == 0) = false) :
    Calls Tryd.prog 30 #[.int .i64 c] w fun e w' => e = .returned (.iface 46 (.pointer (some ⟨w.heap.size, 0, none⟩))) ∧ w' = w.alloc (.cells #[.int .i64 c, .string ⟨#[]⟩, .nilIface] 50) := by
  go_enter Tryd.func30, Tryd.ntmps30
  go_wp2_with (go_at_call 44; refine (new_any _ _ _ h).mono ?_; rintro e w' ⟨rfl, rfl⟩)
  go_ret
  exact ⟨rfl, rfl⟩

theorem code_nil (w : World) :
    Calls Tryd.prog 8 #[.nilIface] w fun e w' => e = .returned (.int .i64 0) ∧ w = w' := by
  go_enter Tryd.func8, Tryd.ntmps8
  go_wp2
  go_ret
  exact ⟨rfl, rfl⟩

theorem as_hit' {B : Nat} (e t : Addr) (old : Value) (w : World) (hB : B ≤ t.block) (hBw : B ≤ w.heap.size) (hg : w.cell? ⟨0, 0, none⟩ = some (.iface 76 (.agg #[.pointer (some ⟨4, 27, none⟩)]))) (ht0 : w.cell? t = some old) (hf0 : w.frozen? t = false) (hs : t.spot = none) :
    Calls Tryd.prog 22 #[.iface 46 (.pointer (some e)), .iface 48 (.pointer (some t))] w fun ev w' => ev = .returned (.bool true) ∧ Below B w w' ∧ w'.cell? t = some (.pointer (some e)) := by
  refine (as_hit e t old w hg ht0 hf0).mono ?_
  rintro ev w' ⟨rfl, rfl⟩
  obtain ⟨tb, to, ts⟩ := t
  obtain rfl : ts = none := hs
  have htl := lt_of_cell ht0
  refine ⟨rfl, ?_, ?_⟩
  · exact (((((Below.refl _ _).alloc hBw _).alloc (by simp; omega) _).alloc (by simp; omega) _).alloc (by simp; omega) _).setCell hB _
  · have hk := keepc_alloc (.cells #[.pointer (some e)] 46) (keepc_alloc (.cells #[.pointer (some ⟨4, 48, none⟩), .pointer (some ⟨w.heap.size, 0, none⟩), .int .u64 150] 62) (keepc_alloc (.cells #[.pointer (some ⟨4, 48, none⟩), .pointer (some ⟨w.heap.size, 0, none⟩), .int .u64 150] 62) (keepc_alloc (.cells #[.pointer (some ⟨tb, to, none⟩)] 48) ht0)))
    exact World.cell?_setCell_same _ _ _ hk

set_option maxHeartbeats 1000000 in
theorem code_at (b : Nat) (c : Int) (w : World) (hg : Glob w) (h : FaultC w b c) :
    Calls Tryd.prog 8 #[.iface 46 (.pointer (some ⟨b, 0, none⟩))] w fun e w' => e = .returned (.int .i64 c) ∧ Below w.heap.size w w' := by
  obtain ⟨wh, ca, h0, _, _⟩ := h
  have hlt := lt_of_cell h0
  have hgA := keepc_alloc (.cells #[.pointer none] 46) hg.1
  have hA := keepc_alloc (.cells #[.pointer none] 46) h0
  clear hg h0
  go_enter Tryd.func8, Tryd.ntmps8
  go_wp2_with (go_at_call 22; refine (as_hit' (B := w.heap.size) ⟨b, 0, none⟩ ⟨w.heap.size, 0, none⟩ (.pointer none) _ (Nat.le_refl _) (by simp) hgA (by simp) (by simp) rfl).mono ?_; rintro e w' ⟨rfl, hb, ht⟩; have h0' := keepc hb hA hlt)
  go_ret
  exact ⟨rfl, ((Below.refl _ _).alloc (Nat.le_refl _) _).trans (by assumption)⟩

/-- fault.Wrap of a *Fault. -/
theorem wrap_at (b : Nat) (c : Int) (s : ByteArray) (w : World) (hg : Glob w) (h : FaultC w b c) :
    Calls Tryd.prog 29 #[.iface 46 (.pointer (some ⟨b, 0, none⟩)), .string s] w fun e w' =>
      ∃ W, Below w.heap.size w W ∧ e = .returned (.iface 46 (.pointer (some ⟨W.heap.size, 0, none⟩))) ∧ w' = W.alloc (.cells #[.int .i64 c, .string s, .iface 46 (.pointer (some ⟨b, 0, none⟩))] 50) := by
  have H := Lib.hid (code_at b c w hg h)
  clear hg h
  go_enter Tryd.func29, Tryd.ntmps29
  go_wp2_with (go_at_call 8; refine H.out.mono ?_; rintro e w' ⟨rfl, hb⟩)
  go_ret
  exact ⟨_, by assumption, rfl, rfl⟩
end Go.Proofs.YtikebdpaaamghaaDoor
