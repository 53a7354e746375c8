/- Plain words for contracts: how Go data lie in memory outside a list M of blocks that may be written, and what a step of the world keeps. -/
import Derived.Test.YtikebdpaaamghaaDoorProg
import Derived.WalkKit
import Derived.Below
import Derived.Deep.QuietTactic
import Derived.BigQuiet
import Derived.IntWalk
import Derived.Lib.Hide
namespace Go.Proofs.YtikebdpaaamghaaDoor
open Go.RowKit

abbrev Str := List UInt8
abbrev S (l : Str) : Value := .string ⟨l.toArray⟩

theorem sapp (a b : Str) : ((⟨a.toArray⟩ : ByteArray) ++ ⟨b.toArray⟩) = ⟨(a ++ b).toArray⟩ := by
  apply ByteArray.ext; simp
theorem sextract (a : Str) (i j : Nat) : (⟨a.toArray⟩ : ByteArray).extract i j = ⟨((a.take j).drop i).toArray⟩ := by
  apply ByteArray.ext; simp [ByteArray.data_extract, List.extract_toArray, List.drop_take]
theorem sextract0 (a : Str) (j : Nat) : (⟨a.toArray⟩ : ByteArray).extract 0 j = ⟨(a.take j).toArray⟩ := by
  rw [sextract]; rfl
theorem ret_int {k : IntKind} {a b : Int} (h : a = b) : Ending.returned (.int k a) = .returned (.int k b) := by rw [h]
theorem ret_bool {a b : Bool} (h : a = b) : Ending.returned (.bool a) = .returned (.bool b) := by rw [h]
theorem S_congr {a b : Str} (h : a = b) : S a = S b := by rw [h]

/-- Blocks outside M are unturned; what is new to M' is new to the world. -/
structure Adv (M : List Nat) (w : World) (M' : List Nat) (w' : World) : Prop where
  size : w.heap.size ≤ w'.heap.size
  block : ∀ k, k < w.heap.size → k ∉ M → w'.heap[k]? = w.heap[k]?
  sub : ∀ k, k ∈ M' → k ∈ M ∨ w.heap.size ≤ k

theorem Adv.refl (M : List Nat) (w : World) : Adv M w M w := ⟨Nat.le_refl _, fun _ _ _ => rfl, fun _ h => .inl h⟩
theorem Adv.trans {M M' M'' : List Nat} {w w' w'' : World} (h : Adv M w M' w') (g : Adv M' w' M'' w'') : Adv M w M'' w'' :=
  ⟨Nat.le_trans h.size g.size,
   fun k hk hn => (g.block k (Nat.lt_of_lt_of_le hk h.size) (fun hm => (h.sub k hm).elim hn (fun hl => by omega))).trans (h.block k hk hn),
   fun k hk => (g.sub k hk).elim (fun hm => h.sub k hm) (fun hl => .inr (Nat.le_trans h.size hl))⟩
theorem Adv.of_below {M : List Nat} {w w' : World} (h : Below w.heap.size w w') : Adv M w M w' :=
  ⟨h.size, fun k hk _ => h.block k hk, fun _ h => .inl h⟩

theorem Adv.cell {M M' : List Nat} {w w' : World} (h : Adv M w M' w') {b o : Nat} {v : Value} (hb : b ∉ M) (hc : w.cell? ⟨b, o, none⟩ = some v) : w'.cell? ⟨b, o, none⟩ = some v := by
  have hlt : b < w.heap.size := by
    rcases Nat.lt_or_ge b w.heap.size with h | h
    · exact h
    · simp [World.cell?, Array.getElem?_eq_none h] at hc
  rw [← hc]; exact World.cell?_of_block (w := w) (h.block b hlt hb)

theorem Adv.fresh {M M' : List Nat} {w w' : World} (h : Adv M w M' w') {b : Nat} (hb : b ∉ M) (hlt : b < w.heap.size) : b ∉ M' :=
  fun hm => (h.sub b hm).elim hb (fun hl => by omega)

theorem lt_of_cell {w : World} {b o : Nat} {v : Value} (hc : w.cell? ⟨b, o, none⟩ = some v) : b < w.heap.size := by
  rcases Nat.lt_or_ge b w.heap.size with h | h
  · exact h
  · simp [World.cell?, Array.getElem?_eq_none h] at hc

theorem keepc {B : Nat} {w w' : World} (hb : Below B w w') {b o : Nat} {v : Value} (h : w.cell? ⟨b, o, none⟩ = some v) (hlt : b < B) : w'.cell? ⟨b, o, none⟩ = some v :=
  (hb.cell (p := ⟨b, o, none⟩) hlt).trans h
theorem keepc_alloc {w : World} {b o : Nat} {v : Value} (x : Obj) (h : w.cell? ⟨b, o, none⟩ = some v) : (w.alloc x).cell? ⟨b, o, none⟩ = some v := by
  rw [World.cell?_alloc_lt _ _ ⟨b, o, none⟩ (lt_of_cell h)]; exact h

theorem frz {B : Nat} {w w' : World} (hb : Below B w w') {b o : Nat} (h : w.frozen? ⟨b, o, none⟩ = false) (hlt : b < B) : w'.frozen? ⟨b, o, none⟩ = false :=
  (hb.frozen (p := ⟨b, o, none⟩) hlt).trans h

/-- Steps of a world that keep all that was there when the call began. -/
theorem bt {w w1 w2 : World} (h : Below w.heap.size w w1) (h' : Below w1.heap.size w1 w2) : Below w.heap.size w w2 := h.trans (h'.mono h.size)
theorem ba {w w1 : World} (h : Below w.heap.size w w1) (o : Obj) : Below w.heap.size w (w1.alloc o) := h.alloc h.size o
theorem b0 (w : World) : Below w.heap.size w w := Below.refl _ _
theorem keepb {w w' : World} (hb : Below w.heap.size w w') {b o : Nat} {v : Value} (h : w.cell? ⟨b, o, none⟩ = some v) : w'.cell? ⟨b, o, none⟩ = some v :=
  keepc hb h (lt_of_cell h)
theorem cell_new (w : World) (v : Value) (t : TypeId) : (w.alloc (.cells #[v] t)).cell? ⟨w.heap.size, 0, none⟩ = some v := by simp

/-- A one-cell variable of the call's own, behind a call that keeps what was there. -/
theorem res1 {w w' : World} {v : Value} {t : TypeId} (h : Below (w.alloc (.cells #[v] t)).heap.size (w.alloc (.cells #[v] t)) w') :
    w'.cell? ⟨w.heap.size, 0, none⟩ = some v ∧ w'.frozen? ⟨w.heap.size, 0, none⟩ = false :=
  ⟨(h.cell (p := ⟨w.heap.size, 0, none⟩) (by simp)).trans (by simp), (h.frozen (p := ⟨w.heap.size, 0, none⟩) (by simp)).trans (by simp)⟩
theorem below_res1 {w w' : World} {o : Obj} (h : Below (w.alloc o).heap.size (w.alloc o) w') : Below w.heap.size w w' :=
  ((Below.refl _ _).alloc (Nat.le_refl _) _).trans (h.mono (by simp))

/-- How an element lies in cells. -/
class Rep (α : Type) where
  sz : Nat
  rep : World → List Nat → α → List Value → Prop
  len : ∀ {w M x cs}, rep w M x cs → cs.length = sz
  adv : ∀ {w M M' w' x cs}, rep w M x cs → Adv M w M' w' → rep w' M' x cs

instance : Rep Str where
  sz := 1
  rep := fun _ _ x cs => cs = [S x] ∧ x.length ≤ 9223372036854775807
  len := fun h => by rw [h.1]; rfl
  adv := fun h _ => h

/-- The cells of a row of elements. -/
def RowAt {α : Type} [Rep α] (w : World) (M : List Nat) (b off : Nat) (xs : List α) : Prop :=
  b ∉ M ∧ b < w.heap.size ∧ ∀ i x, xs[i]? = some x → ∃ cs, Rep.rep w M x cs ∧ ∀ j v, cs[j]? = some v → w.cell? ⟨b, off + i * Rep.sz α + j, none⟩ = some v

theorem RowAt.adv {α : Type} [Rep α] {w w' : World} {M M' : List Nat} {b off : Nat} {xs : List α} (h : RowAt w M b off xs) (g : Adv M w M' w') : RowAt w' M' b off xs :=
  ⟨g.fresh h.1 h.2.1, Nat.lt_of_lt_of_le h.2.1 g.size, fun i x hx => let ⟨cs, hr, hc⟩ := h.2.2 i x hx; ⟨cs, Rep.adv hr g, fun j v hj => g.cell h.1 (hc j v hj)⟩⟩

/-- A slice that reads as a list. -/
def SlOf {α : Type} [Rep α] (w : World) (M : List Nat) (v : Value) (xs : List α) : Prop :=
  ∃ (a : Option Addr) (c : Nat), v = .slice a xs.length c ∧ xs.length ≤ c ∧ c ≤ 9223372036854775807 ∧ (a = none → c = 0) ∧ (xs = [] ∨ ∃ b off, a = some ⟨b, off, none⟩ ∧ RowAt w M b off xs)

theorem SlOf.adv {α : Type} [Rep α] {w w' : World} {M M' : List Nat} {v : Value} {xs : List α} (h : SlOf w M v xs) (g : Adv M w M' w') : SlOf w' M' v xs := by
  obtain ⟨a, c, hv, h1, h2, hn, h3⟩ := h
  exact ⟨a, c, hv, h1, h2, hn, h3.imp id (fun ⟨b, off, ha, hr⟩ => ⟨b, off, ha, hr.adv g⟩)⟩

instance {α : Type} [Rep α] : Rep (List α) where
  sz := 1
  rep := fun w M x cs => ∃ v, cs = [v] ∧ SlOf w M v x
  len := fun ⟨_, h, _⟩ => by rw [h]; rfl
  adv := fun ⟨v, h, hs⟩ g => ⟨v, h, hs.adv g⟩

theorem RowAt.str {w : World} {M : List Nat} {b off : Nat} {xs : List Str} (h : RowAt w M b off xs) {k : Nat} {x : Str} (hx : xs[k]? = some x) :
    w.cell? ⟨b, off + k, none⟩ = some (S x) ∧ x.length ≤ 9223372036854775807 := by
  obtain ⟨cs, ⟨rfl, hl⟩, hc⟩ := h.2.2 k x hx
  refine ⟨?_, hl⟩
  have := hc 0 (S x) rfl
  simpa [Rep.sz] using this

end Go.Proofs.YtikebdpaaamghaaDoor
