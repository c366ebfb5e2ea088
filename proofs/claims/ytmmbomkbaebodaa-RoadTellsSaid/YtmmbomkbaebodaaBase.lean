/-
  Base: readings of slices in a world, and small helpers. Nothing of the program is named here.
-/
import Derived.WalkKit
import Derived.LoopTactic
import Derived.Below
import Derived.Lib.Hide
import Derived.Deep.QuietTactic
import Derived.BigQuiet
namespace Go.Proofs.Ytmmbomkbaebodaa
set_option linter.unusedVariables false
set_option linter.unusedSimpArgs false
open Go.RowKit

abbrev I (n : Int) : Value := .int .i64 n
abbrev B (b : Bool) : Value := .bool b

theorem retB {a b : Bool} (h : a = b) : Ending.returned (.bool a) = .returned (.bool b) := by rw [h]
theorem retI {a b : Int} (h : a = b) : Ending.returned (.int .i64 a) = .returned (.int .i64 b) := by rw [h]

theorem bcell {W w1 : World} (hb : Below W.heap.size W w1) : W.heap.size ≤ w1.heap.size ∧ (∀ b o, b < W.heap.size → w1.cell? ⟨b, o, none⟩ = W.cell? ⟨b, o, none⟩) ∧ (∀ b o, b < W.heap.size → w1.frozen? ⟨b, o, none⟩ = W.frozen? ⟨b, o, none⟩) :=
  ⟨hb.size, fun b o h => hb.cell (p := ⟨b, o, none⟩) h, fun b o h => hb.frozen (p := ⟨b, o, none⟩) h⟩

theorem belowA {B : Nat} {a w : World} {o : Obj} (h : Below B a w) (hB : B ≤ a.heap.size) : Below B a (w.alloc o) := h.alloc (Nat.le_trans hB h.size) o
theorem drewN_below {B : Nat} {a w : World} (h : Below B a w) : ∀ n, Below B a (w.drewN n)
  | 0 => h
  | n + 1 => (drewN_below h n).drew

/-- The slice value v reads in w as the list l: each element takes `size` cells, that read by R. -/
def SliceR {α : Type} (R : World → List Value → α → Prop) (size : Nat) (w : World) (v : Value) (l : List α) : Prop :=
  ∃ a cap, v = .slice a l.length cap ∧ l.length ≤ cap ∧ cap ≤ maxLen ∧ (l.length = 0 ∨ ∃ b off, a = some ⟨b, off, none⟩ ∧ b < w.heap.size ∧
    ∀ (i : Nat) (x : α), l[i]? = some x → ∃ cs, R w cs x ∧ cs.length = size ∧ ∀ (j : Nat) (u : Value), cs[j]? = some u → w.cell? ⟨b, off + i * size + j, none⟩ = some u)

def MonoR {α : Type} (R : World → List Value → α → Prop) : Prop := ∀ w w' cs x, Below w.heap.size w w' → R w cs x → R w' cs x

theorem SliceR.below {α : Type} {R : World → List Value → α → Prop} (hm : MonoR R) {size : Nat} {w w' : World} {v : Value} {l : List α} (hb : Below w.heap.size w w') (h : SliceR R size w v l) : SliceR R size w' v l := by
  obtain ⟨a, cap, hv, hl, hc, h⟩ := h
  refine ⟨a, cap, hv, hl, hc, ?_⟩
  rcases h with h | ⟨b, off, ha, hlt, hx⟩
  · exact .inl h
  · refine .inr ⟨b, off, ha, Nat.lt_of_lt_of_le hlt hb.size, fun i x hi => ?_⟩
    obtain ⟨cs, hr, hs, hj⟩ := hx i x hi
    exact ⟨cs, hm _ _ _ _ hb hr, hs, fun j u hu => (hb.cell (p := ⟨b, off + i * size + j, none⟩) hlt).trans (hj j u hu)⟩

/-- What the i-th element's cells hold. -/
theorem SliceR.get {α : Type} {R : World → List Value → α → Prop} {size : Nat} {w : World} {a : Option Addr} {n cap : Nat} {l : List α} (h : SliceR R size w (.slice a n cap) l) {i : Nat} (hi : i < l.length) :
    ∃ b off x cs, a = some ⟨b, off, none⟩ ∧ b < w.heap.size ∧ l[i]? = some x ∧ R w cs x ∧ cs.length = size ∧ ∀ (j : Nat) (u : Value), cs[j]? = some u → w.cell? ⟨b, off + i * size + j, none⟩ = some u := by
  obtain ⟨a', cap', hv, hl, hc, h⟩ := h
  simp only [Value.slice.injEq] at hv
  obtain ⟨rfl, rfl, rfl⟩ := hv
  rcases h with h | ⟨b, off, ha, hlt, hx⟩
  · omega
  · obtain ⟨cs, hr, hs, hj⟩ := hx i l[i] (List.getElem?_eq_getElem hi)
    exact ⟨b, off, l[i], cs, ha, hlt, List.getElem?_eq_getElem hi, hr, hs, hj⟩

theorem SliceR.shape {α : Type} {R : World → List Value → α → Prop} {size : Nat} {w : World} {v : Value} {l : List α} (h : SliceR R size w v l) : ∃ a cap, v = .slice a l.length cap ∧ l.length ≤ cap ∧ cap ≤ maxLen := by
  obtain ⟨a, cap, hv, hl, hc, h⟩ := h
  exact ⟨a, cap, hv, hl, hc⟩

/-- Behind a box of the call's own that nothing writes. -/
theorem box2 {w wr : World} {c0 c1 : Value} {T : TypeId} (h : Below (w.heap.size + 1) (w.alloc (.cells #[c0, c1] T)) wr) :
    Below w.heap.size w wr ∧ w.heap.size < wr.heap.size ∧ wr.cell? ⟨w.heap.size, 0, none⟩ = some c0 ∧ wr.cell? ⟨w.heap.size, 1, none⟩ = some c1 := by
  refine ⟨((Below.refl _ _).alloc (Nat.le_refl _) _).trans (h.mono (by omega)), ?_, ?_, ?_⟩
  · have := h.size; simp at this; omega
  · rw [h.cell (p := ⟨w.heap.size, 0, none⟩) (by simp)]; simp
  · rw [h.cell (p := ⟨w.heap.size, 1, none⟩) (by simp)]; simp

/-! Worlds that extend a world: the class of worlds for a drawn region whose calls make memory. -/
structure Ext (w : World) where
  world : World
  below : Below w.heap.size w world
def extW (w : World) (e : Ext w) : World := e.world

theorem ext_cell (w : World) : ∀ (e : Ext w) b o, b < w.heap.size → (extW w e).cell? ⟨b, o, none⟩ = w.cell? ⟨b, o, none⟩ := fun e b o h => e.below.cell (p := ⟨b, o, none⟩) h

theorem wp_region_ext_lit {P : Program} {id : Nat} {Q : Exit → Act → World → Prop} {a : Act} {w : World} {l : List Oper} (hm : P.follows .mixedOrders = true) (hB : Region.lexB .any l.toArray = true)
    (h : wpQuiet P l.toArray (fun w' => ∃ e, w' = extW w e) (fun a' => ∀ w', Below w.heap.size w w' → Q .normal a' w') l a) : (Code.region id l.toArray true).wp P Q a w := by
  have h' : wpQuiet P l.toArray (fun w' => ∃ e, w' = extW w e) (fun a' => ∀ w', (∃ e, w' = extW w e) → Q .normal a' w') l a := by
    have e : (fun a' => ∀ w', Below w.heap.size w w' → Q .normal a' w') = (fun a' => ∀ w', (∃ e, w' = extW w e) → Q .normal a' w') := by
      funext a'
      apply propext
      constructor
      · rintro h w' ⟨e, rfl⟩; exact h _ e.below
      · intro h w' hb; exact h w' ⟨⟨w', hb⟩, rfl⟩
    rw [← e]; exact h
  exact wp_region_quiet (C := fun w' => ∃ e, w' = extW w e) hm hB ⟨⟨_, (Below.refl _ _).drew⟩, rfl⟩ (by simpa using h')

/-- A contract of a callee that makes memory, met in a drawn region. -/
theorem ext_call {P : Program} {f : FuncId} {args : Array Value} {w : World} {e : Ext w} {v : Value}
    (h : Calls P f args (extW w e) fun x w' => x = .returned v ∧ Below (extW w e).heap.size (extW w e) w') : Calls P f args (extW w e) fun x w'' => x = .returned v ∧ ∃ e', w'' = extW w e' :=
  h.mono fun _ _ ⟨he, hm⟩ => ⟨he, ⟨_, e.below.trans (hm.mono e.below.size)⟩, rfl⟩

/-- A slice of ints. -/
def RInt (_ : World) (cs : List Value) (n : Int) : Prop := cs = [I n]
theorem RInt.mono : MonoR RInt := fun _ _ _ _ _ h => h
abbrev IntsAt (w : World) (v : Value) (l : List Int) : Prop := SliceR RInt 1 w v l

theorem IntsAt.get1 {w : World} {a : Option Addr} {n cap : Nat} {l : List Int} (h : IntsAt w (.slice a n cap) l) {i : Nat} (hi : i < l.length) :
    ∃ b off x, a = some ⟨b, off, none⟩ ∧ b < w.heap.size ∧ Hid (l[i]? = some x) ∧ w.cell? ⟨b, off + i, none⟩ = some (I x) := by
  obtain ⟨b, off, x, cs, ha, hb, hx, hr, hs, hj⟩ := SliceR.get h hi
  refine ⟨b, off, x, ha, hb, hx, ?_⟩
  have := hj 0 (I x) (by rw [hr]; rfl)
  simpa using this

end Go.Proofs.Ytmmbomkbaebodaa
