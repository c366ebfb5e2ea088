/-
  What an argument's reading tells: a slice of whatever elements as a list; a network.
-/
import Derived.Test.YtmmbomkbaebodaaRows
import Derived.Test.YtmmbomkbaebodaaNet
import Derived.ProofKit
import Derived.OpenShut
import Derived.ChangeOld
import Derived.Lib.SmallJoins
import Derived.Deep.Slices
namespace Go.Proofs.Ytmmbomkbaebodaa
set_option linter.unusedVariables false
set_option linter.unusedSimpArgs false
open Go.RowKit Go.ChangeShapes Go.WideShapes Go.ChangeAt

section
variable {H : Type} {enc : TypeId × Value → H} {P : Program} {w : World} {base : Nat} {spare : Nat → Bool} {held : Bool}

theorem slice_of_trod {α : Type} [Inhabited α] {R : World → List Value → α → Prop} {size : Nat} (hs : 0 < size) {t e : TypeId} (ht : P.underlying t = some (.slice e)) (hc : P.cellsOf e = size)
    (hE : ∀ (n : Nat) (cs : List Value) (y : DataW H × List MemPlace), cs.length = size → DataW.trod enc P w base spare held n e cs = some y → ∃ x : α, R w cs x)
    {fuel : Nat} {a : Option Addr} {len cap : Nat} {y : DataW H × List MemPlace} (h : DataW.trod enc P w base spare held fuel t [.slice a len cap] = some y) : ∃ l : List α, l.length = len ∧ SliceR R size w (.slice a len cap) l := by
  rcases Go.Deep.open_slice ht h with ⟨h0, _⟩ | ⟨ad, len', cap', m, n, D, Pl, h0, hb, hl, hm, hmm, _, hx⟩
  · simp only [List.cons.injEq, Value.slice.injEq, and_true] at h0
    obtain ⟨rfl, rfl, rfl⟩ := h0
    exact ⟨[], rfl, none, 0, rfl, Nat.le_refl _, Nat.zero_le _, .inl rfl⟩
  · simp only [List.cons.injEq, Value.slice.injEq, and_true] at h0
    obtain ⟨rfl, rfl, rfl⟩ := h0
    by_cases hz : len = 0
    · subst hz
      exact ⟨[], rfl, some ad, cap, rfl, hl, hm, .inl rfl⟩
    have hmle : len ≤ m := by rw [hmm]; split <;> omega
    obtain ⟨f, hf⟩ := Go.Deep.choose_lt (n := len) (p := fun i (x : α) => ∃ cs, R w cs x ∧ cs.length = size ∧ ∀ j, j < size → w.cell? ((ad.add (i * size)).add j) = cs[j]?) (fun i hi => by
      obtain ⟨cs, h1, h2⟩ := hx i (by omega)
      rw [hc] at h1
      obtain ⟨_, hcl, hcell⟩ := World.cells?_some h1
      obtain ⟨x, hR⟩ := hE n cs _ hcl h2
      exact ⟨x, cs, hR, hcl, hcell⟩)
    obtain ⟨b, off, spot⟩ := ad
    obtain ⟨cs0, _, hl0, hc0⟩ := hf 0 (by omega)
    have hc00 := hc0 0 hs
    rw [List.getElem?_eq_getElem (by omega)] at hc00
    have hsp : spot = none := by simpa [Addr.add] using World.cell?_spot hc00
    subst hsp
    have hadd : ∀ i j, ((⟨b, off, none⟩ : Addr).add i).add j = ⟨b, off + i + j, none⟩ := fun i j => by
      rw [Go.Deep.add_add]
      unfold Addr.add
      split
      · rename_i h; simp; try omega
      · simp; try omega
    refine ⟨(List.range len).map f, by simp, some ⟨b, off, none⟩, cap, by simp, by simpa using hl, hm, .inr ⟨b, off, rfl, ?_, fun i x hi => ?_⟩⟩
    · have := block_lt_of_cell hc00
      simpa [Addr.add] using this
    · obtain ⟨hil, hix⟩ := List.getElem?_eq_some_iff.1 hi
      simp only [List.length_map, List.length_range] at hil
      simp only [List.getElem_map, List.getElem_range] at hix
      subst hix
      obtain ⟨cs, hR, hcl, hcell⟩ := hf i hil
      refine ⟨cs, hR, hcl, fun j u hu => ?_⟩
      have hj := (List.getElem?_eq_some_iff.1 hu).1
      have := hcell j (by omega)
      rw [hadd] at this
      rw [this, hu]

theorem ints_of_trod {t e : TypeId} (ht : P.underlying t = some (.slice e)) (he : P.underlying e = some (.int .i64)) (hc : P.cellsOf e = 1)
    {fuel : Nat} {a : Option Addr} {len cap : Nat} {y : DataW H × List MemPlace} (h : DataW.trod enc P w base spare held fuel t [.slice a len cap] = some y) : ∃ l : List Int, l.length = len ∧ IntsAt w (.slice a len cap) l :=
  slice_of_trod (R := RInt) (by omega) ht hc (fun n cs y _ hy => by obtain ⟨k, rfl, _, _⟩ := DataW.trod_int he hy; exact ⟨k, rfl⟩) h
end

instance : Inhabited Rd := ⟨⟨0, 0, 0, 0⟩⟩

theorem road_of_trod {H : Type} {enc : TypeId × Value → H} {w : World} {base : Nat} {spare : Nat → Bool} {held : Bool} {n : Nat} {cs : List Value} {y : DataW H × List MemPlace} (hl : cs.length = 4) (h : DataW.trod enc Try.prog w base spare held n 38 cs = some y) :
    ∃ x : Rd, RRoad w cs x := by
  obtain ⟨y0, y1, y2, y3, m, _, _, h0, h1, h2, h3⟩ := Go.Joins.trod_struct4 Try.underlying38 h
  match cs, hl with
  | [c0, c1, c2, c3], _ =>
    obtain ⟨n0, e0, _, _⟩ := DataW.trod_int Try.underlying3 h0
    obtain ⟨n1, e1, _, _⟩ := DataW.trod_int Try.underlying3 h1
    obtain ⟨n2, e2, _, _⟩ := DataW.trod_int Try.underlying3 h2
    obtain ⟨n3, e3, _, _⟩ := DataW.trod_int Try.underlying3 h3
    have k1 : Try.prog.cellsOf 3 = 1 := by kernel_rfl
    simp [k1] at e0 e1 e2 e3
    exact ⟨⟨n0, n1, n2, n3⟩, by rw [RRoad, e0, e1, e2, e3]⟩

theorem roads_of_trod {H : Type} {enc : TypeId × Value → H} {w : World} {base : Nat} {spare : Nat → Bool} {held : Bool} {fuel : Nat} {a : Option Addr} {len cap : Nat} {y : DataW H × List MemPlace}
    (h : DataW.trod enc Try.prog w base spare held fuel 22 [.slice a len cap] = some y) : ∃ l : List Rd, l.length = len ∧ RoadsAt w (.slice a len cap) l :=
  slice_of_trod (R := RRoad) (by omega) Try.underlying22 (by kernel_rfl) (fun _ _ _ hl hy => road_of_trod hl hy) h

/-- A network that was handed in. -/
theorem net_of_trod {H : Type} {enc : TypeId × Value → H} {w : World} {base : Nat} {spare : Nat → Bool} {held : Bool} {r : Reach} {b0 : Nat} {v : Value} {d : DataW H} {p : List MemPlace}
    (hv : Value.okWide Try.prog w r b0 24 v) (h : DataW.Trod enc Try.prog w base spare held 24 v d p) : ∃ n u l, v = .agg #[I n, u] ∧ RoadsAt w u l := by
  obtain ⟨v0, v1, y0, y1, m, rfl, _, _, h0, h1⟩ := Go.Joins.open_agg2 Try.underlying24 (by kernel_rfl) (by kernel_rfl) hv h
  obtain ⟨n, e0, _, _⟩ := DataW.trod_int Try.underlying3 h0
  obtain ⟨a, len, cap, e1⟩ := Go.Joins.slice_form Try.underlying22 h1
  simp only [List.cons.injEq, and_true] at e0 e1
  subst e0 e1
  obtain ⟨l, _, hl⟩ := roads_of_trod h1
  exact ⟨n, _, l, rfl, hl⟩

theorem ints_of_Trod {H : Type} {enc : TypeId × Value → H} {w : World} {base : Nat} {spare : Nat → Bool} {held : Bool} {r : Reach} {b0 : Nat} {v : Value} {d : DataW H} {p : List MemPlace}
    (hv : Value.okWide Try.prog w r b0 25 v) (h : DataW.Trod enc Try.prog w base spare held 25 v d p) : ∃ l, IntsAt w v l := by
  obtain ⟨a, len, cap, rfl⟩ := okWide_slice Try.underlying25 hv
  obtain ⟨fuel, hf⟩ := h
  obtain ⟨l, _, hl⟩ := ints_of_trod Try.underlying25 Try.underlying3 (by kernel_rfl) (a := a) (len := len) (cap := cap) (by simpa [Value.cells] using hf)
  exact ⟨l, hl⟩

theorem road_of_Trod {H : Type} {enc : TypeId × Value → H} {w : World} {base : Nat} {spare : Nat → Bool} {held : Bool} {r : Reach} {b0 : Nat} {v : Value} {d : DataW H} {p : List MemPlace}
    (hv : Value.okWide Try.prog w r b0 38 v) (h : DataW.Trod enc Try.prog w base spare held 38 v d p) : ∃ x : Rd, v = .agg #[I x.fr, I x.to, I x.mi, I x.li] := by
  obtain ⟨v0, v1, v2, v3, y0, y1, y2, y3, m, rfl, _, _, h0, h1, h2, h3⟩ := Go.Joins.open_agg4 Try.underlying38 (by kernel_rfl) (by kernel_rfl) hv h
  obtain ⟨n0, e0, _, _⟩ := DataW.trod_int Try.underlying3 h0
  obtain ⟨n1, e1, _, _⟩ := DataW.trod_int Try.underlying3 h1
  obtain ⟨n2, e2, _, _⟩ := DataW.trod_int Try.underlying3 h2
  obtain ⟨n3, e3, _, _⟩ := DataW.trod_int Try.underlying3 h3
  simp only [List.cons.injEq, and_true] at e0 e1 e2 e3
  subst e0 e1 e2 e3
  exact ⟨⟨n0, n1, n2, n3⟩, rfl⟩

theorem u8_range {n : Int} (h : (Lit.int .u8 n).wf = true) : 0 ≤ n ∧ n < 256 := by
  have h1 : IntKind.u8.min = 0 := by decide
  have h2 : IntKind.u8.max = 255 := by decide
  simp only [Lit.wf, h1, h2, Bool.and_eq_true, decide_eq_true_eq] at h
  omega
end Go.Proofs.Ytmmbomkbaebodaa
