/-
  Base: readings of slices in a world, and small helpers. Nothing of the program is named here.
-/
import Derived.WalkKit
import Derived.LoopTactic
import Derived.Below
import Derived.Lib.Hide
import Derived.Deep.QuietTactic
import Derived.BigQuiet
import Derived.Maps.AppendAt
import Derived.Deep.AppendLies
import Derived.RegionTactic
import Derived.OwnWalk
import Derived.Orders
namespace Go.Proofs.YtpkdhmnlpnijhaaGreat
set_option linter.unusedVariables false
set_option linter.unusedSimpArgs false
set_option linter.unusedSectionVars false
open Go.RowKit
abbrev I (n : Int) : Value := .int .i64 n
abbrev B (b : Bool) : Value := .bool b
theorem retB {a b : Bool} (h : a = b) : Ending.returned (.bool a) = .returned (.bool b) := by rw [h]
theorem retI {a b : Int} (h : a = b) : Ending.returned (.int .i64 a) = .returned (.int .i64 b) := by rw [h]
theorem drewN_below {B : Nat} {a w : World} (h : Below B a w) : ∀ n, Below B a (w.drewN n)
 | 0 => h
 | n + 1 => (drewN_below h n).drew
def SliceR {α : Type} (R : World → List Value → α → Prop) (size : Nat) (w : World) (v : Value) (l : List α) : Prop :=
 ∃ a cap, v = .slice a l.length cap ∧ l.length ≤ cap ∧ cap ≤ maxLen ∧ (l.length = 0 ∨ ∃ b off, a = some ⟨b, off, none⟩ ∧ b < w.heap.size ∧
  ∀ (i : Nat) (x : α), l[i]? = some x → ∃ cs, R w cs x ∧ cs.length = size ∧ ∀ (j : Nat) (u : Value), cs[j]? = some u → w.cell? ⟨b, off + i * size + j, none⟩ = some u)
def MonoR {α : Type} (R : World → List Value → α → Prop) : Prop := ∀ w w' cs x, Below w.heap.size w w' → R w cs x → R w' cs x
theorem SliceR.below {α : Type} {R : World → List Value → α → Prop} (hm : MonoR R) {size : Nat} {w w' : World} {v : Value} {l : List α} (hb : Below w.heap.size w w') (h : SliceR R size w v l) : SliceR R size w' v l := by
 obtain ⟨a, cap, hv, hl, hc, h⟩ := h
 refine ⟨a, cap, hv, hl, hc, ?_⟩
 rcases h with h | ⟨b, off, ha, hlt, hx⟩
 · exact .inl h
 · refine .inr ⟨b, off, ha, Nat.lt_of_lt_of_le hlt hb.size, fun i x hi => ?_⟩
   obtain ⟨cs, hr, hs, hj⟩ := hx i x hi
   exact ⟨cs, hm _ _ _ _ hb hr, hs, fun j u hu => (hb.cell (p := ⟨b, off + i * size + j, none⟩) hlt).trans (hj j u hu)⟩
theorem SliceR.get {α : Type} {R : World → List Value → α → Prop} {size : Nat} {w : World} {a : Option Addr} {n cap : Nat} {l : List α} (h : SliceR R size w (.slice a n cap) l) {i : Nat} (hi : i < l.length) :
    ∃ b off x cs, a = some ⟨b, off, none⟩ ∧ b < w.heap.size ∧ l[i]? = some x ∧ R w cs x ∧ cs.length = size ∧ ∀ (j : Nat) (u : Value), cs[j]? = some u → w.cell? ⟨b, off + i * size + j, none⟩ = some u := by
 obtain ⟨a', cap', hv, hl, hc, h⟩ := h
 simp only [Value.slice.injEq] at hv
 obtain ⟨rfl, rfl, rfl⟩ := hv
 rcases h with h | ⟨b, off, ha, hlt, hx⟩
 · omega
 · obtain ⟨cs, hr, hs, hj⟩ := hx i l[i] (List.getElem?_eq_getElem hi)
   exact ⟨b, off, l[i], cs, ha, hlt, List.getElem?_eq_getElem hi, hr, hs, hj⟩
theorem SliceR.shape {α : Type} {R : World → List Value → α → Prop} {size : Nat} {w : World} {v : Value} {l : List α} (h : SliceR R size w v l) : ∃ a cap, v = .slice a l.length cap ∧ l.length ≤ cap ∧ cap ≤ maxLen := by
 obtain ⟨a, cap, hv, hl, hc, h⟩ := h
 exact ⟨a, cap, hv, hl, hc⟩
structure Ext (w : World) where
 world : World
 below : Below w.heap.size w world
def RInt (_ : World) (cs : List Value) (n : Int) : Prop := cs = [I n]
theorem RInt.mono : MonoR RInt := fun _ _ _ _ _ h => h
abbrev IntsAt (w : World) (v : Value) (l : List Int) : Prop := SliceR RInt 1 w v l
theorem IntsAt.get1 {w : World} {a : Option Addr} {n cap : Nat} {l : List Int} (h : IntsAt w (.slice a n cap) l) {i : Nat} (hi : i < l.length) :
    ∃ b off x, a = some ⟨b, off, none⟩ ∧ b < w.heap.size ∧ Hid (l[i]? = some x) ∧ w.cell? ⟨b, off + i, none⟩ = some (I x) := by
 obtain ⟨b, off, x, cs, ha, hb, hx, hr, hs, hj⟩ := SliceR.get h hi
 refine ⟨b, off, x, ha, hb, hx, ?_⟩
 have := hj 0 (I x) (by rw [hr]; rfl)
 simpa using this
def Src (w : World) (A : Option Addr) (m size : Nat) (news : List Value) : Prop :=
 news.length = m * size ∧ (m = 0 ∨ ∃ ad, A = some ad ∧ ∀ j u, news[j]? = some u → w.cell? (ad.add j) = some u)
theorem append_nil {P : Program} (w : World) {base : Nat} {t ty e : TypeId} {i : TypeInfo} {size : Nat} (ht : P.underlying t = some (.slice e)) (hi : P.info? e = some i)
    {v : Value} {n : Nat} {xs : List Value} (hown : w.ownsRow base e size v n xs) (c : Nat) : (Builtin.append_ #[t, t] ty #[v, .slice none 0 c]).run P w = .ok v w := by
 rcases hown.2 with ⟨rfl, rfl⟩ | ⟨g, cap, cur, rfl, _, _, hnc, _⟩ <;>
  simp [Builtin.append_, run_underlying ht, sizeOf, typeInfo, hi, Builtin.lenOf, Builtin.firstCells, storeCells, *]
theorem run_append_src {P : Program} (w : World) (base : Nat) (t ty e : TypeId) (i : TypeInfo) (z : Value) (size bytes : Nat) (ht : P.underlying t = some (.slice e)) (hi : P.info? e = some i) (hz : i.zero = some z)
    (hsize : i.size = size) (hby : i.bytes = bytes) (hzs : z.cells.size = size) (hsz : 0 < size)
    (v : Value) (n : Nat) (xs : List Value) (hown : w.ownsRow base e size v n xs)
    (A : Option Addr) (m c : Nat) (news : List Value) (hr : Src w A m size news) (h1 : ∀ u ∈ news, u.oneCell' = true)
    (h63 : n + m ≤ maxLen) (hbytes : (n + m) * bytes ≤ 140737488355328) (hbase : base ≤ w.heap.size) :
    ∃ v' w', (Builtin.append_ #[t, t] ty #[v, .slice A m c]).run P w = .ok v' w' ∧ w'.ownsRow base e size v' (n + m) (xs ++ news) ∧ w.grownBy w' v.ownBlock ∧
     (v'.ownBlock = v.ownBlock ∨ v'.ownBlock = some w.heap.size) := by
 obtain ⟨hl, h0⟩ := hr
 cases A with
 | none =>
   have hm : m = 0 := by
    rcases h0 with h | ⟨ad, h, _⟩
    · exact h
    · cases h
   subst hm
   obtain rfl : news = [] := List.eq_nil_of_length_eq_zero (by simpa using hl)
   exact ⟨v, w, append_nil w ht hi hown c, by simpa using hown, World.grownBy.refl w _, .inl rfl⟩
 | some ad =>
   have hnews : ∀ j u, news[j]? = some u → w.cell? (ad.add j) = some u := by
    rcases h0 with rfl | ⟨ad', h, hc⟩
    · obtain rfl : news = [] := List.eq_nil_of_length_eq_zero (by simpa using hl)
      intro j u hu
      simp at hu
    · cases h; exact hc
   obtain ⟨v', w', hr, h2, h3, _, h5⟩ := run_append_own_at (P := P) w base t ty e i z size bytes ht hi hz hsize hby hzs hsz v n xs hown ad m c news hl hnews h1 h63 hbytes hbase
   exact ⟨v', w', hr, h2, h3, h5⟩
theorem wp_append_src {P : Program} (w : World) {o : Oper} {a : Act} {K : Act → World → Prop} {Q : Exit → Act → World → Prop} (s x : Operand) (t : TypeId)
    (ho : o.op = .call { callee := .builtin .append, args := #[s, x], argTypes := #[t, t] })
    (base : Nat) (e : TypeId) (i : TypeInfo) (z : Value) (size bytes : Nat) (ht : P.underlying t = some (.slice e)) (hi : P.info? e = some i) (hz : i.zero = some z)
    (hsize : i.size = size) (hby : i.bytes = bytes) (hzs : z.cells.size = size) (hsz : 0 < size)
    (v : Value) (n : Nat) (xs : List Value) (hs : a.eval s = v) (hown : w.ownsRow base e size v n xs)
    (A : Option Addr) (m c : Nat) (news : List Value) (hx : a.eval x = .slice A m c) (hr : Src w A m size news) (h1 : ∀ u ∈ news, u.oneCell' = true)
    (h63 : n + m ≤ maxLen) (hbytes : (n + m) * bytes ≤ 140737488355328) (hbase : base ≤ w.heap.size)
    (h : ∀ v' w', w'.ownsRow base e size v' (n + m) (xs ++ news) → w.grownBy w' v.ownBlock → (v'.ownBlock = v.ownBlock ∨ v'.ownBlock = some w.heap.size) → K (a.put o.dst v') w') : Oper.wp P o a w K Q := by
 obtain ⟨v', w', hrun, h2, h3, h4⟩ := run_append_src (P := P) w base t o.type e i z size bytes ht hi hz hsize hby hzs hsz v n xs hown A m c news hr h1 h63 hbytes hbase
 unfold Oper.wp execOp
 simp only [ho, resolve, invoke, builtin, Sem.run_bind, Sem.run_pure, Result.andThen_ok, List.map_toArray, List.map_cons, List.map_nil, hs, hx, hrun]
 exact h v' w' h2 h3 h4
theorem wpList_append_src {P : Program} (w : World) {ops : Array Oper} {rest : List Oper} {o : Oper} {a : Act} {Q : Exit → Act → World → Prop} (hgd : o.guard = none) (s x : Operand) (t : TypeId)
    (ho : o.op = .call { callee := .builtin .append, args := #[s, x], argTypes := #[t, t] })
    (base : Nat) (e : TypeId) (i : TypeInfo) (z : Value) (size bytes : Nat) (ht : P.underlying t = some (.slice e)) (hi : P.info? e = some i) (hz : i.zero = some z)
    (hsize : i.size = size) (hby : i.bytes = bytes) (hzs : z.cells.size = size) (hsz : 0 < size)
    (v : Value) (n : Nat) (xs : List Value) (hs : a.eval s = v) (hown : w.ownsRow base e size v n xs)
    (A : Option Addr) (m c : Nat) (news : List Value) (hx : a.eval x = .slice A m c) (hr : Src w A m size news) (h1 : ∀ u ∈ news, u.oneCell' = true)
    (h63 : n + m ≤ maxLen) (hbytes : (n + m) * bytes ≤ 140737488355328) (hbase : base ≤ w.heap.size)
    (h : ∀ v' w', w'.ownsRow base e size v' (n + m) (xs ++ news) → w.grownBy w' v.ownBlock → (v'.ownBlock = v.ownBlock ∨ v'.ownBlock = some w.heap.size) → wpList P ops Q rest (a.put o.dst v') w') : wpList P ops Q (o :: rest) a w :=
 wpList_plain hgd fun _ hK => wp_append_src w s x t ho base e i z size bytes ht hi hz hsize hby hzs hsz v n xs hs hown A m c news hx hr h1 h63 hbytes hbase fun v' w' h2 h3 h4 => hK _ _ (h v' w' h2 h3 h4)
theorem Src.kept {w W : World} {A : Option Addr} {m size : Nat} {news : List Value} (h : Src w A m size news) (hb : ∀ k, k < w.heap.size → W.heap[k]? = w.heap[k]?) : Src W A m size news := by
 refine ⟨h.1, ?_⟩
 rcases h.2 with h0 | ⟨ad, rfl, hc⟩
 · exact .inl h0
 · exact .inr ⟨ad, rfl, fun j u hu => (World.cell?_of_block (hb _ (block_lt_of_cell (hc j u hu)))).trans (hc j u hu)⟩
theorem src_block {w : World} {B : Nat} {cs : Array Value} {t : TypeId} {fr : Nat × Nat} {m size : Nat} (h : w.heap[B]? = some (.cells cs t fr)) (hs : cs.size = m * size) : Src w (some ⟨B, 0, none⟩) m size cs.toList :=
 ⟨by simpa using hs, .inr ⟨_, rfl, World.news_of_block h⟩⟩
theorem SliceR.src {α : Type} {R : World → List Value → α → Prop} {size : Nat} {w : World} {A : Option Addr} {n cap : Nat} {l : List α} (f : α → List Value) (hR : ∀ w cs x, R w cs x → cs = f x)
    (h : SliceR R size w (.slice A n cap) l) (hf : ∀ x, (f x).length = size) : Src w A n size (l.flatMap f) ∧ n = l.length := by
 obtain ⟨a', cap', hv, hl, hc, h⟩ := h
 simp only [Value.slice.injEq] at hv
 obtain ⟨rfl, rfl, rfl⟩ := hv
 have hlen : ∀ l : List α, (l.flatMap f).length = l.length * size := by
  intro l
  induction l with
  | nil => simp
  | cons x l ih => rw [List.flatMap_cons, List.length_append, hf, ih, List.length_cons, Nat.succ_mul, Nat.add_comm]
 refine ⟨⟨hlen l, ?_⟩, rfl⟩
 rcases h with h | ⟨b, off, rfl, hb, hx⟩
 · exact .inl h
 · refine .inr ⟨_, rfl, fun j u hj => ?_⟩
   have hadd : (⟨b, off, none⟩ : Addr).add j = ⟨b, off + j, none⟩ := by unfold Addr.add; split <;> simp_all
   rw [hadd]
   -- the element that holds cell j
   have hfind : ∀ (l : List α) (j : Nat) (u : Value), (l.flatMap f)[j]? = some u → ∃ i k x, l[i]? = some x ∧ (f x)[k]? = some u ∧ j = i * size + k := by
    intro l
    induction l with
    | nil => intro j u h; simp at h
    | cons x l ih =>
      intro j u h
      rw [List.flatMap_cons] at h
      by_cases hj : j < size
      · rw [List.getElem?_append_left (by rw [hf]; exact hj)] at h
        exact ⟨0, j, x, rfl, h, by simp⟩
      · rw [List.getElem?_append_right (by rw [hf]; omega), hf] at h
        obtain ⟨i, k, y, h1, h2, h3⟩ := ih _ _ h
        exact ⟨i + 1, k, y, h1, h2, by rw [Nat.succ_mul]; omega⟩
   obtain ⟨i, k, x, h1, h2, rfl⟩ := hfind l j u hj
   obtain ⟨cs, hr, hs, hcell⟩ := hx i x h1
   rw [hR _ _ _ hr] at hcell
   have := hcell k u h2
   rwa [Nat.add_assoc] at this
open Go Go.RowKit
def Grows (w w' : World) : Prop := Below w.heap.size w w'
theorem Grows.refl (w : World) : Grows w w := Below.refl _ _
theorem Grows.trans {a b c : World} (h : Grows a b) (k : Grows b c) : Grows a c := Below.trans h (Below.mono k h.size)
theorem Grows.drawn (w : World) : Grows w { w with drawn := w.drawn + 1 } := (Below.refl _ _).drew
structure Ent where
 val : Value
 law : Option (World → Value → Prop)
def Ent.spec (e : Ent) : World → Value → Prop := match e.law with | none => fun _ v => v = e.val | some T => T
def Ent.Mono (e : Ent) : Prop := ∀ T, e.law = some T → ∀ w w' v, Grows w w' → T w v → T w' v
theorem Ent.Mono.spec {e : Ent} (h : e.Mono) {w w' : World} {v : Value} (hg : Grows w w') (hs : e.spec w v) : e.spec w' v := by
 unfold Ent.spec at *
 cases hl : e.law with
 | none => rw [hl] at hs; exact hs
 | some T => rw [hl] at hs; exact h T hl w w' v hg hs
def relUpon (P : Program) (w : World) (T : World → Value → Prop) : Result Next → Prop
 | .ok (.value u) w' => Grows w w' ∧ T w' u
 | .ok .skip w' => Grows w w' ∧ T w' undef
 | .ok (.enter f args) w' => w' = w ∧ Calls P f args w (fun e w'' => ∃ v, e = .returned v ∧ Grows w w'' ∧ T w'' v)
 | _ => False
def relAt (P : Program) (o : Oper) (a : Act) (w : World) (T : World → Value → Prop) : Prop := relUpon P w T ((execOp a.eval o).run P w)
def relOp (P : Program) (ops : Array Oper) (o : Oper) (a : Act) (w : World) (T : World → Value → Prop) : Prop :=
 if Region.wanted o (yielded ops a.tmps) then relAt P o a w T else T w undef
def depends (o : Oper) (j : Nat) : Bool := o.after.any fun e => Region.binds .any e && e.on == j
def relB (ops : Array Oper) : Bool :=
 Region.noSelect ops &&
 (List.range ops.size).all fun i => match ops[i]? with
   | none => true
   | some o =>
     (o.after.all fun e => !Region.binds .any e || decide (e.on < i)) &&
     (List.range ops.size).all fun j => match ops[j]? with
       | none => true
       | some p => match p.dst with
         | none => true
         | some t => (i == j || o.dst != some t) && (!(o.looksAt ops).contains t || (decide (j < i) && depends o j) || (decide (i < j) && depends p i))
structure RelOk (ops : Array Oper) : Prop where
 noSel : ∀ (i : Nat) (o : Oper) cs b, ops[i]? = some o → o.op ≠ .select cs b
 back : ∀ (i : Nat) (o : Oper), ops[i]? = some o → ∀ e ∈ o.after, Region.binds .any e = true → e.on < i
 once : ∀ (i j : Nat) (o p : Oper) t, ops[i]? = some o → ops[j]? = some p → o.dst = some t → p.dst = some t → i = j
 reads : ∀ (i j : Nat) (o p : Oper) t, ops[i]? = some o → ops[j]? = some p → p.dst = some t → t ∈ o.looksAt ops → (j < i ∧ depends o j = true) ∨ (i < j ∧ depends p i = true)
theorem depends_iff {o : Oper} {j : Nat} : depends o j = true ↔ ∃ e ∈ o.after, Region.binds .any e = true ∧ e.on = j := by
 unfold depends
 rw [Array.any_eq_true']
 simp
structure RelInv (ops : Array Oper) (a0 : Act) (w0 : World) (es : List Ent) (listed : Array Bool) (a : Act) (w : World) : Prop where
 size : listed.size = ops.size
 closed : ∀ (i : Nat) (o : Oper), ops[i]? = some o → listed[i]? = some true → ∀ e ∈ o.after, Region.binds .any e = true → listed[e.on]? = some true
 grows : Grows w0 w
 vals : ∀ (i : Nat) (o : Oper) (e : Ent) t, ops[i]? = some o → listed[i]? = some true → o.dst = some t → es[i]? = some e → e.spec w (a.eval (.tmp t))
 rest : ∀ t, (∀ (i : Nat) (o : Oper), ops[i]? = some o → listed[i]? = some true → o.dst ≠ some t) → a.eval (.tmp t) = a0.eval (.tmp t)
 width : a.tmps.size = a0.tmps.size
 defers : a.defers = a0.defers
theorem eval_put_same {a : Act} {t : Tmp} {v : Value} (h : t < a.tmps.size) : (a.put (some t) v).eval (.tmp t) = v := by
 simp [Act.eval, Act.put, h]
theorem eval_put_ne {a : Act} {d : Option Tmp} {t : Tmp} {v : Value} (h : d ≠ some t) : (a.put d v).eval (.tmp t) = a.eval (.tmp t) :=
 Act.eval_put fun d' hd hx => h (by rw [hd]; simp only [Operand.tmp.injEq] at hx; rw [hx])
theorem getD_iff {listed : Array Bool} {i : Nat} {d : Bool} (h : i < listed.size) : listed.getD i d = true ↔ listed[i]? = some true := by
 simp [Array.getD, h]
theorem count_set {l : List Bool} {i : Nat} (h : l[i]? = some false) : (l.set i true).countP (fun b => !b) + 1 = l.countP (fun b => !b) := by
 induction l generalizing i with
 | nil => simp at h
 | cons b l ih =>
   cases i with
   | zero => simp only [List.getElem?_cons_zero, Option.some.injEq] at h; subst h; simp
   | succ i =>
     simp only [List.getElem?_cons_succ] at h
     have := ih h
     simp only [List.set_cons_succ, List.countP_cons]
     omega
abbrev RDone := List (Option Tmp × Ent)
def Reads (ops : Array Oper) (o : Oper) (w : World) (G : Act → Prop) : RDone → Act → Prop
 | [], a => G a
 | (d, e) :: l, a => match d, e.law with
   | some t, some T => if (o.looksAt ops).contains t then ∀ v, T w v → Reads ops o w G l (a.put (some t) v) else Reads ops o w G l a
   | _, _ => Reads ops o w G l a
def Rel (P : Program) (ops : Array Oper) (w0 : World) (K : RDone → Prop) : RDone → List Oper → Act → Prop
 | done, [], _ => K done
 | done, o :: rest, a => ∃ e : Ent, e.Mono ∧ (∀ w, Grows w0 w → Reads ops o w (fun a' => relOp P ops o a' w e.spec) done a) ∧ Rel P ops w0 K (done ++ [(o.dst, e)]) rest (a.put o.dst e.val)
def Final (Q : Act → World → Prop) (w : World) : RDone → Act → Prop
 | [], a => Q a w
 | (d, e) :: l, a => match d, e.law with
   | some t, some T => ∀ v, T w v → Final Q w l (a.put (some t) v)
   | _, _ => Final Q w l (a.put d e.val)
section
variable {P : Program} {ops : Array Oper} {w0 : World} {K : RDone → Prop} {done : RDone} {o : Oper} {rest : List Oper} {a : Act}
end
section
variable {ops : Array Oper} {o : Oper} {w : World} {G : Act → Prop} {l : RDone} {a : Act} {d : Option Tmp} {v : Value} {t : Tmp} {T : World → Value → Prop}
end
attribute [irreducible] Reads Rel Final relB
def reachL (ops : Array Oper) (o : Oper) : Nat → List Nat → List Nat
 | 0, acc => acc
 | j + 1, acc => reachL ops o j (if depends o j || acc.any (fun k => match ops[k]? with | some p => depends p j | none => false) then j :: acc else acc)
theorem reachL_ok {ops : Array Oper} {o : Oper} {P : Nat → Prop} (h1 : ∀ j, depends o j = true → P j) (h2 : ∀ k p j, P k → ops[k]? = some p → depends p j = true → P j) :
    ∀ (n : Nat) (acc : List Nat), (∀ k ∈ acc, P k) → ∀ k ∈ reachL ops o n acc, P k := by
 intro n
 induction n with
 | zero => intro acc h k hk; exact h k hk
 | succ j ih =>
   intro acc h
   refine ih _ ?_
   intro k hk
   split at hk
   · rename_i hc
     rcases List.mem_cons.1 hk with rfl | hk
     · rw [Bool.or_eq_true, List.any_eq_true] at hc
       rcases hc with hc | ⟨m, hm, hc⟩
       · exact h1 k hc
       · cases hp : ops[m]? with
         | none => rw [hp] at hc; cases hc
         | some p => rw [hp] at hc; exact h2 m p k (h m hm) hp hc
     · exact h k hk
   · exact h k hk
structure Tails (ops : Array Oper) (n : Nat) : Prop where
 first : ∀ (o : Oper), ops[n]? = some o → ∀ P : Nat → Prop, (∀ j, depends o j = true → P j) → (∀ k p j, P k → ops[k]? = some p → depends p j = true → P j) → ∀ j, j < n → P j
 next : ∀ (i : Nat) (o : Oper), n < i → ops[i]? = some o → depends o (i - 1) = true
structure Late (ops : Array Oper) (n q : Nat) (on oq : Oper) (dq : Tmp) : Prop where
 lt : q < n
 hon : ops[n]? = some on
 hoq : ops[q]? = some oq
 gn : on.guard = none
 dn : on.dst = none
 gq : oq.guard = none
 ext : ∃ t k, oq.op = .extract t k
 hdq : oq.dst = some dq
 look : ∀ t ∈ on.looksAt ops, t ≠ dq
 first : ∀ P : Nat → Prop, (∀ j, depends on j = true → P j) → (∀ k p j, P k → ops[k]? = some p → depends p j = true → P j) → ∀ j, j < n → j ≠ q → P j
 next : ∀ (i : Nat) (o : Oper), n < i → ops[i]? = some o → depends o (i - 1) = true
 both : ∀ (o : Oper), ops[n + 1]? = some o → depends o q = true
end Go.Proofs.YtpkdhmnlpnijhaaGreat
