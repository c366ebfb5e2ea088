/-
  The reference's integers: trim, digit, less: the walks.
-/
import Derived.Test.YtpkdhmnlpnijhaaGreatPBigB
namespace Go.Proofs.YtpkdhmnlpnijhaaGreat
set_option linter.unusedVariables false
set_option linter.unusedSimpArgs false
set_option linter.unusedSectionVars false
open Go.RowKit
theorem wpList_cat (w : World) {ops : Array Oper} {rest : List Oper} {o : Oper} {a : Act} {Q : Exit → Act → World → Prop} (hgd : o.guard = none) (s x : Operand)
    (ho : o.op = .call { callee := .builtin .append, args := #[s, x], argTypes := #[28, 28] })
    (base : Nat) (v : Value) (l : List Int) (A : Option Addr) (n cap : Nat) (m : List Int) (hs : a.eval s = v) (hown : Owns w base v l) (hx : a.eval x = .slice A n cap) (hm : IntsAt w (.slice A n cap) m)
    (hl : ((l.length + m.length : Nat) : Int) ≤ 8796093022208) (hb : base ≤ w.heap.size)
    (h : ∀ v' w', Owns w' base v' (l ++ m) → Below base w w' → (v'.ownBlock = v.ownBlock ∨ v'.ownBlock = some w.heap.size) → wpList Tryz.prog ops Q rest (a.put o.dst v') w') :
    wpList Tryz.prog ops Q (o :: rest) a w := by
 obtain ⟨i0, hi, hz0, hz1, hz2⟩ := info_int3
 obtain ⟨hsrc, rfl⟩ := ints_src hm
 refine wpList_append_src _ hgd s x _ ho base 3 i0 _ 1 8 Tryz.underlying28 hi hz0 hz1 hz2 rfl (by omega) v l.length _ hs hown _ m.length cap (m.map I) hx hsrc (one_ints m) (by unfold maxLen; omega) (by omega) hb ?_
 intro v' w' h1 h2 h3
 refine h v' w' ?_ ?_ h3
 · unfold Owns; simpa using h1
 · exact (Below.refl _ _).grown h2 hb (hown.row)
theorem IntsAt.take {w : World} {A : Option Addr} {n cap : Nat} {l : List Int} (h : IntsAt w (.slice A n cap) l) {k : Nat} (hk : k ≤ l.length) : IntsAt w (.slice A k cap) (l.take k) := by
 obtain ⟨a, c, hv, hl, hc, h⟩ := h
 simp only [Value.slice.injEq] at hv
 obtain ⟨rfl, rfl, rfl⟩ := hv
 refine ⟨A, cap, by simp; omega, by simp; omega, hc, ?_⟩
 by_cases hk0 : k = 0
 · left; simp [hk0]
 rcases h with h | ⟨b, off, rfl, hb, hx⟩
 · omega
 · refine .inr ⟨b, off, rfl, hb, fun i x hi => hx i x ?_⟩
   rw [List.getElem?_take] at hi
   split at hi
   · exact hi
   · cases hi
set_option maxRecDepth 100000 in
set_option maxHeartbeats 4000000 in
theorem rtrim_any (v : Value) (l : List Int) (w : World) (h : IntsAt w v l) (hl : (l.length : Int) ≤ 8796093022208) :
    Calls Tryz.prog 245 #[v] w (RetDigs w (trimL l)) := by
 obtain ⟨A, cap, rfl, hlc, hcap⟩ := h.shape
 unfold maxLen at hcap
 go_enter Tryz.func245, Tryz.ntmps245
 go_wp2_with fail
 go_loop [3] (fun i => ∃ m : Nat, m ≤ l.length ∧ i = I m ∧ trimL (l.take m) = trimL l) (fun i => (intOf i).toNat)
 case atStart => exact ⟨l.length, Nat.le_refl _, rfl, by rw [List.take_length]⟩
 case round =>
  obtain ⟨m, hm, rfl, ht⟩ := hrel
  have Ht := Lib.hid ht; clear ht
  cases m with
  | zero =>
    have hi0 := (IntsAt.take h (Nat.zero_le _)).below RInt.mono (below_alloc w (.cells #[] 3))
    have e : trimL l = [] := by rw [← Ht.out]; rfl
    have E := Lib.hid e
    have Hi0 := Lib.hid hi0
    clear hi0 e
    go_wp2_with (at_builtin; refine wpList_cat _ (by rfl) _ _ (by rfl) w.heap.size _ [] A 0 cap (l.take 0) (by rfl) (owns_made w) (by rfl) Hi0.out (by simp) (by simp) ?_; intro v2 w2 hO2 hb2 hat2)
    go_ret
    exact ⟨_, rfl, by rw [E.out]; simpa using hO2, (below_alloc w _).trans hb2⟩
  | succ k =>
    obtain ⟨b, off, x, rfl, hb, hx, hc⟩ := h.get1 (i := k) (by omega)
    have hk0 : decide ((0 : Int) < (k : Int) + 1) = true := decide_eq_true (by omega)
    by_cases hx0 : x = 0
    · subst hx0
      go_wp2_with fail
      go_round
      case rel => exact ⟨k, by omega, rfl, by rw [← trimL_take_zero hx.out]; exact Ht.out⟩
      case measure => simp [intOf] <;> omega
    · have hx1 : (x == 0) = false := by simpa using hx0
      have hi0 := (IntsAt.take h hm).below RInt.mono (below_alloc w (.cells #[] 3))
      have e : trimL l = l.take (k + 1) := by
       have h1 := trimL_take_last hx.out hx0
       have h2 := trim_take (l.take (k + 1))
       rw [h1, List.take_take, Nat.min_self] at h2
       rw [← Ht.out, h2]
      have E := Lib.hid e
      have Hi0 := Lib.hid hi0
      clear hi0 e
      have hkl : (((l.take (k + 1)).length : Nat) : Int) ≤ 8796093022208 := by rw [List.length_take]; omega
      go_wp2_with (at_builtin; refine wpList_cat _ (by rfl) _ _ (by rfl) w.heap.size _ [] _ (k + 1) cap (l.take (k + 1)) (by rfl) (owns_made w) (by rfl) Hi0.out (by simp; omega) (by simp) ?_; intro v2 w2 hO2 hb2 hat2)
      go_ret
      exact ⟨_, rfl, by rw [E.out]; simpa using hO2, (below_alloc w _).trans hb2⟩
theorem digit_any (v : Value) (l : List Int) (k : Nat) (w : World) (h : IntsAt w v l) :
    Calls Tryz.prog 252 #[v, I k] w fun e w' => e = .returned (I (dg l k)) ∧ w = w' := by
 obtain ⟨A, cap, rfl, hlc, hcap⟩ := h.shape
 unfold maxLen at hcap
 go_enter Tryz.func252, Tryz.ntmps252
 by_cases hlt : k < l.length
 · obtain ⟨b, off, x, rfl, hb, hx, hc⟩ := h.get1 hlt
   have E := Lib.hid (dg_some hx.out)
   go_wp2_with fail
   go_ret
   exact ⟨by rw [E.out]; rfl, rfl⟩
 · have E := Lib.hid (dg_none (l := l) (i := k) (by omega))
   go_wp2_with fail
   go_ret
   exact ⟨by rw [E.out]; rfl, rfl⟩
set_option maxRecDepth 100000 in
set_option maxHeartbeats 8000000 in
theorem less_any (va vb : Value) (a b : List Int) (w : World) (ha : IntsAt w va a) (hb : IntsAt w vb b) (da : Dig a) (db : Dig b) :
    Calls Tryz.prog 224 #[va, vb] w fun e w' => e = .returned (B (decide (val a < val b))) ∧ w = w' := by
 obtain ⟨A, ca, rfl, hla, hca⟩ := ha.shape
 obtain ⟨B', cb, rfl, hlb, hcb⟩ := hb.shape
 unfold maxLen at hca hcb
 have HA := Lib.hid (fun (k : Nat) => digit_any (.slice A a.length ca) a k w ha)
 have HB := Lib.hid (fun (k : Nat) => digit_any (.slice B' b.length cb) b k w hb)
 clear ha hb
 have HN := Lib.hid (val_dg_eq (max a.length b.length) a b (by omega) (by omega))
 go_enter Tryz.func224, Tryz.ntmps224
 by_cases hlt : a.length < b.length
 all_goals
  go_wp2_with fail
  go_loop [5] (fun i => ∃ m : Nat, m ≤ max a.length b.length ∧ i = I ((m : Int) - 1) ∧ ∀ j, m ≤ j → dg a j = dg b j) (fun i => (intOf i + 1).toNat)
  case atStart => first | exact ⟨b.length, by omega, rfl, fun j hj => by rw [dg_none (by omega), dg_none hj]⟩ | exact ⟨a.length, by omega, rfl, fun j hj => by rw [dg_none hj, dg_none (by omega)]⟩
  case round =>
   obtain ⟨m, hm, rfl, hd⟩ := hrel
   have Hd := Lib.hid hd; clear hd
   have Hm := Lib.hid hm; clear hm
   cases m with
   | zero =>
     have e := HN.out fun j => Hd.out j (Nat.zero_le _)
     have E := Lib.hid (show decide (val a < val b) = false by rw [e]; simp)
     clear e
     rw [show ((0 : Nat) : Int) - 1 = -1 from rfl]
     go_wp2_with fail
     go_ret
     exact ⟨by rw [E.out]; rfl, rfl⟩
   | succ k =>
     have e2 : ((k + 1 : Nat) : Int) - 1 = k := by omega
     have hki : (0 : Int) ≤ (k : Int) := by omega
     have hkm : IntKind.i64.wrap ((k : Int) - 1) = (k : Int) - 1 := IntWalk.i64_in _ (by have := Hm.out; omega)
     rw [e2]
     clear e2
     have hx := dg_bounds da k
     have hy := dg_bounds db k
     obtain ⟨x, hxe⟩ : ∃ x, dg a k = x := ⟨_, rfl⟩
     obtain ⟨y, hye⟩ : ∃ y, dg b k = y := ⟨_, rfl⟩
     have HAk := Lib.hid (HA.out k)
     have HBk := Lib.hid (HB.out k)
     rw [hxe] at HAk hx
     rw [hye] at HBk hy
     have Hxe := Lib.hid hxe
     have Hye := Lib.hid hye
     clear hxe hye
     rcases Int.lt_trichotomy x y with h | h | h
     · have L := Lib.hid (less_law k a b da db (fun j hj => Hd.out j (by omega)) (by rw [Hxe.out, Hye.out]; exact h))
       have hne : (x == y) = false := by simp; omega
       go_upto_region 98 with (go_at_call 252; fail)
       go_at_call 252
       refine HAk.out.mono ?_
       rintro e w1 ⟨rfl, rfl⟩
       go_upto_region 98 with (go_at_call 252; fail)
       go_at_call 252
       refine HBk.out.mono ?_
       rintro e w1 ⟨rfl, rfl⟩
       go_upto_region 98 with (go_at_call 252; fail)
       go_at_call 252
       refine HAk.out.mono ?_
       rintro e w1 ⟨rfl, rfl⟩
       go_upto_region 99 with (go_at_call 252; fail)
       go_at_call 252
       refine HBk.out.mono ?_
       rintro e w1 ⟨rfl, rfl⟩
       go_wp2_with fail
       go_ret
       exact ⟨by rw [decide_eq_true L.out]; rfl, rfl⟩
     · have hne : (x == y) = true := by simp [h]
       have H := Lib.hid h
       clear h
       go_upto_region 98 with (go_at_call 252; fail)
       go_at_call 252
       refine HAk.out.mono ?_
       rintro e w1 ⟨rfl, rfl⟩
       go_upto_region 98 with (go_at_call 252; fail)
       go_at_call 252
       refine HBk.out.mono ?_
       rintro e w1 ⟨rfl, rfl⟩
       go_wp2_with fail
       go_round
       case rel => exact ⟨k, by have := Hm.out; omega, by go_num, fun j hj => by
        rcases Nat.eq_or_lt_of_le hj with rfl | h2
        · rw [Hxe.out, Hye.out, H.out]
        · exact Hd.out j h2⟩
       case measure => simp [intOf] <;> omega
     · have L := Lib.hid (less_law k b a db da (fun j hj => (Hd.out j (by omega)).symm) (by rw [Hxe.out, Hye.out]; exact h))
       have hne : (x == y) = false := by simp; omega
       go_upto_region 98 with (go_at_call 252; fail)
       go_at_call 252
       refine HAk.out.mono ?_
       rintro e w1 ⟨rfl, rfl⟩
       go_upto_region 98 with (go_at_call 252; fail)
       go_at_call 252
       refine HBk.out.mono ?_
       rintro e w1 ⟨rfl, rfl⟩
       go_upto_region 98 with (go_at_call 252; fail)
       go_at_call 252
       refine HAk.out.mono ?_
       rintro e w1 ⟨rfl, rfl⟩
       go_upto_region 99 with (go_at_call 252; fail)
       go_at_call 252
       refine HBk.out.mono ?_
       rintro e w1 ⟨rfl, rfl⟩
       go_wp2_with fail
       go_ret
       exact ⟨by rw [decide_eq_false (show ¬ (val a < val b) by have := L.out; omega), decide_eq_false (show ¬ (x < y) by omega)]; rfl, rfl⟩
attribute [local go_sem] relOp relAt relUpon
theorem plus_room {a b o : List Int} {i : Nat} {c : Int} (ha : Dig a) (hb : Dig b) (h : PlusInv a b i o c) (n : Nat) (hna : a.length ≤ n) (hnb : b.length ≤ n) (hi : n < i) : c = 0 := by
 obtain ⟨h1, h2, h3, h4, h5⟩ := h
 rw [List.take_of_length_le (by omega), List.take_of_length_le (by omega)] at h5
 have h6 := val_lt ha
 have h7 := val_lt hb
 have h8 := bp_le hna
 have h9 := bp_le hnb
 have h10 := bp_le (show n + 1 ≤ i from hi)
 have h11 := dig_nonneg h2
 have h12 : bp (n + 1) = 1048576 * bp n := by simp [bp, Int.mul_comm]
 have h13 := bp_pos n
 rcases Int.lt_or_le c 1 with hc | hc
 · omega
 · have : c = 1 := by omega
   subst this
   omega
set_option maxRecDepth 100000 in
set_option maxHeartbeats 8000000 in
theorem plus_any (va vb : Value) (a b : List Int) (w : World) (ha : IntsAt w va a) (hb : IntsAt w vb b) (da : Dig a) (db : Dig b) (la : (a.length : Int) ≤ 4398046511104) (lb : (b.length : Int) ≤ 4398046511104) :
    Calls Tryz.prog 249 #[va, vb] w (RetDigs w (digs (val a + val b).toNat)) := by
 obtain ⟨A, ca, rfl, hla, hca⟩ := ha.shape
 obtain ⟨B', cb, rfl, hlb, hcb⟩ := hb.shape
 unfold maxLen at hca hcb
 have HA := Lib.hid (fun (k : Nat) W (hW : Below w.heap.size w W) => digit_any (.slice A a.length ca) a k W (ha.below RInt.mono hW))
 have HB := Lib.hid (fun (k : Nat) W (hW : Below w.heap.size w W) => digit_any (.slice B' b.length cb) b k W (hb.below RInt.mono hW))
 obtain ⟨n, hna, hnb, hn1⟩ : ∃ n : Nat, a.length ≤ n ∧ b.length ≤ n ∧ (n : Int) ≤ 4398046511104 := ⟨max a.length b.length, by omega, by omega, by omega⟩
 have Hroom := Lib.hid (fun o i c h hi => plus_room (o := o) (i := i) (c := c) da db h n hna hnb hi)
 clear ha hb
 go_enter Tryz.func249, Tryz.ntmps249
 go_wp2_with fail
 go_loopw [5, 6, 7, 8] (fun v c i _ wr => ∃ (j : Nat) (o : List Int) (k : Int), j ≤ n + 1 ∧ i = I j ∧ c = I k ∧ Owns wr w.heap.size v o ∧ PlusInv a b j o k ∧ Below w.heap.size w wr) (fun _ _ i _ _ => n + 1 - (intOf i).toNat)
 case atStart => exact ⟨0, _, 0, by omega, rfl, rfl, Owns.nil _ _, plus_start a b, Below.refl _ _⟩
 case round =>
  obtain ⟨j, o, c, hj, rfl, rfl, hO, hA, hB⟩ := hrel
  have HI := Lib.hid hA
  have hc0 : 0 ≤ c := hA.2.2.1
  have hc1 : c ≤ 1 := hA.2.2.2.1
  have hol : o.length = j := hA.1
  have hol2 : (o.length : Int) ≤ 8796093022208 := by omega
  have HAj := Lib.hid (HA.out j wr hB)
  have HBj := Lib.hid (HB.out j wr hB)
  have hx := dg_bounds da j
  have hy := dg_bounds db j
  have Hx : Hid (dg a j = dg a j) := Lib.hid rfl
  have Hy : Hid (dg b j = dg b j) := Lib.hid rfl
  generalize hxe : dg a j = x at HAj hx Hx
  generalize hye : dg b j = y at HBj hy Hy
  have Hxe := Lib.hid hxe
  have Hye := Lib.hid hye
  have Hol := Lib.hid hol
  have e1 := plus_step da db hA hxe hye
  have q0 : 0 ≤ x + y + c := by omega
  have q1 : x + y + c ≤ 2097151 := by omega
  have E1 := Lib.hid e1
  clear hxe hye hol hA Hx Hy e1
  by_cases hlt : j < a.length
  · have hjn : j < n + 1 := by omega
    go_upto_region 98 with (go_at_call 252; fail)
    go_at_call 252
    refine HAj.out.mono ?_
    rintro e w1 ⟨rfl, rfl⟩
    go_upto_region 98 with (go_at_call 252; fail)
    go_at_call 252
    refine HBj.out.mono ?_
    rintro e w1 ⟨rfl, rfl⟩
    go_wp2_with (at_builtin; refine wpList_push wr (by rfl) _ _ (by rfl) w.heap.size _ o ((x + y + c) % 1048576) (by rfl) hO (by rfl) hol2 hB.size ?_; intro v2 w2 hO2 hb2 hat2 hsz2)
    go_roundw
    case rel => exact ⟨j + 1, _, _, by omega, by go_num, rfl, hO2, E1.out.1, hB.trans hb2⟩
    case measure => simp [intOf] <;> omega
  · by_cases hlt2 : j < b.length
    · have hjn : j < n + 1 := by omega
      go_upto_region 98 with (go_at_call 252; fail)
      go_at_call 252
      refine HAj.out.mono ?_
      rintro e w1 ⟨rfl, rfl⟩
      go_upto_region 98 with (go_at_call 252; fail)
      go_at_call 252
      refine HBj.out.mono ?_
      rintro e w1 ⟨rfl, rfl⟩
      go_wp2_with (at_builtin; refine wpList_push wr (by rfl) _ _ (by rfl) w.heap.size _ o ((x + y + c) % 1048576) (by rfl) hO (by rfl) hol2 hB.size ?_; intro v2 w2 hO2 hb2 hat2 hsz2)
      go_roundw
      case rel => exact ⟨j + 1, _, _, by omega, by go_num, rfl, hO2, E1.out.1, hB.trans hb2⟩
      case measure => simp [intOf] <;> omega
    · by_cases hc : 0 < c
      · have hjn : j < n + 1 := by exact Nat.lt_of_not_le fun hh => by have := Hroom.out _ _ _ HI.out (by omega); omega
        go_upto_region 98 with (go_at_call 252; fail)
        go_at_call 252
        refine HAj.out.mono ?_
        rintro e w1 ⟨rfl, rfl⟩
        go_upto_region 98 with (go_at_call 252; fail)
        go_at_call 252
        refine HBj.out.mono ?_
        rintro e w1 ⟨rfl, rfl⟩
        go_wp2_with (at_builtin; refine wpList_push wr (by rfl) _ _ (by rfl) w.heap.size _ o ((x + y + c) % 1048576) (by rfl) hO (by rfl) hol2 hB.size ?_; intro v2 w2 hO2 hb2 hat2 hsz2)
        go_roundw
        case rel => exact ⟨j + 1, _, _, by omega, by go_num, rfl, hO2, E1.out.1, hB.trans hb2⟩
        case measure => simp [intOf] <;> omega
      · have hc2 : c = 0 := by omega
        subst hc2
        obtain ⟨d1, d2⟩ := plus_end HI.out (by omega) (by omega)
        have ht := fun W h => rtrim_any u5 o W h hol2
        rw [trim_digs d1, d2] at ht
        have Ht := Lib.hid ht
        clear ht d2
        have hI := Lib.hid hO.ints
        go_wp2_with (go_at_call 245; refine (Ht.out _ hI.out).mono ?_; rintro e w1 ⟨v1, rfl, ho1, hb1⟩)
        go_ret
        exact ⟨_, rfl, ho1.mono hB.size, hB.trans (hb1.mono hB.size)⟩
set_option maxRecDepth 100000 in
set_option maxHeartbeats 8000000 in
theorem minus_any (va vb : Value) (a b : List Int) (w : World) (ha : IntsAt w va a) (hb : IntsAt w vb b) (da : Dig a) (db : Dig b) (la : (a.length : Int) ≤ 4398046511104) (hl : b.length ≤ a.length) (hle : val b ≤ val a) :
    Calls Tryz.prog 250 #[va, vb] w (RetDigs w (digs (val a - val b).toNat)) := by
 obtain ⟨A, ca, rfl, hla, hca⟩ := ha.shape
 obtain ⟨B', cb, rfl, hlb, hcb⟩ := hb.shape
 unfold maxLen at hca hcb
 have HB := Lib.hid (fun (k : Nat) W (hW : Below w.heap.size w W) => digit_any (.slice B' b.length cb) b k W (hb.below RInt.mono hW))
 clear hb
 have Hle := Lib.hid hle
 clear hle
 go_enter Tryz.func250, Tryz.ntmps250
 go_wp2_with fail
 go_loopw [5, 6, 7, 8] (fun v c i _ wr => ∃ (j : Nat) (o : List Int) (k : Int), j ≤ a.length ∧ i = I j ∧ c = I k ∧ Owns wr w.heap.size v o ∧ MinusInv a b j o k ∧ Below w.heap.size w wr) (fun _ _ i _ _ => a.length - (intOf i).toNat)
 case atStart => exact ⟨0, _, 0, by omega, rfl, rfl, Owns.nil _ _, minus_start a b, Below.refl _ _⟩
 case round =>
  obtain ⟨j, o, c, hj, rfl, rfl, hO, hA, hB⟩ := hrel
  have HI := Lib.hid hA
  have hc0 : 0 ≤ c := hA.2.2.1
  have hc1 : c ≤ 1 := hA.2.2.2.1
  have hol : o.length = j := hA.1
  have hol2 : (o.length : Int) ≤ 8796093022208 := by omega
  have Hol := Lib.hid hol
  clear hol hA
  by_cases hlt : j < a.length
  · obtain ⟨bx, ox, x, rfl, hbx, hp, hcx⟩ := IntsAt.get1 (ha.below RInt.mono hB) hlt
    have hxb := dig_get da hp.out
    have Hxe := Lib.hid (dg_some hp.out)
    have HBj := Lib.hid (fun W (hW : Below wr.heap.size wr W) => HB.out j W (hB.trans (hW.mono hB.size)))
    have hy := dg_bounds db j
    generalize hye : dg b j = y at HBj hy
    have Hye := Lib.hid hye
    clear hye
    by_cases hneg : x - y - c < 0
    · have s1 : IntKind.i64.wrap (x - y) = x - y := IntWalk.i64_in _ (by omega)
      have s2 : IntKind.i64.wrap (x - y - c) = x - y - c := IntWalk.i64_in _ (by omega)
      have E1 := Lib.hid (minus_step (c' := 1) da db HI.out Hxe.out Hye.out (.inr ⟨hneg, rfl, rfl⟩))
      go_upto_region 6 with fail
      refine wp_region_rel_seq 10 (by kernel_rfl) (by kernel_rfl) (by kernel_rfl) (by kernel_rfl) (by kernel_rfl) ?_
      simp only [List.take_succ_cons, List.take_zero]
      repeat (with_reducible apply rel_is
              · intro wx hx
                have hc := (bcell hx).2.1
                try simp only [List.nil_append, List.cons_append]
                repeat (first | with_reducible refine reads_is ?_ | (with_reducible refine reads_skip ?_ ?_; (· decide +kernel)))
                with_reducible refine reads_nil ?_
                go_simp
                exact ⟨Grows.refl _, rfl⟩)
      apply rel_is (v := I y)
      · intro wx hx
        have hc := (bcell hx).2.1
        try simp only [List.nil_append, List.cons_append]
        repeat (with_reducible refine reads_is ?_)
        with_reducible refine reads_nil ?_
        go_simp
        go_at_call 252
        exact (HBj.out _ hx).mono fun _ _ h => ⟨h.1, h.2 ▸ Grows.refl _⟩
      repeat (with_reducible apply rel_is
              · intro wx hx
                have hc := (bcell hx).2.1
                try simp only [List.nil_append, List.cons_append]
                repeat (first | with_reducible refine reads_is ?_ | (with_reducible refine reads_skip ?_ ?_; (· decide +kernel)))
                with_reducible refine reads_nil ?_
                go_simp
                exact ⟨Grows.refl _, rfl⟩)
      with_reducible refine rel_end ?_
      intro w6 hg6
      simp only [List.nil_append, List.cons_append]
      repeat (with_reducible refine final_is ?_)
      with_reducible refine final_nil ?_
      simp only [List.drop_succ_cons, List.drop_zero]
      go_frame
      have hO := hO.below hg6
      have hB := hB.trans (hg6.mono hB.size)
      go_wp2_with (at_builtin; refine wpList_push w6 (by rfl) _ _ (by rfl) w.heap.size _ o (x - y - c + 1048576) (by rfl) hO (by rfl) hol2 hB.size ?_; intro v2 w2 hO2 hb2 hat2 hsz2)
      go_roundw
      case rel => exact ⟨j + 1, _, _, by omega, by go_num, rfl, hO2, E1.out, hB.trans hb2⟩
      case measure => simp [intOf] <;> omega
    · have s1 : IntKind.i64.wrap (x - y) = x - y := IntWalk.i64_in _ (by omega)
      have s2 : IntKind.i64.wrap (x - y - c) = x - y - c := IntWalk.i64_in _ (by omega)
      have E1 := Lib.hid (minus_step (c' := 0) da db HI.out Hxe.out Hye.out (.inl ⟨by omega, rfl, rfl⟩))
      go_upto_region 6 with fail
      refine wp_region_rel_seq 10 (by kernel_rfl) (by kernel_rfl) (by kernel_rfl) (by kernel_rfl) (by kernel_rfl) ?_
      simp only [List.take_succ_cons, List.take_zero]
      repeat (with_reducible apply rel_is
              · intro wx hx
                have hc := (bcell hx).2.1
                try simp only [List.nil_append, List.cons_append]
                repeat (first | with_reducible refine reads_is ?_ | (with_reducible refine reads_skip ?_ ?_; (· decide +kernel)))
                with_reducible refine reads_nil ?_
                go_simp
                exact ⟨Grows.refl _, rfl⟩)
      apply rel_is (v := I y)
      · intro wx hx
        have hc := (bcell hx).2.1
        try simp only [List.nil_append, List.cons_append]
        repeat (with_reducible refine reads_is ?_)
        with_reducible refine reads_nil ?_
        go_simp
        go_at_call 252
        exact (HBj.out _ hx).mono fun _ _ h => ⟨h.1, h.2 ▸ Grows.refl _⟩
      repeat (with_reducible apply rel_is
              · intro wx hx
                have hc := (bcell hx).2.1
                try simp only [List.nil_append, List.cons_append]
                repeat (first | with_reducible refine reads_is ?_ | (with_reducible refine reads_skip ?_ ?_; (· decide +kernel)))
                with_reducible refine reads_nil ?_
                go_simp
                exact ⟨Grows.refl _, rfl⟩)
      with_reducible refine rel_end ?_
      intro w6 hg6
      simp only [List.nil_append, List.cons_append]
      repeat (with_reducible refine final_is ?_)
      with_reducible refine final_nil ?_
      simp only [List.drop_succ_cons, List.drop_zero]
      go_frame
      have hO := hO.below hg6
      have hB := hB.trans (hg6.mono hB.size)
      go_wp2_with (at_builtin; refine wpList_push w6 (by rfl) _ _ (by rfl) w.heap.size _ o (x - y - c) (by rfl) hO (by rfl) hol2 hB.size ?_; intro v2 w2 hO2 hb2 hat2 hsz2)
      go_roundw
      case rel => exact ⟨j + 1, _, _, by omega, by go_num, rfl, hO2, E1.out, hB.trans hb2⟩
      case measure => simp [intOf] <;> omega
  · obtain rfl : j = a.length := by omega
    obtain ⟨d1, d2⟩ := minus_end HI.out hl Hle.out
    have ht := fun W h => rtrim_any u5 o W h hol2
    rw [trim_digs d1, d2] at ht
    have Ht := Lib.hid ht
    clear ht d2
    have hI := Lib.hid hO.ints
    go_wp2_with (go_at_call 245; refine (Ht.out _ hI.out).mono ?_; rintro e w1 ⟨v1, rfl, ho1, hb1⟩)
    go_ret
    exact ⟨_, rfl, ho1.mono hB.size, hB.trans (hb1.mono hB.size)⟩
set_option maxRecDepth 100000 in
set_option maxHeartbeats 4000000 in
theorem made_any (s : Int) (v : Value) (l : List Int) (w : World) (h : IntsAt w v l) (hl : (l.length : Int) ≤ 8796093022208) : Calls Tryz.prog 215 #[I s, v] w (RetBig w (sgnd s l)) := by
 obtain ⟨A, ca, rfl, hla, hca⟩ := h.shape
 unfold maxLen at hca
 have HT := Lib.hid (rtrim_any (.slice A l.length ca) l _ (h.below RInt.mono (below_alloc w (.cells #[.int .i64 0, .slice none 0 0] 30))) hl)
 go_enter Tryz.func215, Tryz.ntmps215
 go_upto_region 2 with (go_at_call 245; fail)
 go_at_call 245
 refine HT.out.mono ?_
 rintro e w1 ⟨v1, rfl, ho1, hb1⟩
 obtain ⟨hs1, hb1', k0⟩ := boxes1 hb1
 have hs2 : w.heap.size < w1.heap.size := by omega
 have Kr := Lib.hid k0
 obtain ⟨r0, r1, rf⟩ := cells2 k0
 have hu1 := Lib.hid ho1.ints
 have hty := Lib.hid ho1.typed
 obtain ⟨A1, c1, e1, hl1, hc1⟩ := ho1.ints.shape
 subst e1
 unfold maxLen at hc1
 clear ho1 k0
 by_cases he : (trimL l).length = 0
 · have he2 : trimL l = [] := List.eq_nil_of_length_eq_zero he
   have E := Lib.hid (show sgnd s l = zB by unfold sgnd; rw [he2]; rfl)
   clear he2
   go_wp2_with fail
   exact end_cell rfl (by rfl) rfl (set2 Kr.out _ _) Tryz.underlying30 rfl (by kernel_rfl) ⟨_, rfl, by rw [E.out]; exact bigF_zero _, below_set2 hb1' (Nat.le_refl _) _ _⟩
 · have E := Lib.hid (show sgnd s l = ⟨s, trimL l⟩ by unfold sgnd; rw [if_neg (by simpa using fun h => he (by rw [h]; rfl))])
   have hu2 : BigF w1 (.agg #[I s, .slice A1 (trimL l).length c1]) ⟨s, trimL l⟩ := ⟨_, rfl, hu1.out, hty.out⟩
   have HU := Lib.hid hu2
   clear hu2
   go_wp2_with fail
   exact end_cell rfl (by rfl) rfl (set2 Kr.out _ _) Tryz.underlying30 rfl (by kernel_rfl) ⟨_, rfl, by rw [E.out]; exact HU.out.set2 Kr.out (by decide), below_set2 hb1' (Nat.le_refl _) _ _⟩
set_option maxRecDepth 100000 in
set_option maxHeartbeats 8000000 in
theorem Of_pos (m : Nat) (w : World) (h1 : 0 < m) (h2 : (m : Int) ≤ 9223372036854775807) : Calls Tryz.prog 158 #[I (m : Int)] w (RetBig w (ofZ (m : Int))) := by
 have HU := Lib.hid (show sgnd (1) (digs m) = ofZ (m : Int) from sgnd_digs _ (by omega) (.inl rfl))
 have hm0 : ((m : Int) == 0) = false := by simp; omega
 have hm1 : ¬ (m : Int) < 0 := by omega
 go_enter Tryz.func158, Tryz.ntmps158
 go_wp2_with fail
 go_loopw [0, 4, 5] (fun u v _ wr => ∃ (k : Nat) (l : List Int), u = I (k : Int) ∧ k ≤ m ∧ l ++ digs k = digs m ∧ l.length + (digs k).length ≤ 4 ∧ Owns wr (w.heap.size + 1) v l ∧ Below (w.heap.size + 1) (w.alloc (.cells #[I 0, .slice none 0 0] 30)) wr) (fun u _ _ _ => (intOf u).natAbs)
 case atStart => exact ⟨m, [], rfl, Nat.le_refl _, rfl, by
  have : (digs m).length ≤ 4 := length_digs_le (by simp only [bp]; omega)
  simpa using this, Owns.nil _ _, Below.refl _ _⟩
 case round =>
  obtain ⟨k, l, rfl, hk, hl, hl4, hO, hB⟩ := hrel
  have Hl := Lib.hid hl; clear hl
  have hbb : Below w.heap.size w wr := (below_alloc w _).trans (hB.mono (by omega))
  have hsz : w.heap.size < wr.heap.size := by have := hB.size; simp at this; omega
  have kr := (hB.block w.heap.size (by omega)).trans (heap_alloc_new w _)
  have Kr := Lib.hid kr; clear kr
  have hll : (l.length : Int) ≤ 8796093022208 := by omega
  have hk63 : (k : Int) ≤ 9223372036854775807 := by omega
  clear hm0 hm1
  by_cases hk0 : k = 0
  · subst hk0
    have e : l = digs m := by have := Hl.out; rwa [digs_zero, List.append_nil] at this
    subst e
    go_upto_region 99 with (go_at_call 215; fail)
    go_at_call 215
    refine (made_any _ _ _ _ hO.ints hll).mono ?_
    rw [HU.out]
    rintro e w1 ⟨v1, rfl, ho1, hb1⟩
    have kr9 := (hb1.block _ hsz).trans Kr.out
    have Kr9 := Lib.hid kr9
    obtain ⟨r0, r1, rf⟩ := cells2 kr9
    have hu9 := Lib.hid ho1
    obtain ⟨d9, e9, hi9, hty9⟩ := ho1
    obtain ⟨A9, c9, e7, hl9, hc9⟩ := hi9.shape
    subst e7
    subst e9
    clear hi9 hty9 kr9
    have hsz1 : w.heap.size < w1.heap.size := by have := hb1.size; omega
    go_wp2_with fail
    exact end_cell rfl (by rfl) rfl (set2 Kr9.out _ _) Tryz.underlying30 rfl (by kernel_rfl) ⟨_, rfl, hu9.out.set2 Kr9.out (by decide), below_set2 (hbb.trans (hb1.mono hbb.size)) (Nat.le_refl _) _ _⟩
  · have hlen : (digs k).length = (digs (k / 1048576)).length + 1 := by rw [digs_pos hk0]; simp
    have HR := Lib.hid (rest_pos hk0 l)
    have hkb : ((k : Int) == 0) = false := by simp; omega
    have Hlen := Lib.hid hlen; clear hlen
    have Hk0 := Lib.hid hk0; clear hk0
    have hdn : decide (((k : Int) % 1048576) < 0) = false := by simp; omega
    go_wp2_with (at_builtin; refine wpList_push wr (by rfl) _ _ (by rfl) (w.heap.size + 1) _ l ((k : Int) % 1048576) (by rfl) hO (by rfl) hll (by omega) ?_; intro v2 w2 hO2 hb2 hat2 hsz2)
    go_roundw
    case rel =>
     refine ⟨k / 1048576, _, by go_num, by omega, ?_, ?_, hO2, hB.trans hb2⟩
     · rw [← Hl.out, ← HR.out]; simp
     · have := Hlen.out
       rw [List.length_append, List.length_singleton]; omega
    case measure =>
     have := Hk0.out
     simp [intOf] <;> omega
set_option maxRecDepth 100000 in
set_option maxHeartbeats 8000000 in
theorem Of_neg (m : Nat) (w : World) (h1 : 0 < m) (h2 : (m : Int) ≤ 9223372036854775808) : Calls Tryz.prog 158 #[I (-(m : Int))] w (RetBig w (ofZ (-(m : Int)))) := by
 have HU := Lib.hid (show sgnd (-1) (digs m) = ofZ (-(m : Int)) from sgnd_digs _ (by omega) (.inr (.inl rfl)))
 have hm0 : (-(m : Int) == 0) = false := by simp; omega
 have hm1 : -(m : Int) < 0 := by omega
 go_enter Tryz.func158, Tryz.ntmps158
 go_wp2_with fail
 go_loopw [0, 4, 5] (fun u v _ wr => ∃ (k : Nat) (l : List Int), u = I (-(k : Int)) ∧ k ≤ m ∧ l ++ digs k = digs m ∧ l.length + (digs k).length ≤ 4 ∧ Owns wr (w.heap.size + 1) v l ∧ Below (w.heap.size + 1) (w.alloc (.cells #[I 0, .slice none 0 0] 30)) wr) (fun u _ _ _ => (intOf u).natAbs)
 case atStart => exact ⟨m, [], rfl, Nat.le_refl _, rfl, by
  have : (digs m).length ≤ 4 := length_digs_le (by simp only [bp]; omega)
  simpa using this, Owns.nil _ _, Below.refl _ _⟩
 case round =>
  obtain ⟨k, l, rfl, hk, hl, hl4, hO, hB⟩ := hrel
  have Hl := Lib.hid hl; clear hl
  have hbb : Below w.heap.size w wr := (below_alloc w _).trans (hB.mono (by omega))
  have hsz : w.heap.size < wr.heap.size := by have := hB.size; simp at this; omega
  have kr := (hB.block w.heap.size (by omega)).trans (heap_alloc_new w _)
  have Kr := Lib.hid kr; clear kr
  have hll : (l.length : Int) ≤ 8796093022208 := by omega
  have hk63 : (k : Int) ≤ 9223372036854775808 := by omega
  clear hm0 hm1
  by_cases hk0 : k = 0
  · subst hk0
    have e : l = digs m := by have := Hl.out; rwa [digs_zero, List.append_nil] at this
    subst e
    go_upto_region 99 with (go_at_call 215; fail)
    go_at_call 215
    refine (made_any _ _ _ _ hO.ints hll).mono ?_
    rw [HU.out]
    rintro e w1 ⟨v1, rfl, ho1, hb1⟩
    have kr9 := (hb1.block _ hsz).trans Kr.out
    have Kr9 := Lib.hid kr9
    obtain ⟨r0, r1, rf⟩ := cells2 kr9
    have hu9 := Lib.hid ho1
    obtain ⟨d9, e9, hi9, hty9⟩ := ho1
    obtain ⟨A9, c9, e7, hl9, hc9⟩ := hi9.shape
    subst e7
    subst e9
    clear hi9 hty9 kr9
    have hsz1 : w.heap.size < w1.heap.size := by have := hb1.size; omega
    go_wp2_with fail
    exact end_cell rfl (by rfl) rfl (set2 Kr9.out _ _) Tryz.underlying30 rfl (by kernel_rfl) ⟨_, rfl, hu9.out.set2 Kr9.out (by decide), below_set2 (hbb.trans (hb1.mono hbb.size)) (Nat.le_refl _) _ _⟩
  · have hlen : (digs k).length = (digs (k / 1048576)).length + 1 := by rw [digs_pos hk0]; simp
    have HR := Lib.hid (rest_pos hk0 l)
    have hkb : ((-(k : Int)) == 0) = false := by simp; omega
    have Hlen := Lib.hid hlen; clear hlen
    have Hk0 := Lib.hid hk0; clear hk0
    have D1 : (-(k : Int)).tmod 1048576 = -((k : Int) % 1048576) := by rw [Int.neg_tmod, Int.tmod_eq_emod_of_nonneg (by omega)]
    have hmod : 0 ≤ (k : Int) % 1048576 ∧ (k : Int) % 1048576 < 1048576 := by omega
    by_cases hd : (k : Int) % 1048576 = 0
    · have Hd := Lib.hid hd
      rw [hd] at D1
      have h0 : ((k % 1048576 : Nat) : Int) = 0 := by omega
      rw [h0] at HR
      clear hd hmod h0
      go_wp2_with (at_builtin; refine wpList_push wr (by rfl) _ _ (by rfl) (w.heap.size + 1) _ l 0 (by rfl) hO (by rfl) hll (by omega) ?_; intro v2 w2 hO2 hb2 hat2 hsz2)
      go_roundw
      case rel =>
       refine ⟨k / 1048576, _, by go_num, by omega, ?_, ?_, hO2, hB.trans hb2⟩
       · rw [← Hl.out, ← HR.out]; try simp
       · have := Hlen.out
         rw [List.length_append, List.length_singleton]; omega
      case measure =>
       have := Hk0.out
       simp [intOf] <;> omega
    · go_wp2_with (at_builtin; refine wpList_push wr (by rfl) _ _ (by rfl) (w.heap.size + 1) _ l ((k : Int) % 1048576) (by rfl) hO (by rfl) hll (by omega) ?_; intro v2 w2 hO2 hb2 hat2 hsz2)
      go_roundw
      case rel =>
       refine ⟨k / 1048576, _, by go_num, by omega, ?_, ?_, hO2, hB.trans hb2⟩
       · rw [← Hl.out, ← HR.out]; try simp
       · have := Hlen.out
         rw [List.length_append, List.length_singleton]; omega
      case measure =>
       have := Hk0.out
       simp [intOf] <;> omega
theorem ROf_ok (n : Int) (w : World) (h1 : -9223372036854775808 ≤ n) (h2 : n ≤ 9223372036854775807) : Calls Tryz.prog 158 #[I n] w (RetBig w (ofZ n)) := by
 rcases Int.lt_trichotomy n 0 with h | h | h
 · have := Of_neg n.natAbs w (by omega) (by omega)
   rwa [show -(n.natAbs : Int) = n by omega] at this
 · subst h
   go_enter Tryz.func158, Tryz.ntmps158
   have Kr := Lib.hid (heap_alloc_new w (.cells #[I 0, .slice none 0 0] 30))
   go_wp2_with fail
   exact end_cell rfl (by rfl) rfl Kr.out Tryz.underlying30 rfl (by kernel_rfl) ⟨_, rfl, by rw [ofZ_zero]; exact bigF_zero _, below_alloc w _⟩
 · have := Of_pos n.natAbs w (by omega) (by omega)
   rwa [show (n.natAbs : Int) = n by omega] at this
set_option maxRecDepth 100000 in
set_option maxHeartbeats 8000000 in
theorem times_any (va vb : Value) (a b : List Int) (w : World) (ha : IntsAt w va a) (hb : IntsAt w vb b) (da : Dig a) (db : Dig b) (la : (a.length : Int) ≤ 2199023255552) (lb : (b.length : Int) ≤ 2199023255552) :
    Calls Tryz.prog 236 #[va, vb] w (RetDigs w (digs (val a * val b).toNat)) := by
 obtain ⟨A, ca, rfl, hla, hca⟩ := ha.shape
 obtain ⟨B', cb, rfl, hlb, hcb⟩ := hb.shape
 unfold maxLen at hca hcb
 have HB := Lib.hid (fun (k : Nat) W (hW : Below w.heap.size w W) => digit_any (.slice B' b.length cb) b k W (hb.below RInt.mono hW))
 have hmk := fun u => run_make1 (P := Tryz.prog) 28 3 _ _ Tryz.underlying28 info_int rfl (a.length + b.length) (by omega) (by omega) u
 simp only [Int.natCast_add] at hmk
 clear hb
 go_enter Tryz.func236, Tryz.ntmps236
 go_wp2_with fail
 go_loopw [6, 7, 8, 9] (fun i _ _ _ wr => ∃ (j : Nat) (o : List Int), j ≤ a.length ∧ i = I j ∧ IArr wr w.heap.size o ∧ MulInv a b j o ∧ Below w.heap.size w wr) (fun i _ _ _ _ => a.length - (intOf i).toNat)
 case atStart => exact ⟨0, _, by omega, rfl, IArr.made w _, mul_start a b, (Below.refl _ _).alloc (Nat.le_refl _) _⟩
 case round =>
  obtain ⟨j, o, hj, rfl, hI, hA, hB⟩ := hrel
  have HA := Lib.hid hA
  have hol : o.length = a.length + b.length := hA.1
  have hbl := hI.lt
  by_cases hlt : j < a.length
  · have hx : a[j]? = some a[j] := List.getElem?_eq_getElem hlt
    have hxb := dig_get da hx
    generalize a[j] = x at hx hxb
    have Hx := Lib.hid hx
    obtain ⟨W, rfl⟩ : ∃ W : World, W = wr := ⟨_, rfl⟩
    clear hA hx
    have Hol := Lib.hid hol; clear hol
    go_wp2_with fail
    go_loopw [7, 8, 9] (fun c i _ wi => ∃ (k : Nat) (p : List Int) (y : Int), k ≤ b.length + 1 ∧ i = I k ∧ c = I y ∧ IArr wi w.heap.size p ∧ MulIn a b j x k p y ∧ Below w.heap.size w wi) (fun _ i _ _ => b.length + 1 - (intOf i).toNat)
    case atStart => exact ⟨0, o, 0, by omega, rfl, rfl, hI, mul_in x HA.out, hB⟩
    case round =>
     obtain ⟨k, p, c, hk, rfl, rfl, hI2, hA2, hB2⟩ := hrel
     have HA2 := Lib.hid hA2
     have hol2 : p.length = a.length + b.length := hA2.1
     have hy0 : 0 ≤ c := hA2.2.2.1
     have hy1 : c < 1048576 := hA2.2.2.2.1
     have hbl2 := hI2.lt
     by_cases hgo : k < b.length ∨ 0 < c
     · have hkb : k ≤ b.length := by
         rcases hgo with h | h
         · omega
         · exact Nat.le_of_not_lt fun hh => by have := mul_room da db Hx.out hA2 (by omega) h; omega
       have hkj : j + k < a.length + b.length := by omega
       obtain ⟨bx, ox, x2, rfl, hbx, hx2, hcx⟩ := IntsAt.get1 (ha.below RInt.mono hB2) hlt
       have hxx : x2 = x := by
        have h1 := hx2.out
        rw [Hx.out] at h1
        simpa using h1.symm
       rw [hxx] at hcx
       clear hxx hx2
       have hp : p[j + k]? = some p[j + k] := List.getElem?_eq_getElem (by omega)
       generalize p[j + k] = z at hp
       have hcj := hI2.cell hp
       have hfj := hI2.free (j + k)
       have hpb := dig_get hA2.2.1 hp
       have HBj := Lib.hid (fun W (hW : Below wr.heap.size wr W) => HB.out k W (hB2.trans (hW.mono hB2.size)))
       have hyb := dg_bounds db k
       generalize hye : dg b k = y at HBj hyb
       have E1 := Lib.hid (mul_step db hxb hA2 hye hp)
       obtain ⟨m1, m2, m3, m4⟩ := mul_bounds hpb hxb hyb ⟨hy0, hy1⟩
       have s0 : IntKind.i64.wrap ((j : Int) + k) = (j : Int) + k := IntWalk.i64_in _ (by omega)
       have s1 : IntKind.i64.wrap (x * y) = x * y := IntWalk.i64_in _ (by omega)
       have s2 : IntKind.i64.wrap (z + x * y) = z + x * y := IntWalk.i64_in _ (by omega)
       have s3 : IntKind.i64.wrap (z + x * y + c) = z + x * y + c := IntWalk.i64_in _ (by omega)
       have t0 : (0 : Int) ≤ (j : Int) + k := by omega
       have t1 : ((j : Int) + k).toNat = j + k := by omega
       have t2 : (j : Int) + k < (a.length : Int) + b.length := by omega
       have Hk := Lib.hid hk
       have Hkb := Lib.hid hkb
       have Hkj := Lib.hid hkj
       clear hA2 hye hp hk hkb hkj
       have Hol2 := Lib.hid hol2; clear hol2
       have hg : k < b.length ∨ (¬ k < b.length ∧ 0 < c) := by omega
       clear hgo
       rcases hg with hg | ⟨hg, hg2⟩
       · go_upto_region 9 with fail
         refine wp_region_rel_seq 17 (by kernel_rfl) (by kernel_rfl) (by kernel_rfl) (by kernel_rfl) (by kernel_rfl) ?_
         simp only [List.take_succ_cons, List.take_zero]
         repeat (with_reducible apply rel_is
                 · intro wx hx
                   have hc := (bcell hx).2.1
                   try simp only [List.nil_append, List.cons_append]
                   repeat (first | with_reducible refine reads_is ?_ | (with_reducible refine reads_skip ?_ ?_; (· decide +kernel)))
                   with_reducible refine reads_nil ?_
                   go_simp
                   exact ⟨Grows.refl _, rfl⟩)
         apply rel_is (v := I y)
         · intro wx hx
           have hc := (bcell hx).2.1
           try simp only [List.nil_append, List.cons_append]
           repeat (with_reducible refine reads_is ?_)
           with_reducible refine reads_nil ?_
           go_simp
           go_at_call 252
           exact (HBj.out _ hx).mono fun _ _ h => ⟨h.1, h.2 ▸ Grows.refl _⟩
         repeat (with_reducible apply rel_is
                 · intro wx hx
                   have hc := (bcell hx).2.1
                   try simp only [List.nil_append, List.cons_append]
                   repeat (first | with_reducible refine reads_is ?_ | (with_reducible refine reads_skip ?_ ?_; (· decide +kernel)))
                   with_reducible refine reads_nil ?_
                   go_simp
                   exact ⟨Grows.refl _, rfl⟩)
         with_reducible refine rel_end ?_
         intro w6 hg6
         simp only [List.nil_append, List.cons_append]
         repeat (with_reducible refine final_is ?_)
         with_reducible refine final_nil ?_
         simp only [List.drop_succ_cons, List.drop_zero]
         go_frame
         have hcj := (hg6.cell (p := ⟨w.heap.size, j + k, none⟩) hbl2).trans hcj
         have hfj := ((bcell hg6).2.2 w.heap.size (j + k) hbl2).trans hfj
         have hI6 := hI2.keep (hg6.block _ hbl2)
         have hB6 := hB2.trans (hg6.mono hB2.size)
         clear s1 s2 s3
         go_wp2_with fail
         go_roundw
         case rel => exact ⟨k + 1, _, _, by have := Hkb.out; omega, by go_num, rfl, hI6.set (j + k) _, E1.out, hB6.setCell (p := ⟨_, j + k, none⟩) (Nat.le_refl _) _⟩
         case measure =>
          have := Hkb.out
          simp [intOf] <;> omega
       · go_upto_region 9 with fail
         refine wp_region_rel_seq 17 (by kernel_rfl) (by kernel_rfl) (by kernel_rfl) (by kernel_rfl) (by kernel_rfl) ?_
         simp only [List.take_succ_cons, List.take_zero]
         repeat (with_reducible apply rel_is
                 · intro wx hx
                   have hc := (bcell hx).2.1
                   try simp only [List.nil_append, List.cons_append]
                   repeat (first | with_reducible refine reads_is ?_ | (with_reducible refine reads_skip ?_ ?_; (· decide +kernel)))
                   with_reducible refine reads_nil ?_
                   go_simp
                   exact ⟨Grows.refl _, rfl⟩)
         apply rel_is (v := I y)
         · intro wx hx
           have hc := (bcell hx).2.1
           try simp only [List.nil_append, List.cons_append]
           repeat (with_reducible refine reads_is ?_)
           with_reducible refine reads_nil ?_
           go_simp
           go_at_call 252
           exact (HBj.out _ hx).mono fun _ _ h => ⟨h.1, h.2 ▸ Grows.refl _⟩
         repeat (with_reducible apply rel_is
                 · intro wx hx
                   have hc := (bcell hx).2.1
                   try simp only [List.nil_append, List.cons_append]
                   repeat (first | with_reducible refine reads_is ?_ | (with_reducible refine reads_skip ?_ ?_; (· decide +kernel)))
                   with_reducible refine reads_nil ?_
                   go_simp
                   exact ⟨Grows.refl _, rfl⟩)
         with_reducible refine rel_end ?_
         intro w6 hg6
         simp only [List.nil_append, List.cons_append]
         repeat (with_reducible refine final_is ?_)
         with_reducible refine final_nil ?_
         simp only [List.drop_succ_cons, List.drop_zero]
         go_frame
         have hcj := (hg6.cell (p := ⟨w.heap.size, j + k, none⟩) hbl2).trans hcj
         have hfj := ((bcell hg6).2.2 w.heap.size (j + k) hbl2).trans hfj
         have hI6 := hI2.keep (hg6.block _ hbl2)
         have hB6 := hB2.trans (hg6.mono hB2.size)
         clear s1 s2 s3
         go_wp2_with fail
         go_roundw
         case rel => exact ⟨k + 1, _, _, by have := Hkb.out; omega, by go_num, rfl, hI6.set (j + k) _, E1.out, hB6.setCell (p := ⟨_, j + k, none⟩) (Nat.le_refl _) _⟩
         case measure =>
          have := Hkb.out
          simp [intOf] <;> omega
     · have hc2 : c = 0 := by omega
       subst hc2
       have M1 := Lib.hid (mul_out_ref Hx.out hA2 (by omega))
       have hkn : ¬ k < b.length := by omega
       clear hA2 hgo
       have Hol2 := Lib.hid hol2; clear hol2
       go_wp2_with fail
       go_roundw
       case rel => exact ⟨j + 1, _, by omega, by go_num, hI2, M1.out, hB2⟩
       case measure => simp [intOf] <;> omega
  · have e : j = a.length := by omega
    subst e
    obtain ⟨d1, d2⟩ := mul_end hA
    have ht := fun (h : IntsAt wr (.slice (some ⟨w.heap.size, 0, none⟩) o.length o.length) o) => rtrim_any (.slice (some ⟨w.heap.size, 0, none⟩) o.length o.length) o wr h (by omega)
    have hall := hI.all (base := w.heap.size) (Nat.le_refl _) (by rw [hol]; unfold maxLen; omega)
    rw [trim_digs d1, d2] at ht
    have Ht := Lib.hid (ht hall)
    rw [hol] at Ht
    clear d2 hol hall ht
    go_wp2_with (go_at_call 245; refine Ht.out.mono ?_; rintro e w1 ⟨v1, rfl, ho1, hb1⟩)
    go_ret
    exact ⟨_, rfl, ho1.mono hB.size, hB.trans (hb1.mono hB.size)⟩
theorem ints_one (w : World) (x : Int) : IntsAt (w.alloc (.cells #[I x] 3)) (.slice (some ⟨w.heap.size, 0, none⟩) 1 1) [x] := (arr_one w x).all (base := 0) (Nat.zero_le _) (by unfold maxLen; simp)
theorem owns_one (w : World) (x : Int) : Owns (w.alloc (.cells #[I x] 3)) w.heap.size (.slice (some ⟨w.heap.size, 0, none⟩) 1 1) [x] := (arr_one w x).owns (k := 1) (Nat.le_refl _) rfl (by simp) (by unfold maxLen; simp)
theorem digs_cons_val {x : Int} {R : Nat} (hx : 0 ≤ x ∧ x < 1048576) : trimL ([x] ++ digs R) = digs (1048576 * R + x.toNat) := by
 refine trim_digs' (dig_cons.2 ⟨hx, (norm_digs R).1⟩) ?_
 simp only [List.singleton_append, val, val_digs]
 omega
theorem less_digs (x y : Nat) (vx vy : Value) (W : World) (c : Bool) (h : c = decide (x < y)) (h1 : IntsAt W vx (digs x)) (h2 : IntsAt W vy (digs y)) :
    Calls Tryz.prog 224 #[vx, vy] W fun e w' => e = .returned (B c) ∧ W = w' := by
 refine (less_any vx vy _ _ W h1 h2 (norm_digs x).1 (norm_digs y).1).mono ?_
 rintro e w' ⟨rfl, rfl⟩
 rw [h, val_digs, val_digs]
 refine ⟨?_, rfl⟩
 congr 2
 exact decide_eq_decide.2 (by omega)
theorem times_digs (x y : Nat) (l : List Int) (vx vy : Value) (W : World) (hl : val l = y) (dl : Dig l) (h1 : IntsAt W vx (digs x)) (h2 : IntsAt W vy l) (la : ((digs x).length : Int) ≤ 2199023255552) (lb : (l.length : Int) ≤ 2199023255552) :
    Calls Tryz.prog 236 #[vx, vy] W (RetDigs W (digs (x * y))) := by
 have := times_any vx vy _ _ W h1 h2 (norm_digs x).1 dl la lb
 rw [hl, val_digs] at this
 rwa [show ((x : Int) * y).toNat = x * y by rw [← Int.natCast_mul]; rfl] at this
theorem minus_digs (x y : Nat) (vx vy : Value) (W : World) (hle : y ≤ x) (h1 : IntsAt W vx (digs x)) (h2 : IntsAt W vy (digs y)) (la : ((digs x).length : Int) ≤ 4398046511104) :
    Calls Tryz.prog 250 #[vx, vy] W (RetDigs W (digs (x - y))) := by
 have := minus_any vx vy _ _ W h1 h2 (norm_digs x).1 (norm_digs y).1 la (digs_le hle) (by rw [val_digs, val_digs]; omega)
 rw [val_digs, val_digs] at this
 rwa [show ((x : Int) - y).toNat = x - y by omega] at this
theorem Owns.other {w : World} {base : Nat} {v : Value} {l : List Int} (h : Owns w base v l) {g : Nat} (hg : g < base) (i : Nat) (x : Value) : Owns (w.setCell ⟨g, i, none⟩ x) base v l := by
 refine ⟨h.1, ?_⟩
 rcases h.2 with h2 | ⟨b, cap, cur, rfl, hb, hc, rest⟩
 · exact .inl h2
 · exact .inr ⟨b, cap, cur, rfl, hb, by rw [heap_setCell_other w ⟨g, i, none⟩ b x (by simp; omega)]; exact hc, rest⟩
set_option maxRecDepth 100000 in
set_option maxHeartbeats 8000000 in
theorem over_any (n D : Nat) (va vb : Value) (w : World) (ha : IntsAt w va (digs n)) (hb : IntsAt w vb (digs D)) (la : ((digs n).length : Int) ≤ 1099511627776) (lb : ((digs D).length : Int) ≤ 1099511627776) (hD : 0 < D) :
    Calls Tryz.prog 222 #[va, vb] w (RetDiv w (n / D) (n % D)) := by
 obtain ⟨A, ca, rfl, hla, hca⟩ := ha.shape
 obtain ⟨B', cb, rfl, hlb, hcb⟩ := hb.shape
 unfold maxLen at hca hcb
 have hmk := fun u => run_make1 (P := Tryz.prog) 28 3 _ _ Tryz.underlying28 info_int rfl (digs n).length (by omega) (by omega) u
 have hdn := (norm_digs n).1
 have hstart := over_start (digs n) hD
 have Hend := Lib.hid (fun (R : Nat) (q : List Int) (h : OverInv (digs n) D 0 q R) => over_end h)
 have Hstep := Lib.hid (fun (m : Nat) (q : List Int) (R lo : Nat) (x : Int) h hx h1 h2 h3 => over_step (a := digs n) (B := D) (m := m) (q := q) (R := R) (lo := lo) (x := x) hdn h hx h1 h2 h3)
 have HTb := Lib.hid (fun W (hW : Below w.heap.size w W) => hb.below RInt.mono hW)
 have HLR := Lib.hid (fun (R : Nat) (hR : R < D) => digs_le (a := R) (b := D) (by omega))
 clear hb
 generalize hdg : digs n = ad at *
 clear hdg
 go_enter Tryz.func222, Tryz.ntmps222
 go_wp2_with fail
 go_loopw [7, 8, 9, 10, 11] (fun v i _ _ _ wr => ∃ (m : Nat) (o : List Int) (R : Nat), m ≤ ad.length ∧ i = I ((m : Int) - 1) ∧ IArr wr w.heap.size o ∧ OverInv ad D m o R ∧ Owns wr (w.heap.size + 1) v (digs R) ∧ Below w.heap.size w wr) (fun _ i _ _ _ _ => (intOf i + 1).toNat)
 case atStart => exact ⟨ad.length, _, 0, Nat.le_refl _, rfl, IArr.made w _, hstart, by rw [digs_zero]; exact Owns.nil _ _, below_alloc w _⟩
 case round =>
  obtain ⟨m, o, R, hm, rfl, hI, hA, hO, hB⟩ := hrel
  have HA := Lib.hid hA
  have hol : o.length = ad.length := hA.1
  have hRD : R < D := hA.2.2.1
  have hbl := hI.lt
  cases m with
  | zero =>
    obtain ⟨d1, d2, d3⟩ := Hend.out _ _ hA
    have D3 := Lib.hid d3
    have hall := hI.all (base := w.heap.size) (Nat.le_refl _) (by rw [hol]; unfold maxLen; omega)
    have ht := rtrim_any (.slice (some ⟨w.heap.size, 0, none⟩) o.length o.length) o wr hall (by omega)
    rw [trim_digs d1, d2, hol] at ht
    have Ht := Lib.hid ht
    clear d2 d3 hall ht hA
    rw [show ((0 : Nat) : Int) - 1 = -1 from rfl]
    go_wp2_with (go_at_call 245; refine Ht.out.mono ?_; rintro e w1 ⟨v1, rfl, ho1, hb1⟩)
    go_ret2
    exact ⟨_, _, rfl, ho1.mono hB.size, by rw [← D3.out]; exact (hO.below hb1).mono (Nat.le_succ _), hB.trans (hb1.mono hB.size)⟩
  | succ k =>
    obtain ⟨bx, ox, x, rfl, hbx, hx, hcx⟩ := IntsAt.get1 (ha.below RInt.mono hB) (i := k) (by omega)
    have hxb := dig_get hdn hx.out
    have e2 : ((k + 1 : Nat) : Int) - 1 = k := by omega
    have hki : (0 : Int) ≤ (k : Int) := by omega
    have hkl : (k : Int) < (ad.length : Int) := by omega
    have hlR : (((digs R).length : Nat) : Int) ≤ 1099511627776 := by have := HLR.out R hRD; omega
    obtain ⟨S, hS⟩ : ∃ S, S = 1048576 * R + x.toNat := ⟨_, rfl⟩
    have HE := Lib.hid (show trimL ([x] ++ digs R) = digs S by rw [digs_cons_val hxb, hS])
    have hSD : S < D * 1048576 := by omega
    have hS0 := Lib.hid hS
    clear hS
    have hlS : (((digs S).length : Nat) : Int) ≤ 1099511627777 := by
     have h1 : (digs S).length ≤ (digs D).length + 1 := length_digs_le (by
      have := lt_length_digs D
      rw [bp]; omega)
     omega
    have Hol := Lib.hid hol
    have Hm := Lib.hid hm
    clear hA hol hm
    rw [e2]
    clear e2
    have hOi := hO.ints
    obtain ⟨A6, c6, e6, hl6, hc6⟩ := hOi.shape
    subst e6
    have HOi := Lib.hid (hOi.below RInt.mono (below_alloc wr (.cells #[I x] 3)))
    have HO := Lib.hid hO
    unfold maxLen at hc6
    clear hOi hO
    go_upto_region 7 with (first | (at_builtin; refine wpList_cat _ (by rfl) _ _ (by rfl) wr.heap.size _ [x] A6 (digs R).length c6 (digs R) (by rfl) (owns_one wr x) (by rfl) HOi.out (by simp; omega) (by simp) ?_; intro v2 w2 hO2 hb2 hat2) | (go_at_call 245; fail))
    go_at_call 245
    refine (rtrim_any v2 _ w2 hO2.ints (by simp; omega)).mono ?_
    rintro e w3 ⟨v3, rfl, ho3, hb3⟩
    rw [HE.out] at ho3
    have hwr2 : Below wr.heap.size wr w2 := (below_alloc wr _).trans hb2
    have hwr3 := hwr2.trans (hb3.mono hwr2.size)
    have hB3 := hB.trans (hwr3.mono hB.size)
    have hI3 := hI.keep (hwr3.block _ hbl)
    have ho3 : Owns w3 (w.heap.size + 1) v3 (digs S) := ho3.mono (by have := hwr2.size; omega)
    have hbl3 := hI3.lt
    have ho3i := ho3.ints
    obtain ⟨A3, c3, e3, hl3, hc3⟩ := ho3i.shape
    subst e3
    have HO3 := Lib.hid ho3
    clear ho3 ho3i hO2 hb2 hat2 HO hb3 hwr2
    unfold maxLen at hc3
    obtain ⟨wq, rfl⟩ : ∃ wq : World, wq = w3 := ⟨_, rfl⟩
    obtain ⟨W0, rfl⟩ : ∃ W0 : World, W0 = wr := ⟨_, rfl⟩
    go_wp2_with fail
    go_loopw [9, 10, 11] (fun l h _ wr => ∃ (lo hi : Nat), l = I lo ∧ h = I hi ∧ lo < hi ∧ hi ≤ 1048576 ∧ D * lo ≤ S ∧ S < D * hi ∧ Below wq.heap.size wq wr) (fun l h _ _ => (intOf h - intOf l).toNat)
    case atStart => exact ⟨0, 1048576, rfl, rfl, by omega, by omega, by omega, hSD, Below.refl _ _⟩
    case round =>
     obtain ⟨lo, hi, rfl, rfl, hlh, hhi, hlo1, hhi1, hBq⟩ := hrel
     by_cases hgo : (1 : Int) < (hi : Int) - lo
     · have hBr := hB3.trans (hBq.mono hB3.size)
       obtain ⟨mid, hmid⟩ : ∃ mid : Nat, (mid : Int) = ((lo : Int) + hi) / 2 := ⟨(lo + hi) / 2, by omega⟩
       have hm1 : lo < mid := by omega
       have hm2 : mid < hi := by omega
       have hq : ((lo : Int) + hi) / 2 = mid := hmid.symm
       clear hmid
       by_cases hlt : S < D * mid
       · skip
         go_upto_region 98 with (go_at_call 236; fail)
         go_at_call 236
         refine (times_digs D mid [(mid : Int)] _ _ _ (by simp [val]) (dig_cons.2 ⟨by omega, dig_nil⟩) ((HTb.out _ hBr).below RInt.mono (below_alloc wr _)) (ints_one wr mid) (by omega) (by simp)).mono ?_
         rintro e w5 ⟨v5, rfl, ho5, hb5⟩
         have hq5 : Below wq.heap.size wq w5 := (hBq.trans ((below_alloc wr _).mono hBq.size)).trans (hb5.mono (by have := hBq.size; simp; omega))
         obtain ⟨A5, c5, e5, hl5, hc5⟩ := ho5.ints.shape
         subst e5
         have Hi5 := Lib.hid ho5.ints
         clear ho5 hb5
         unfold maxLen at hc5
         go_upto_region 98 with (go_at_call 224; fail)
         go_at_call 224
         refine (less_digs S (D * mid) _ _ w5 true (by symm; simp; omega) (HO3.out.ints.below RInt.mono hq5) Hi5.out).mono ?_
         rintro e w6 ⟨rfl, rfl⟩
         go_wp2_with fail
         go_roundw
         case rel => exact ⟨lo, mid, rfl, by go_num, hm1, by omega, hlo1, hlt, hq5⟩
         case measure => simp [intOf] <;> omega
       · skip
         go_upto_region 98 with (go_at_call 236; fail)
         go_at_call 236
         refine (times_digs D mid [(mid : Int)] _ _ _ (by simp [val]) (dig_cons.2 ⟨by omega, dig_nil⟩) ((HTb.out _ hBr).below RInt.mono (below_alloc wr _)) (ints_one wr mid) (by omega) (by simp)).mono ?_
         rintro e w5 ⟨v5, rfl, ho5, hb5⟩
         have hq5 : Below wq.heap.size wq w5 := (hBq.trans ((below_alloc wr _).mono hBq.size)).trans (hb5.mono (by have := hBq.size; simp; omega))
         obtain ⟨A5, c5, e5, hl5, hc5⟩ := ho5.ints.shape
         subst e5
         have Hi5 := Lib.hid ho5.ints
         clear ho5 hb5
         unfold maxLen at hc5
         go_upto_region 98 with (go_at_call 224; fail)
         go_at_call 224
         refine (less_digs S (D * mid) _ _ w5 false (by symm; simp; omega) (HO3.out.ints.below RInt.mono hq5) Hi5.out).mono ?_
         rintro e w6 ⟨rfl, rfl⟩
         go_wp2_with fail
         go_roundw
         case rel => exact ⟨mid, hi, by go_num, rfl, hm2, hhi, by omega, hhi1, hq5⟩
         case measure => simp [intOf] <;> omega
     · have hhi2 : hi = lo + 1 := by omega
       subst hhi2
       have hBr := hB3.trans (hBq.mono hB3.size)
       have hI4 := hI3.keep (hBq.block _ hbl3)
       have hO4 := HO3.out.below hBq
       obtain ⟨z, hp⟩ : ∃ z, o[k]? = some z := ⟨_, List.getElem?_eq_getElem (show k < o.length by have := Hol.out; omega)⟩
       have hcj := hI4.cell hp
       have hfj := hI4.free k
       have hI5 := hI4.set k lo
       have hO5 := hO4.other (Nat.lt_succ_self _) k (I lo)
       have hB5 := hBr.setCell (p := ⟨w.heap.size, k, none⟩) (Nat.le_refl _) (I lo)
       have E1 := Hstep.out k o R lo x HA.out hx.out (by rw [← hS0.out]; exact hlo1) (by rw [← hS0.out]; exact hhi1) (by omega)
       rw [← hS0.out] at E1
       have E1 := Lib.hid E1
       have hlo2 : lo < 1048576 := by omega
       have hbl5 := hI5.lt
       go_upto_region 98 with (go_at_call 245; fail)
       go_at_call 245
       have hone := ints_one (wr.setCell ⟨w.heap.size, k, none⟩ (I lo)) lo
       rw [show (wr.setCell ⟨w.heap.size, k, none⟩ (I lo)).heap.size = wr.heap.size by simp] at hone
       refine (rtrim_any _ [(lo : Int)] _ hone (by simp)).mono ?_
       rintro e w5 ⟨v5, rfl, ho5, hb5⟩
       rw [digs_small hlo2] at ho5
       have hs5 : Below (wr.setCell ⟨w.heap.size, k, none⟩ (I lo)).heap.size (wr.setCell ⟨w.heap.size, k, none⟩ (I lo)) w5 := (below_alloc _ _).trans (hb5.mono (by simp))
       obtain ⟨A5, c5, e5, hl5, hc5⟩ := ho5.ints.shape
       subst e5
       have Hi5 := Lib.hid ho5.ints
       clear ho5 hb5
       unfold maxLen at hc5
       go_upto_region 98 with (go_at_call 236; fail)
       go_at_call 236
       refine (times_digs D lo (digs lo) _ _ w5 (val_digs lo) (norm_digs lo).1 ((HTb.out _ hB5).below RInt.mono hs5) Hi5.out (by omega) (by have : (digs lo).length ≤ 1 := length_digs_le (by simp only [bp]; omega); omega)).mono ?_
       rintro e w6 ⟨v6, rfl, ho6, hb6⟩
       have hs6 := hs5.trans (hb6.mono hs5.size)
       obtain ⟨A6', c6', e6, hl6', hc6'⟩ := ho6.ints.shape
       subst e6
       have Hi6 := Lib.hid ho6.ints
       clear ho6 hb6
       unfold maxLen at hc6'
       go_upto_region 98 with (go_at_call 250; fail)
       go_at_call 250
       refine (minus_digs S (D * lo) _ _ w6 hlo1 (hO5.ints.below RInt.mono hs6) Hi6.out (by omega)).mono ?_
       rintro e w7 ⟨v7, rfl, ho7, hb7⟩
       have hs7 := hs6.trans (hb7.mono hs6.size)
       go_wp2_with fail
       go_roundw
       case rel => exact ⟨k, _, _, by have := Hm.out; omega, by go_num, hI5.keep (hs7.block _ hbl5), E1.out, ho7.mono (by have := hs6.size; omega), hB5.trans (hs7.mono hB5.size)⟩
       case measure => simp [intOf] <;> omega
end Go.Proofs.YtpkdhmnlpnijhaaGreat
