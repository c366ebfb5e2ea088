/-
  Digits: trim, add, sub, mul, short: the walks.
-/
import Derived.Test.YtiincpioidnciaaGreatRows
import Derived.Test.YtiincpioidnciaaGreatVDigits
import Derived.Test.YtiincpioidnciaaGreatVLib
import Derived.Deep.CutBlock
import Derived.Deep.DeepCutAuto
import Derived.WalkSpells
namespace Go.Proofs.YtiincpioidnciaaGreat
set_option linter.unusedVariables false
set_option linter.unusedSimpArgs false
set_option linter.unusedSectionVars false
open Go.RowKit
def IArr(w:World)(b:Nat)(o:List Int):Prop:=w.heap[b]? =some (.cells (o.map I).toArray 3 (0,0))
theorem IArr.lt{w:World}{b:Nat}{o:List Int}(h:IArr w b o):b<w.heap.size:=(Ya5.1 h).1
theorem IArr.cell{w:World}{b:Nat}{o:List Int}(h:IArr w b o){i:Nat}{x:Int}(hx:o[i]? =some x):w.cell? ⟨b,i,none⟩=some (I x):=by
 rw[cell_of_row w b i _ _ (0,0) h];simp[hx]
theorem IArr.free{w:World}{b:Nat}{o:List Int}(h:IArr w b o)(i:Nat):w.frozen? ⟨b,i,none⟩=false:=frozen_of_row w b i _ _ h
theorem IArr.set{w:World}{b:Nat}{o:List Int}(h:IArr w b o)(i:Nat)(x:Int):IArr (w.setCell ⟨b,i,none⟩ (I x)) b (o.set i x):=by
 unfold IArr
 rw[heap_setCell_same w b i _ _ _ h]
 congr 2
 apply Array.ext'
 simp[List.map_set]
theorem IArr.made(w:World)(n:Nat):IArr (w.alloc (.cells (Array.replicate n (I 0)) 3)) w.heap.size (List.replicate n 0):=by
 unfold IArr
 rw[heap_alloc_new]
 congr 2
 apply Array.ext'
 simp
theorem IArr.keep{w W:World}{b:Nat}{o:List Int}(h:IArr w b o)(hk:W.heap[b]? =w.heap[b]?):IArr W b o:=by unfold IArr;rw[hk];exact h
theorem IArr.alloc{w:World}{b:Nat}{o:List Int}(h:IArr w b o)(x:Obj):IArr (w.alloc x) b o:=h.keep (Below.heap_alloc _ _ _ h.lt)
theorem IArr.below{w W:World}{b B:Nat}{o:List Int}(h:IArr w b o)(hb:Below B w W)(hB:b<B):IArr W b o:=h.keep (hb.block b hB)
def Owns(w:World)(base:Nat)(v:Value)(l:List Int):Prop:=w.ownsRow base 3 1 v l.length (l.map I)
theorem Owns.ints{w:World}{base:Nat}{v:Value}{l:List Int}(h:Owns w base v l):ZaV w v l:=by
 rcases h.2 with⟨rfl,h0⟩|⟨g,cap,cur,rfl,hb,hg,hn,hc,hs,ht⟩
 ·obtain rfl:l=[]:=Ya9 h0
  exact⟨none,0,rfl,Ya4 _,by unfold maxLen;omega,.inl rfl⟩
 ·refine⟨some ⟨g,0,none⟩,cap,rfl,hn,hc,.inr ⟨g,0,rfl,(Ya5.1 hg).1,fun i x hi=>⟨[I x],rfl,rfl,?_⟩⟩⟩
  intro j u hu
  cases j with
  | succ j=>simp at hu
  | zero =>
    simp at hu
    subst hu
    have hl:=(Ya3.1 hi).1
    have:(cur.toList.take (l.length*1))[i]? =some (I x):=by rw[ht];simp[hi]
    rw[List.getElem?_take_of_lt (by omega)]at this
    rw[show 0+i*1+0=i by omega,cell_of_row w g i _ _ (0,0) hg]
    simpa using this
theorem IArr.owns{w:World}{b base k:Nat}{o l:List Int}(h:IArr w b o)(hb:base≤b)(hl:l=o.take k)(hk:k≤o.length)(hm:o.length≤maxLen):Owns w base (.slice (some ⟨b,0,none⟩) l.length o.length) l:=by
 subst hl
 have e:(o.take k).length=k:=by simp;omega
 unfold Owns
 rw[e]
 refine⟨by simp;omega,.inr ⟨b,o.length,_,rfl,hb,h,hk,hm,by simp,?_⟩⟩
 simp[List.map_take]
theorem IArr.all{w:World}{b base:Nat}{o:List Int}(h:IArr w b o)(hb:base≤b)(hm:o.length≤maxLen):ZaV w (.slice (some ⟨b,0,none⟩) o.length o.length) o :=
 (h.owns (base:=base) (l:=o) hb (Yc2).symm (Ya4 _) hm).ints
attribute [local go_sem] ZcU Zea
attribute [local go_sem] ZcU Zea
theorem Owns.row{w:World}{base:Nat}{v:Value}{l:List Int}(h:Owns w base v l):∀ k,v.ownBlock=some k→base≤k:=fun k hk=>(World.ownsRow.lt h k hk).1
theorem Owns.alloc{w:World}{base:Nat}{v:Value}{l:List Int}(h:Owns w base v l)(o:Obj):Owns (w.alloc o) base v l:=World.ownsRow.alloc h o
theorem Owns.nil(w:World)(base:Nat):Owns w base (.slice none 0 0) []:=World.ownsRow_nil w base _ _
theorem Owns.mono{w:World}{base b':Nat}{v:Value}{l:List Int}(h:Owns w base v l)(hb:b'≤base):Owns w b' v l:=by
 refine⟨h.1,?_⟩
 rcases h.2 with h2|⟨g,cap,cur,rfl,hb2,rest⟩
 ·exact .inl h2
 ·exact .inr ⟨g,cap,cur,rfl,Yc7 hb hb2,rest⟩
theorem Owns.keep{w W:World}{base B:Nat}{v:Value}{l:List Int}(h:Owns w base v l)(hb:Below B w W)(hk:∀ k,v.ownBlock=some k→k<B):Owns W base v l:=by
 refine⟨h.1,?_⟩
 rcases h.2 with h2|⟨g,cap,cur,rfl,hb2,hg,rest⟩
 ·exact .inl h2
 ·exact .inr ⟨g,cap,cur,rfl,hb2,by rw[hb.block g (hk g rfl)];exact hg,rest⟩
theorem Owns.below{w W:World}{base:Nat}{v:Value}{l:List Int}(h:Owns w base v l)(hb:Below w.heap.size w W):Owns W base v l:=h.keep hb fun k hk=>(World.ownsRow.lt h k hk).2
theorem Src.alloc{w:World}{A:Option Addr}{m size:Nat}{news:List Value}(h:Src w A m size news)(o:Obj):Src (w.alloc o) A m size news:=h.kept fun k hk=>Below.heap_alloc w o k hk
section
variable {w:World} {base g n cap:Nat} {l:List Int}
theorem Owns.len(h:Owns w base (.slice (some ⟨g,0,none⟩) n cap) l):l.length=n∧w.ownsRow base 3 1 (.slice (some ⟨g,0,none⟩) n cap) n (l.map I):=by
 have e:l.length=n:=by
  rcases h.2 with⟨h2,_⟩|⟨g',cap',cur,h2,_⟩
  ·cases h2
  ·simp only[Value.slice.injEq]at h2;exact h2.2.1.symm
 exact⟨e,e▸h⟩
theorem Owns.cell(h:Owns w base (.slice (some ⟨g,0,none⟩) n cap) l){j:Nat}{x:Int}(hx:l[j]? =some x):w.cell? ⟨g,j,none⟩=some (I x):=by
 obtain⟨e,h2⟩:=h.len
 rw[h2.cellAt j (by have:=(Ya3.1 hx).1;omega)];simp[hx]
theorem Owns.free(h:Owns w base (.slice (some ⟨g,0,none⟩) n cap) l)(j:Nat):w.frozen? ⟨g,j,none⟩=false:=h.len.2.frozenAt j
theorem Owns.set(h:Owns w base (.slice (some ⟨g,0,none⟩) n cap) l)(j:Nat)(x:Int):Owns (w.setCell ⟨g,j,none⟩ (I x)) base (.slice (some ⟨g,0,none⟩) n cap) (l.set j x):=by
 obtain⟨e,h2⟩:=h.len
 have:=(h2.stored j (I x)).1
 unfold Owns
 rw[List.length_set,e,List.map_set];exact this
theorem Owns.take(h:Owns w base (.slice (some ⟨g,0,none⟩) n cap) l){k:Nat}{m:List Int}(hm:m=l.take k)(hk:k≤l.length):Owns w base (.slice (some ⟨g,0,none⟩) m.length cap) m:=by
 subst hm
 obtain⟨e,h2⟩:=h.len
 have e2:(l.take k).length=k:=by simp;omega
 rcases h2.2 with⟨h3,_⟩|⟨g',cap',cur,h3,hb,hg,hn,hm,hs,ht⟩
 ·cases h3
 ·simp only[Value.slice.injEq,Ya1,Addr.mk.injEq,and_true,true_and]at h3
  obtain⟨rfl,rfl⟩:=h3
  refine⟨by simp,.inr ⟨g,cap,cur,by rw[e2],hb,hg,by omega,hm,hs,?_⟩⟩
  rw[e2,List.map_take,← ht,List.take_take,Nat.min_eq_left (by omega)];simp
end
theorem Zba{w W:World}{g:Nat}{v:Value}{l:List Int}(h:ZaV w v l)(hg:w.grownBy W (some g))(hne:∀ k,v.ownBlock=some k→k≠g):ZaV W v l:=by
 obtain⟨a,cap,hv,hl,hc,h⟩:=h
 refine⟨a,cap,hv,hl,hc,?_⟩
 rcases h with h|⟨b,off,ha,hlt,hx⟩
 ·exact .inl h
 ·subst ha hv
  have hb:=hne b rfl
  refine .inr ⟨b,off,rfl,Nat.lt_of_lt_of_le hlt hg.size,fun i x hi=>?_⟩
  obtain⟨cs,hr,hs,hj⟩:=hx i x hi
  exact⟨cs,hr,hs,fun j u hu=>(hgcell hg hlt hb).trans (hj j u hu)⟩
where hgcell {w W:World} {g b o:Nat} (hg:w.grownBy W (some g)) (hlt:b<w.heap.size) (hb:b≠g):W.cell? ⟨b,o,none⟩=w.cell? ⟨b,o,none⟩ :=
 World.cell?_of_block (hg.block b hlt (fun e=>hb (Option.some.inj e)))
theorem ZdO{w W:World}{g i:Nat}{x:Value}(h:w.grownBy W (some g)):w.grownBy (W.setCell ⟨g,i,none⟩ x) (some g):=by
 refine⟨h.os,h.tape,h.output,by simpa[World.setCell]using h.size,fun k hk hne=>?_⟩
 rw[heap_setCell_other W ⟨g,i,none⟩ k x (fun e=>hne (congrArg some e))]
 exact h.block k hk hne
theorem Owns.grown{w W:World}{base g:Nat}{v:Value}{l:List Int}(h:Owns w base v l)(hg:w.grownBy W (some g))(hne:∀ k,v.ownBlock=some k→k≠g):Owns W base v l:=by
 refine⟨h.1,?_⟩
 rcases h.2 with h2|⟨b,cap,cur,rfl,hb2,hg2,rest⟩
 ·exact .inl h2
 ·exact .inr ⟨b,cap,cur,rfl,hb2,by rw[hg.block b (Ya5.1 hg2).1 (fun e=>hne b rfl (Option.some.inj e))];exact hg2,rest⟩
theorem IArr.grown{w W:World}{b g:Nat}{o:List Int}(h:IArr w b o)(hg:w.grownBy W (some g))(hne:b≠g):IArr W b o:=h.keep (hg.block b h.lt (fun e=>hne (Option.some.inj e)))
theorem Zbs{w:World}{g i:Nat}{x:Value}:w.grownBy (w.setCell ⟨g,i,none⟩ x) (some g):=ZdO (World.grownBy.refl w _)
def BigV(w:World)(v:Value)(x:BigD):Prop:=∃ d,v = .agg #[I x.s,d]∧ZaV w d x.d
theorem BigV.below{w W:World}{v:Value}{x:BigD}(h:BigV w v x)(hb:Below w.heap.size w W):BigV W v x:=by
 obtain⟨d,rfl,h⟩:=h
 exact⟨d,rfl,h.below RInt.mono hb⟩
theorem BigV.mono(x:BigD):∀ w w' v,ZaG w w'→BigV w v x→BigV w' v x:=fun _ _ _ hg h=>h.below hg
def Zbz(w:World)(d:Value):Prop:=∀ k,d.ownBlock=some k→∃ cs fr,w.heap[k]? =some (.cells cs 3 fr)
theorem Zbz.below{w W:World}{d:Value}(h:Zbz w d)(hb:Below w.heap.size w W):Zbz W d:=by
 intro k hk
 obtain⟨cs,fr,hc⟩:=h k hk
 exact⟨cs,fr,by rw[hb.block k (Ya5.1 hc).1];exact hc⟩
theorem Zbz.nil(w:World):Zbz w (.slice none 0 0):=fun k hk=>by cases hk
def BigF(w:World)(v:Value)(x:BigD):Prop:=∃ d,v = .agg #[I x.s,d]∧ZaV w d x.d∧Zbz w d
theorem BigF.below{w W:World}{v:Value}{x:BigD}(h:BigF w v x)(hb:Below w.heap.size w W):BigF W v x:=by
 obtain⟨d,rfl,h1,h2⟩:=h
 exact⟨d,rfl,h1.below RInt.mono hb,h2.below hb⟩
theorem BigF.mono(x:BigD):∀ w w' v,ZaG w w'→BigF w v x→BigF w' v x:=fun _ _ _ hg h=>h.below hg
theorem Zbi{w:World}{d x:Value}{g i:Nat}{cs:Array Value}{T:TypeId}{fr:Nat×Nat}(h:Zbz w d)(hg:w.heap[g]? =some (.cells cs T fr))(hT:T≠3):Zbz (w.setCell ⟨g,i,none⟩ x) d∧∀ k,d.ownBlock=some k→k≠g:=by
 have hne:∀ k,d.ownBlock=some k→k≠g:=by
  intro k hk e
  subst e
  obtain⟨cs',fr',hc⟩:=h k hk
  rw[hg]at hc
  simp only[Ya1,Obj.cells.injEq]at hc
  exact hT hc.2.1
 refine⟨fun k hk=>?_,hne⟩
 obtain⟨cs',fr',hc⟩:=h k hk
 exact⟨cs',fr',by rw[heap_setCell_other w ⟨g,i,none⟩ k x (hne k hk)];exact hc⟩
theorem BigF.set{w:World}{v u:Value}{x:BigD}{g i:Nat}{cs:Array Value}{T:TypeId}{fr:Nat×Nat}(h:BigF w v x)(hg:w.heap[g]? =some (.cells cs T fr))(hT:T≠3):BigF (w.setCell ⟨g,i,none⟩ u) v x:=by
 obtain⟨d,rfl,h1,h2⟩:=h
 obtain⟨h3,hne⟩:=Zbi (i:=i) (x:=u) h2 hg hT
 exact⟨d,rfl,Zba h1 Zbs hne,h3⟩
def BigE(w:World)(v:Value)(x:BigD)(e:Int):Prop:=∃ u,v = .tuple #[u,I e]∧BigF w u x
theorem BigE.mono(x:BigD)(e:Int):∀ w w' v,ZaG w w'→BigE w v x e→BigE w' v x e:=fun _ _ _ hg ⟨u,hv,h⟩=>⟨u,hv,h.below hg⟩
attribute [local go_sem] ZdB ZdC Zbm
end Go.Proofs.YtiincpioidnciaaGreat
