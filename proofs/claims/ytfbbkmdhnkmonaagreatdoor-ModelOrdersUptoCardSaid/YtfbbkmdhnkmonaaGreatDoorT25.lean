/- Proved, each under the conditions that it names: Lists of Lean, lists of lists of numbers, under way; The order of docketref18, plain: what hangs on what, and the marks of what is placed; docketref18: order. -/
import Derived.Test.YtfbbkmdhnkmonaaGreatDoorT24
set_option maxRecDepth 100000
set_option maxHeartbeats 32000000
namespace Go.Proofs.YtfbbkmdhnkmonaaGreatDoor
open Go.RowKit
abbrev leanDs (x:LeanD):List D:=[.atom (.int .u8 x.on),.atom (.string x.name),.atom (.string x.cond),.atom (.int .i64 x.inn),flatL 1 intC x.stages,flatL 1 intC x.stones]
abbrev rowDs (xs:List Int):List D:=[flatL 1 intC xs]
theorem elemLean:Elem Tryz.prog 103 69 6 96:=⟨Tryz.underlying103,⟨.agg #[.int .u8 0,.string ⟨#[]⟩,.string ⟨#[]⟩,.int .i64 0,.slice none 0 0,.slice none 0 0],by kernel_rfl,rfl⟩,by omega,Tryz.sizeOf69⟩
theorem elemRow:Elem Tryz.prog 104 67 1 24:=⟨Tryz.underlying104,⟨.slice none 0 0,by kernel_rfl,rfl⟩,by omega,Tryz.sizeOf67⟩
def LX (W:World) (B:Nat) (va:Option Addr) (vc L:Nat) (xs:List LeanD):Prop:=L=xs.length/\∃vs,LM W B 69 6 va vc (xs.map leanDs) vs
def LH (W:World) (B:Nat) (va:Option Addr) (vc L:Nat) (xs:List (List Int)):Prop:=L=xs.length/\∃vs,LM W B 67 1 va vc (xs.map rowDs) vs
theorem LX.nil (W:World) (B:Nat):LX W B none 0 0 []:=⟨rfl,[],LM.nil W B _ 6⟩
theorem LH.nil (W:World) (B:Nat):LH W B none 0 0 []:=⟨rfl,[],LM.nil W B _ 1⟩
theorem LX.below {W W':World} {B:Nat} {va:Option Addr} {vc L:Nat} {xs:List LeanD} (h:LX W B va vc L xs) (hb:Below W.heap.size W W'):LX W' B va vc L xs:=⟨h.1,h.2.imp fun _ k=>k.below hb⟩
theorem LH.below {W W':World} {B:Nat} {va:Option Addr} {vc L:Nat} {xs:List (List Int)} (h:LH W B va vc L xs) (hb:Below W.heap.size W W'):LH W' B va vc L xs:=⟨h.1,h.2.imp fun _ k=>k.below hb⟩
theorem below_drew (W:World):Below W.heap.size W W.drew:=(Below.refl _ _).drew
theorem below_alloc (W:World) (o:Obj):Below W.heap.size W (W.alloc o):=(Below.refl _ _).alloc (Nat.le_refl _) o
theorem own_lt {W:World} {B k:Nat} {E:TypeId} {va:Option Addr} {vc L:Nat} {vs:List Value} (h:Own W B E k va vc L vs):∀j,blockOf va=some j->B<=j/\j<W.heap.size:=fun j hj=>by
 rcases h.block with ⟨h1,_⟩ | ⟨g,h1,h2,h3,_⟩
 ·rw [h1] at hj;cases hj
 rw [h1] at hj;cases hj;exact ⟨h2,h3⟩
theorem LX.lt {W:World} {B:Nat} {va:Option Addr} {vc L:Nat} {xs:List LeanD} (h:LX W B va vc L xs):∀j,blockOf va=some j->B<=j/\j<W.heap.size:=by
 obtain ⟨-,vs,hv⟩:=h
 exact own_lt hv.own
theorem LH.lt {W:World} {B:Nat} {va:Option Addr} {vc L:Nat} {xs:List (List Int)} (h:LH W B va vc L xs):∀j,blockOf va=some j->B<=j/\j<W.heap.size:=by
 obtain ⟨-,vs,hv⟩:=h
 exact own_lt hv.own
theorem LX.snoc {W:World} {B lo:Nat} {va:Option Addr} {vc L:Nat} {xs:List LeanD} (x:LeanD) {sa ta:Option Addr} {sn sc tn tc:Nat} (h:LX W B va vc L xs) (hB:B<=W.heap.size) (hlo:∀j,blockOf va=some j->j<lo) (hS:IntsM lo W (.slice sa sn sc) x.stages) (hT:IntsM lo W (.slice ta tn tc) x.stones) (hl:L<=4000) :
  ∃va' vc' w',(Builtin.append_ #[103,103] 103 #[.slice va L vc,.slice (some ⟨W.heap.size,0,none⟩) 1 1]).run Tryz.prog (W.alloc (.cells #[.int .u8 x.on,.string x.name,.string x.cond,.int .i64 x.inn,.slice sa sn sc,.slice ta tn tc] 69))=.ok (.slice va' (L+1) vc') w'/\LX w' B va' vc' (L+1) (xs++[x])/\(W.alloc (.cells #[.int .u8 x.on,.string x.name,.string x.cond,.int .i64 x.inn,.slice sa sn sc,.slice ta tn tc] 69)).grownBy w' (blockOf va):=by
 obtain ⟨rfl,vs,hv⟩:=h
 have hA:=Arr.new W [.int .u8 x.on,.string x.name,.string x.cond,.int .i64 x.inn,.slice sa sn sc,.slice ta tn tc] 69
 obtain ⟨W2,hW2⟩:∃W2,W.alloc (.cells #[.int .u8 x.on,.string x.name,.string x.cond,.int .i64 x.inn,.slice sa sn sc,.slice ta tn tc] 69)=W2:=⟨_,rfl⟩
 have hb:Below W.heap.size W W2:=hW2▸below_alloc W _
 have hA2:Arr W2 W.heap.size 69 [.int .u8 x.on,.string x.name,.string x.cond,.int .i64 x.inn,.slice sa sn sc,.slice ta tn tc]:=hW2▸hA
 rw [hW2]
 have hS2:Mem false (fun b=>some b≠blockOf va) W2 (flatL 1 intC x.stages) (.slice sa sn sc):=(hS.grow hb).weak fun b hp _ e=>by
  have h1:=hlo b e.symm
  have h2:lo<=b:=hp
  omega
 have hT2:Mem false (fun b=>some b≠blockOf va) W2 (flatL 1 intC x.stones) (.slice ta tn tc):=(hT.grow hb).weak fun b hp _ e=>by
  have h1:=hlo b e.symm
  have h2:lo<=b:=hp
  omega
 obtain ⟨va',vc',w',hap,hL,hg⟩:=LM.app elemLean 103 (hv.below hb) (Nat.le_trans hB hb.size) W.heap.size 0 1 [.int .u8 x.on,.string x.name,.string x.cond,.int .i64 x.inn,.slice sa sn sc,.slice ta tn tc] (leanDs x) rfl rfl (fun j u hj=>by
  have hj6:j<6:=lt_of_some hj
  have:=hA2.cell (j:=j) hj6
  rw [List.getElem?_eq_getElem hj6] at hj
  injection hj with hj
  rw [Nat.zero_add,this,hj]) (fun u hu=>by
  simp only [List.mem_cons,List.not_mem_nil,or_false] at hu
  rcases hu with rfl | rfl | rfl | rfl | rfl | rfl<;>rfl)
  (.cons (.atom _) (.cons (.atom _) (.cons (.atom _) (.cons (.atom _) (.cons hS2 (.cons hT2 (.nil _ _ _))))))) (by rw [List.length_map];unfold maxLen;omega) (by rw [List.length_map];omega)
 simp only [List.length_append,List.length_map,List.length_cons,List.length_nil,Nat.zero_add] at hap
 exact ⟨va',vc',w',hap,⟨by simp,_,by simpa using hL⟩,hg⟩
theorem LH.snoc {W:World} {B lo:Nat} {va:Option Addr} {vc L:Nat} {xs:List (List Int)} (x:List Int) {sa:Option Addr} {sn sc:Nat} (h:LH W B va vc L xs) (hB:B<=W.heap.size) (hlo:∀j,blockOf va=some j->j<lo) (hS:IntsM lo W (.slice sa sn sc) x) (hl:L<=4000) :
  ∃va' vc' w',(Builtin.append_ #[104,104] 104 #[.slice va L vc,.slice (some ⟨W.heap.size,0,none⟩) 1 1]).run Tryz.prog (W.alloc (.cells #[.slice sa sn sc] 67))=.ok (.slice va' (L+1) vc') w'/\LH w' B va' vc' (L+1) (xs++[x])/\(W.alloc (.cells #[.slice sa sn sc] 67)).grownBy w' (blockOf va):=by
 obtain ⟨rfl,vs,hv⟩:=h
 have hA:=Arr.new W [.slice sa sn sc] 67
 obtain ⟨W2,hW2⟩:∃W2,W.alloc (.cells #[.slice sa sn sc] 67)=W2:=⟨_,rfl⟩
 have hb:Below W.heap.size W W2:=hW2▸below_alloc W _
 have hA2:Arr W2 W.heap.size 67 [.slice sa sn sc]:=hW2▸hA
 rw [hW2]
 have hS2:Mem false (fun b=>some b≠blockOf va) W2 (flatL 1 intC x) (.slice sa sn sc):=(hS.grow hb).weak fun b hp _ e=>by
  have h1:=hlo b e.symm
  have h2:lo<=b:=hp
  omega
 obtain ⟨va',vc',w',hap,hL,hg⟩:=LM.app elemRow 104 (hv.below hb) (Nat.le_trans hB hb.size) W.heap.size 0 1 [.slice sa sn sc] (rowDs x) rfl rfl (fun j u hj=>by
  have hj6:j<1:=lt_of_some hj
  have:=hA2.cell (j:=j) hj6
  rw [List.getElem?_eq_getElem hj6] at hj
  injection hj with hj
  rw [Nat.zero_add,this,hj]) (fun u hu=>by rw [List.mem_singleton.1 hu];rfl)
  (.cons hS2 (.nil _ _ _)) (by rw [List.length_map];unfold maxLen;omega) (by rw [List.length_map];omega)
 simp only [List.length_append,List.length_map,List.length_cons,List.length_nil,Nat.zero_add] at hap
 exact ⟨va',vc',w',hap,⟨by simp,_,by simpa using hL⟩,hg⟩
theorem LX.at {W:World} {B:Nat} {va:Option Addr} {vc L:Nat} {xs:List LeanD} (h:LX W B va vc L xs) {m:Nat} (hm:m<xs.length) :
  ∃g sa sn sc ta tn tc,va=some ⟨g,0,none⟩/\B<=g/\g<W.heap.size/\IntsM 0 W (.slice sa sn sc) (xs[m]'hm).stages/\IntsM 0 W (.slice ta tn tc) (xs[m]'hm).stones /\
  W.cell? ⟨g,m*6,none⟩=some (.int .u8 (xs[m]'hm).on)/\W.cell? ⟨g,m*6+1,none⟩=some (.string (xs[m]'hm).name)/\W.cell? ⟨g,m*6+2,none⟩=some (.string (xs[m]'hm).cond)/\W.cell? ⟨g,m*6+3,none⟩=some (.int .i64 (xs[m]'hm).inn)/\W.cell? ⟨g,m*6+4,none⟩=some (.slice sa sn sc)/\W.cell? ⟨g,m*6+5,none⟩=some (.slice ta tn tc):=by
 obtain ⟨rfl,vs,hv⟩:=h
 obtain ⟨g,h1,h2,h3,us,h4,h5,h6⟩:=hv.cells (j:=m) (by rw [List.length_map];exact hm)
 rw [List.getElem_map] at h6
 obtain ⟨a,us,rfl,k0,h6⟩:=h6.inv
 obtain ⟨b,us,rfl,k1,h6⟩:=h6.inv
 obtain ⟨c,us,rfl,k2,h6⟩:=h6.inv
 obtain ⟨d,us,rfl,k3,h6⟩:=h6.inv
 obtain ⟨e,us,rfl,k4,h6⟩:=h6.inv
 obtain ⟨f,us,rfl,k5,h6⟩:=h6.inv
 obtain rfl:=h6.inv0
 obtain rfl:=k0.atomInv
 obtain rfl:=k1.atomInv
 obtain rfl:=k2.atomInv
 obtain rfl:=k3.atomInv
 obtain ⟨sa,sc,_,_,rfl,-,-⟩:=flat_open k4
 obtain ⟨ta,tc,_,_,rfl,-,-⟩:=flat_open k5
 exact ⟨g,sa,_,sc,ta,_,tc,h1,h2,h3,k4,k5,h5 0 _ rfl,h5 1 _ rfl,h5 2 _ rfl,h5 3 _ rfl,h5 4 _ rfl,h5 5 _ rfl⟩
theorem LH.at {W:World} {B:Nat} {va:Option Addr} {vc L:Nat} {xs:List (List Int)} (h:LH W B va vc L xs) {m:Nat} (hm:m<xs.length) :
  ∃g sa sc,va=some ⟨g,0,none⟩/\B<=g/\g<W.heap.size/\IntsM 0 W (.slice sa (xs[m]'hm).length sc) (xs[m]'hm)/\W.cell? ⟨g,m,none⟩=some (.slice sa (xs[m]'hm).length sc):=by
 obtain ⟨rfl,vs,hv⟩:=h
 obtain ⟨g,h1,h2,h3,us,h4,h5,h6⟩:=hv.cells (j:=m) (by rw [List.length_map];exact hm)
 rw [List.getElem_map] at h6
 obtain ⟨a,us,rfl,k0,h6⟩:=h6.inv
 obtain rfl:=h6.inv0
 obtain ⟨sa,sc,_,_,rfl,-,-⟩:=flat_open k0
 have c:=h5 0 _ rfl
 rw [Nat.mul_one,Nat.add_zero] at c
 exact ⟨g,sa,sc,h1,h2,h3,k0,c⟩
structure LeanOk (md:ModelD) (a:Pl) (x:LeanD):Prop where
 sen:∃s,senAt md a=some s/\LeanOf md a s x
 inn:-1<=x.inn/\x.inn<md.stages.length
 st:∀i∈x.stages,-1<=i/\i<md.stages.length
 l6:x.stages.length<=60000
 l7:x.stones.length<=60000
theorem LeanOk.leans {md:ModelD} {a:Pl} {x:LeanD} (h:LeanOk md a x) (b:Pl):onX md x b=leansB md a b:=by
 obtain ⟨s,hs,hl⟩:=h.sen
 rw [onX_eq hl,leansB,hs]
theorem leanOf_inn {md:ModelD} {a:Pl} {s:SentryD} {x:LeanD} (hi:InOk md) (ha:a.1=1->0<=a.2.1/\a.2.1<md.stages.length) (h:LeanOf md a s x):-1<=x.inn/\x.inn<md.stages.length:=by
 rw [h.inn]
 by_cases h1:a.1=1
 ·obtain ⟨h2,h3⟩:=ha h1
  have h4:a.2.1.toNat<md.stages.length:=by omega
  rw [if_pos h1,List.getElem?_eq_getElem h4]
  have:=hi _ h4
  show -1<=md.stages[a.2.1.toNat].inn/\_
  refine ⟨this.1,?_⟩
  show md.stages[a.2.1.toNat].inn<_
  omega
 rw [if_neg h1];omega
noncomputable def leanAt (md:ModelD) (i k:Nat):Bool:=match (placesL md)[i]?,(placesL md)[k]? with
 | some a,some b=>leansB md a b
 | _,_=>false
theorem leanAt_eq {md:ModelD} {i k:Nat} (hi:i<(placesL md).length) (hk:k<(placesL md).length):leanAt md i k=leansB md (placesL md)[i] (placesL md)[k]:=by
 unfold leanAt
 rw [List.getElem?_eq_getElem hi,List.getElem?_eq_getElem hk]
noncomputable def hangTo (md:ModelD) (i n:Nat):List Int:=((List.range n).filter (leanAt md i)).map (fun k:Nat=>(k:Int))
theorem hangTo_zero (md:ModelD) (i:Nat):hangTo md i 0=[]:=rfl
theorem hangTo_yes {md:ModelD} {i n:Nat} (h:leanAt md i n=true):hangTo md i (n+1)=hangTo md i n++[(n:Int)]:=by
 unfold hangTo
 rw [List.range_succ,List.filter_append,List.map_append]
 simp [h]
theorem hangTo_no {md:ModelD} {i n:Nat} (h:leanAt md i n=false):hangTo md i (n+1)=hangTo md i n:=by
 unfold hangTo
 rw [List.range_succ,List.filter_append,List.map_append]
 simp [h]
theorem hangTo_len (md:ModelD) (i n:Nat):(hangTo md i n).length<=n:=by
 unfold hangTo
 rw [List.length_map]
 exact Nat.le_trans (List.length_filter_le _ _) (by simp)
theorem hangTo_at {md:ModelD} {i n j:Nat} (h:j<(hangTo md i n).length):∃k:Nat,k<n/\(hangTo md i n)[j]=(k:Int)/\leanAt md i k=true:=by
 have hm:=List.getElem_mem h
 unfold hangTo at hm
 obtain ⟨k,hk,he⟩:=List.mem_map.1 hm
 obtain ⟨h1,h2⟩:=List.mem_filter.1 hk
 exact ⟨k,List.mem_range.1 h1,he.symm,h2⟩
noncomputable def rowsTo (md:ModelD) (n m:Nat):List (List Int):=(List.range m).map fun i=>hangTo md i n
theorem rowsTo_zero (md:ModelD) (n:Nat):rowsTo md n 0=[]:=rfl
theorem rowsTo_succ (md:ModelD) (n m:Nat):rowsTo md n m++[hangTo md m n]=rowsTo md n (m+1):=by
 unfold rowsTo
 rw [List.range_succ,List.map_append];rfl
theorem rowsTo_len (md:ModelD) (n m:Nat):(rowsTo md n m).length=m:=by simp [rowsTo]
theorem rowsTo_at (md:ModelD) {n m i:Nat} (h:i<(rowsTo md n m).length):(rowsTo md n m)[i]=hangTo md i n:=by simp [rowsTo]
def marksOf (L out:List Pl):List Bool:=L.map fun p=>decide (p∈out)
theorem marksOf_len (L out:List Pl):(marksOf L out).length=L.length:=by simp [marksOf]
theorem marksOf_at {L out:List Pl} {j:Nat} (h:j<L.length):(marksOf L out)[j]'(by rw [marksOf_len];exact h)=decide (L[j]∈out):=by simp [marksOf]
theorem marksOf_nil (L:List Pl):marksOf L []=List.replicate L.length false:=by
 apply List.ext_getElem
 ·simp [marksOf]
 intro i h1 h2
 simp [marksOf]
theorem marksOf_snoc {L out:List Pl} (hn:L.Nodup) {j:Nat} (h:j<L.length):(marksOf L out).set j true=marksOf L (out++[L[j]]):=by
 apply List.ext_getElem
 ·simp [marksOf]
 intro i h1 h2
 rw [marksOf_len] at h2
 rw [List.getElem_set,marksOf_at h2]
 by_cases e:j=i
 ·subst e
  rw [if_pos rfl,marksOf_at h2];simp
 rw [if_neg e,marksOf_at h2]
 have:L[i]≠L[j]:=fun he=>e ((List.getElem_inj hn).1 he).symm
 simp [this]
noncomputable def freeTo (md:ModelD) (out:List Pl) (i n:Nat):Bool:=((hangTo md i (placesL md).length).take n).all fun z=>(marksOf (placesL md) out).getD z.toNat false
theorem freeTo_zero (md:ModelD) (out:List Pl) (i:Nat):freeTo md out i 0=true:=rfl
theorem freeTo_succ {md:ModelD} {out:List Pl} {i n:Nat} (h:n<(hangTo md i (placesL md).length).length):freeTo md out i (n+1)=(freeTo md out i n&&(marksOf (placesL md) out).getD ((hangTo md i (placesL md).length)[n]).toNat false):=by
 unfold freeTo
 rw [List.take_succ_eq_append_getElem h,List.all_append]
 simp
theorem freeTo_all {md:ModelD} {out:List Pl} {i:Nat} (hi:i<(placesL md).length):freeTo md out i (hangTo md i (placesL md).length).length=freeB (leansB md) (placesL md) out (placesL md)[i]:=by
 rw [Bool.eq_iff_iff,freeB_iff]
 unfold freeTo
 rw [List.take_length,List.all_eq_true]
 have hg:∀k (hk:k<(placesL md).length),(marksOf (placesL md) out).getD k false=decide ((placesL md)[k]∈out):=fun k hk=>by
  rw [List.getD_eq_getElem?_getD,List.getElem?_eq_getElem (by rw [marksOf_len];exact hk),Option.getD_some,marksOf_at hk]
 constructor
 ·intro h b hb hl
  obtain ⟨k,hk,rfl⟩:=List.getElem_of_mem hb
  have h1:(k:Int)∈hangTo md i (placesL md).length:=by
   unfold hangTo
   exact List.mem_map.2 ⟨k,List.mem_filter.2 ⟨List.mem_range.2 hk,by rw [leanAt_eq hi hk];exact hl⟩,rfl⟩
  have h2:=h _ h1
  rw [Int.toNat_natCast,hg k hk] at h2
  exact of_decide_eq_true h2
 intro h z hz
 unfold hangTo at hz
 obtain ⟨k,hk,rfl⟩:=List.mem_map.1 hz
 obtain ⟨h1,h2⟩:=List.mem_filter.1 hk
 have h1:=List.mem_range.1 h1
 rw [Int.toNat_natCast,hg k h1]
 rw [leanAt_eq hi h1] at h2
 exact decide_eq_true (h _ (List.getElem_mem h1) h2)
noncomputable def nextAt (md:ModelD) (out:List Pl) (j:Nat):Bool:=match (placesL md)[j]? with
 | some p=>nextB (leansB md) (placesL md) out p
 | none=>false
theorem nextAt_eq {md:ModelD} {out:List Pl} {j:Nat} (h:j<(placesL md).length):nextAt md out j=(!decide ((placesL md)[j]∈out)&&freeTo md out j (hangTo md j (placesL md).length).length):=by
 unfold nextAt
 rw [List.getElem?_eq_getElem h,freeTo_all h]
 simp only [nextB,decide_not]
theorem none_next {md:ModelD} {out:List Pl} (h:∀j,j<(placesL md).length->nextAt md out j=false):(placesL md).find? (nextB (leansB md) (placesL md) out)=none:=by
 rw [List.find?_eq_none]
 intro p hp
 obtain ⟨j,hj,rfl⟩:=List.getElem_of_mem hp
 have:=h j hj
 unfold nextAt at this
 rw [List.getElem?_eq_getElem hj] at this
 simp only at this
 rw [this];exact Bool.false_ne_true
theorem some_next {md:ModelD} {out:List Pl} {j:Nat} (hj:j<(placesL md).length) (h1:nextAt md out j=true) (h:∀i,i<j->nextAt md out i=false):(placesL md).find? (nextB (leansB md) (placesL md) out)=some (placesL md)[j]:=by
 rw [List.find?_eq_some_iff_getElem]
 unfold nextAt at h1 h
 rw [List.getElem?_eq_getElem hj] at h1
 refine ⟨h1,j,hj,rfl,fun i hi=>?_⟩
 have h2:=h i hi
 rw [List.getElem?_eq_getElem (by omega)] at h2
 simp only at h2
 rw [h2];rfl
structure OrdAt (md:ModelD) (out:List Pl):Prop where
 frm:ordFrom (leansB md) (placesL md) out=orderL md
 nd:out.Nodup
 sub:∀p∈out,p∈placesL md
theorem OrdAt.start (md:ModelD):OrdAt md []:=⟨(orderL_from md).symm,List.nodup_nil,fun p h=>absurd h (by simp)⟩
theorem OrdAt.next {md:ModelD} {out:List Pl} (h:OrdAt md out) {j:Nat} (hj:j<(placesL md).length) (h1:nextAt md out j=true) (h2:∀i,i<j->nextAt md out i=false):OrdAt md (out++[(placesL md)[j]]):=by
 have hf:=some_next hj h1 h2
 obtain ⟨h3,h4⟩:=next_of hf
 refine ⟨by rw [<-ordFrom_next (placesL_nodup md) hf];exact h.frm,?_,fun p hp=>?_⟩
 ·rw [List.nodup_append]
  exact ⟨h.nd,by simp,fun a ha b hb e=>h4 (by rw [<-List.mem_singleton.1 hb,<-e];exact ha)⟩
 rcases List.mem_append.1 hp with hp | hp
 ·exact h.sub p hp
 rw [List.mem_singleton.1 hp];exact h3
theorem OrdAt.stop {md:ModelD} {out:List Pl} (h:OrdAt md out) (h1:∀j,j<(placesL md).length->nextAt md out j=false):out=orderL md:=by
 rw [<-h.frm,ordFrom_end (none_next h1)]
theorem nodup_sub:∀(l m:List Pl),l.Nodup->(∀x∈l,x∈m)->l.length<=m.length
 | [],m,_,_=>Nat.zero_le _
 | x :: l,m,hn,hs=>by
  obtain ⟨h1,h2⟩:=List.nodup_cons.1 hn
  have hx:=hs x (by simp)
  have:=nodup_sub l (m.erase x) h2 fun y hy=>(List.mem_erase_of_ne fun e=>h1 (by rw [<-e];exact hy)).2 (hs y (by simp [hy]))
  rw [List.length_erase_of_mem hx] at this
  have:0<m.length:=List.length_pos_of_mem hx
  simp only [List.length_cons]
  omega
theorem OrdAt.len {md:ModelD} {out:List Pl} (h:OrdAt md out):out.length<=(placesL md).length:=nodup_sub _ _ h.nd h.sub
theorem OrdAt.full {md:ModelD} {out:List Pl} (h:OrdAt md out) (hl:¬out.length<(placesL md).length):out=orderL md:=by
 refine h.stop fun j hj=>?_
 have hp:(placesL md)[j]∈out:=Classical.byContradiction fun hne=>by
  have:=nodup_sub (out++[(placesL md)[j]]) (placesL md) (by
   rw [List.nodup_append]
   exact ⟨h.nd,by simp,fun a ha b hb e=>hne (by rw [<-List.mem_singleton.1 hb,<-e];exact ha)⟩) (fun p hp=>by
   rcases List.mem_append.1 hp with hp | hp
   ·exact h.sub p hp
   rw [List.mem_singleton.1 hp];exact List.getElem_mem hj)
  simp only [List.length_append,List.length_cons,List.length_nil] at this
  omega
 rw [nextAt_eq hj,decide_eq_true hp]
 rfl
theorem elemBoolR:Elem Tryz.prog 105 4 1 1:=⟨Tryz.underlying105,⟨.bool false,by kernel_rfl,rfl⟩,by omega,Tryz.sizeOf4⟩
def MarkR (w:World) (g n:Nat) (bs:List Bool):Prop:=Own w g 4 1 (some ⟨g,0,none⟩) n n (bs.map Value.bool)/\bs.length=n
theorem made_marks (n:Nat):(madeCells (Value.bool false).cells (n*1)).toList=(List.replicate n false).map Value.bool:=by
 apply List.ext_getElem
 ·simp [madeCells]
 intro i h1 h2
 simp [madeCells,Value.cells,Nat.mod_one]
theorem MarkR.make (w:World) {n:Nat} (hn:n<=4000):∃w',(Instr.makeSlice 105 (.int .i64 n) (.int .i64 n)).run Tryz.prog w=.ok (.slice (some ⟨w.heap.size,0,none⟩) n n) w'/\MarkR w' w.heap.size n (List.replicate n false)/\Below w.heap.size w w':=by
 obtain ⟨w2,hmk,hO,hg⟩:=Own.make (n:=n) elemBoolR (Nat.le_refl w.heap.size) (.bool false) (by kernel_rfl) (by omega) (by unfold maxLen;omega)
 rw [made_marks] at hO
 exact ⟨w2,hmk,⟨hO,by simp⟩,(Below.refl _ _).grown hg (Nat.le_refl _) (fun j hj=>by cases hj)⟩
theorem MarkR.cell {w:World} {g n:Nat} {bs:List Bool} (h:MarkR w g n bs) {p:Nat} (hp:p<n):w.cell? ⟨g,p,none⟩=some (.bool (bs.getD p false))/\w.frozen? ⟨g,p,none⟩=false:=by
 obtain ⟨g',hg,-,-,h1,h2⟩:=h.1.cell (by omega)
 cases hg
 refine ⟨h1 p _ ?_,h2 p⟩
 have hl:=h.2
 rw [List.getElem?_map,List.getD_eq_getElem?_getD,List.getElem?_eq_getElem (by omega)];rfl
theorem MarkR.set {w:World} {g n:Nat} {bs:List Bool} (h:MarkR w g n bs) (p:Nat):MarkR (w.setCell ⟨g,p,none⟩ (.bool true)) g n (bs.set p true):=⟨by rw [List.map_set];exact h.1.set (.bool true),by rw [List.length_set];exact h.2⟩
theorem MarkR.lt {w:World} {g n:Nat} {bs:List Bool} (h:MarkR w g n bs):g<w.heap.size:=(h.1.lt rfl).2
theorem MarkR.below {w w':World} {g n:Nat} {bs:List Bool} (h:MarkR w g n bs) (hb:Below w.heap.size w w'):MarkR w' g n bs:=⟨h.1.below hb (Nat.le_refl _),h.2⟩
theorem MarkR.grown {w w':World} {g n:Nat} {bs:List Bool} {row:Option Nat} (h:MarkR w g n bs) (hg:w.grownBy w' row) (hr:some g≠row):MarkR w' g n bs:=⟨h.1.grown hg (fun g' e=>by cases e;exact hr),h.2⟩
theorem OutP.snocG {W:World} {B:Nat} {va:Option Addr} {vc L:Nat} {out:List Pl} (p:Pl) (h:OutP W B va vc L out) (hb:B<=W.heap.size) (hl:L<=4000000) :
  ∃va' vc' w',(Builtin.append_ #[42,42] 42 #[.slice va L vc,.slice (some ⟨W.heap.size,0,none⟩) 1 1]).run Tryz.prog (W.alloc (.cells #[.int .i64 p.1,.int .i64 p.2.1,.int .i64 p.2.2] 33))=.ok (.slice va' (L+1) vc') w' /\
   OutP w' B va' vc' (L+1) (out++[p])/\(W.alloc (.cells #[.int .i64 p.1,.int .i64 p.2.1,.int .i64 p.2.2] 33)).grownBy w' (blockOf va):=by
 obtain ⟨rfl,ho⟩:=h
 have hA:=Arr.new W [.int .i64 p.1,.int .i64 p.2.1,.int .i64 p.2.2] 33
 have hbe:=below_alloc W (.cells #[.int .i64 p.1,.int .i64 p.2.1,.int .i64 p.2.2] 33)
 obtain ⟨va',vc',w',hap,ho5,hg5⟩:=Own.app elemPlR 42 (ho.below hbe (Nat.le_refl _)) (Nat.le_trans hb hbe.size) (some ⟨W.heap.size,0,none⟩) 1 1 W.heap.size 0 [.int .i64 p.1,.int .i64 p.2.1,.int .i64 p.2.2] rfl (fun _=>rfl) (fun j u hj=>by
  have hj6:j<3:=lt_of_some hj
  have:=hA.cell (j:=j) hj6
  rw [List.getElem?_eq_getElem hj6] at hj
  injection hj with hj
  rw [Nat.zero_add,this,hj]) (fun u hu=>by
  simp only [List.mem_cons,List.not_mem_nil,or_false] at hu
  rcases hu with rfl | rfl | rfl<;>rfl) (by unfold maxLen;omega) (by omega)
 exact ⟨va',vc',w',hap,⟨by simp,by rw [List.flatMap_append];simpa [plC] using ho5⟩,hg5⟩
theorem OutP.lt {W:World} {B:Nat} {va:Option Addr} {vc L:Nat} {out:List Pl} (h:OutP W B va vc L out):∀j,blockOf va=some j->B<=j/\j<W.heap.size:=own_lt h.2
theorem OutP.setAt {W:World} {B:Nat} {va:Option Addr} {vc L:Nat} {out:List Pl} (h:OutP W B va vc L out) {g j:Nat} (hg:g<B) (u:Value):OutP (W.setCell ⟨g,j,none⟩ u) B va vc L out:=by
 obtain ⟨h1,h2⟩:=h
 refine ⟨h1,h2.setCell (fun g' hg' e=>?_) u⟩
 have:=(h2.lt hg').1
 simp only at e
 omega
def LeansOk (md:ModelD) (xs:List LeanD):Prop:=∀j (hj:j<xs.length) (h:j<(placesL md).length),LeanOk md (placesL md)[j] xs[j]
theorem LeansOk.snoc {md:ModelD} {xs:List LeanD} {x:LeanD} {m:Nat} (h:LeansOk md xs) (hm:m=xs.length) (hp:m<(placesL md).length) (hx:LeanOk md ((placesL md)[m]'hp) x):LeansOk md (xs++[x]):=fun j hj h1=>by
 subst hm
 rcases Nat.lt_or_ge j xs.length with h2 | h2
 ·rw [List.getElem_append_left h2];exact h j h2 h1
 have h3:j=xs.length:=by simp at hj;omega
 subst h3
 rw [List.getElem_append_right (Nat.le_refl _)]
 simpa using hx
def lenS:Value->Nat
 | .slice _ n _=>n
 | _=>0
theorem ret_order {md:ModelD} {w W:World} {B:Nat} {oa:Option Addr} {oc L:Nat} {out:List Pl} (hb:Below w.heap.size w W) (ho:OutP W B oa oc L out) (he:out=orderL md):OrderedEnd md w (.returned (.slice oa L oc)) W:=by
 subst he
 refine ⟨hb,oa,oc,by rw [ho.1],?_⟩
 exact ho.mem
theorem rfOrder_walk (md:ModelD) (v:ModelV) (w:World) (hz:md.Sml) (hB:Built md) (hmany:manyN md<=128) (hM:ModelM false (From 0) w md v) :
  Calls Tryz.prog 23 #[.agg (v.cs md).toArray] w (OrderedEnd md w):=by
 obtain ⟨va1,vc1,va2,vc2,va3,vc3,va4,vc4,va5,vc5⟩:=v
 obtain ⟨w1,hw1⟩:∃w1,w.alloc (.cells (ModelV.cs ⟨va1,vc1,va2,vc2,va3,vc3,va4,vc4,va5,vc5⟩ md).toArray 31)=w1:=⟨_,rfl⟩
 have hb1:Below w.heap.size w w1:=hw1▸(Below.refl _ _).alloc (Nat.le_refl _) _
 have hx1:Arr w1 w.heap.size 31 (ModelV.cs ⟨va1,vc1,va2,vc2,va3,vc3,va4,vc4,va5,vc5⟩ md):=hw1▸Arr.new w (ModelV.cs ⟨va1,vc1,va2,vc2,va3,vc3,va4,vc4,va5,vc5⟩ md) _
 have HM:=hid (fun W (hb:Below w1.heap.size w1 W)=>hM.grow (hb1.trans (hb.mono hb1.size)))
 have HX:=hid hx1
 have HB1:=hid hb1
 have HW1:=hid hw1
 have HZ:=hid hz
 have HIN:=hid (inOk_of hB)
 have HCO:=hid (cond_of hB)
 have HPL:=hid (rfPlaces_walk md ⟨va1,vc1,va2,vc2,va3,vc3,va4,vc4,va5,vc5⟩ w1 hz hmany (hM.grow hb1))
 have hpm:(placesL md).length<=128:=by rw [length_placesL];exact hmany
 obtain ⟨y0,y1,y2,y3,y4,y5⟩:=box6 hx1 (Below.refl _ _)
 clear hM hb1 hx1 hw1 hz hB hmany
 go_enter Tryz.func23,Tryz.ntmps23
 go_upto_region 1 with fail
 rw [HW1.out]
 go_wp2_with fail
 refine HPL.out.mono ?_
 rintro e w2 ⟨hb2,la,lc,rfl,hmp⟩
 have HB2:=hid hb2
 obtain ⟨_,_,pb,po,hvv,-,hPC⟩:=flat_open hmp
 injection hvv with e1 e2 e3
 subst e1 e3
 have HP0:Hid (0<(placesL md).length->la=some ⟨pb,po,none⟩/\pb<w2.heap.size):=fun h=>⟨(hPC.at0 h).1,(hPC.at0 h).2.2⟩
 have HPC:Hid (∀m (hm:m<(placesL md).length) a0 a1 a2,(placesL md)[m]=(a0,a1,a2)->w2.cell? ⟨pb,po+m*3,none⟩=some (.int .i64 a0)/\w2.cell? ⟨pb,po+m*3+1,none⟩=some (.int .i64 a1)/\w2.cell? ⟨pb,po+m*3+2,none⟩=some (.int .i64 a2)):=fun m hm a0 a1 a2 he=>by
  have c0:=hPC.cell m hm 0 _ rfl
  have c1:=hPC.cell m hm 1 _ rfl
  have c2:=hPC.cell m hm 2 _ rfl
  rw [he] at c0 c1 c2
  exact ⟨c0,c1,c2⟩
 obtain ⟨PN,hPN⟩:∃PN,(placesL md).length=PN:=⟨_,rfl⟩
 have HPN:=hid hPN
 rw [hPN] at HP0 hpm ⊢
 clear hb2 HPL hmp e2 hPC y0 y1 y2 y3 y4 y5 hPN
 go_wp2_with fail
 go_loopw [4,5] (fun x i wr=>∃(m:Nat) (va:Option Addr) (vc:Nat),m<=PN/\i=.int .i64 (m:Int)/\x=.slice va m vc/\Hid (Below w2.heap.size w2 wr)/\Hid (∃xs,LX wr w2.heap.size va vc m xs/\LeansOk md xs)) (fun _ i _=>PN-(intOf i).toNat)
 case atStart=>exact ⟨0,none,0,Nat.zero_le _,rfl,rfl,Below.refl _ _,⟨[],LX.nil _ _,fun j hj=>absurd hj (Nat.not_lt_zero _)⟩⟩
 obtain ⟨m,va,vc,hml,rfl,rfl,HBW,HLX⟩:=hrel
 obtain ⟨wo,rfl⟩:∃wo,wo=wr:=⟨_,rfl⟩
 by_cases hlt:m<PN
 ·have i1:(m:Int)<(PN:Int):=by omega
  have i2:(0:Int)<=(m:Int):=by omega
  have HML:=hid hlt
  obtain ⟨rfl,hpb⟩:=HP0.out (by omega)
  have hmp:m<(placesL md).length:=by rw [HPN.out];exact hlt
  have HMP:=hid hmp
  obtain ⟨a0,a1,a2,ha⟩:∃a0 a1 a2,(placesL md)[m]'hmp=(a0,a1,a2):=⟨_,_,_,rfl⟩
  have hin:(a0,a1,a2)∈placesL md:=ha▸List.getElem_mem hmp
  obtain ⟨s,hs⟩:=Option.isSome_iff_exists.1 (mem_placesL.1 hin)
  obtain ⟨c0,c1,c2⟩:=HPC.out m hmp a0 a1 a2 ha
  have HKB:Hid (∀W,Below w2.heap.size w2 W->W.cell? ⟨w.heap.size,0,none⟩=some (.string md.name)/\W.cell? ⟨w.heap.size,1,none⟩=some (.slice va1 md.attrs.length vc1)/\W.cell? ⟨w.heap.size,2,none⟩=some (.slice va2 md.events.length vc2)/\W.cell? ⟨w.heap.size,3,none⟩=some (.slice va3 md.stages.length vc3)/\W.cell? ⟨w.heap.size,4,none⟩=some (.slice va4 md.stones.length vc4)/\W.cell? ⟨w.heap.size,5,none⟩=some (.slice va5 md.apart.length vc5)/\W.cell? ⟨pb,po+m*3,none⟩=some (.int .i64 a0)/\W.cell? ⟨pb,po+m*3+1,none⟩=some (.int .i64 a1)/\W.cell? ⟨pb,po+m*3+2,none⟩=some (.int .i64 a2)):=fun W hb=>by
   obtain ⟨q0,q1,q2,q3,q4,q5⟩:=box6 HX.out (HB2.out.trans (hb.mono HB2.out.size))
   have hk:=hb.block pb hpb
   exact ⟨q0,q1,q2,q3,q4,q5,(World.cell?_of_block hk).trans c0,(World.cell?_of_block hk).trans c1,(World.cell?_of_block hk).trans c2⟩
  have HLN:Hid (∀W,Below w2.heap.size w2 W->Calls Tryz.prog 26 #[.agg (ModelV.cs ⟨va1,vc1,va2,vc2,va3,vc3,va4,vc4,va5,vc5⟩ md).toArray,.agg #[.int .i64 a0,.int .i64 a1,.int .i64 a2]] W (LeanEnd md (a0,a1,a2) s W)):=fun W hb =>
   rfLean_walk md ⟨va1,vc1,va2,vc2,va3,vc3,va4,vc4,va5,vc5⟩ (a0,a1,a2) s W HZ.out hs (place_stage hin) (HCO.out _ _ hs) (HM.out W (HB2.out.trans (hb.mono HB2.out.size)))
  have HOK:Hid (∀x,LeanOf md (a0,a1,a2) s x->(∀i∈x.stages,-1<=i/\i<md.stages.length)->x.stages.length<=60000->x.stones.length<=60000->LeanOk md ((placesL md)[m]'hmp) x):=fun x h1 h2 h3 h4=>by
   rw [ha]
   exact ⟨⟨s,hs,h1⟩,leanOf_inn HIN.out (place_stage hin) h1,h2,h3,h4⟩
  obtain ⟨xs,hlx,hok⟩:=HLX.out
  have HLZ:Hid (LX wo.drew w2.heap.size va vc m xs):=hlx.below (below_drew _)
  have HLT:=hid HLZ.out.lt
  have HLO:=hid (And.intro hok hlx.1)
  have k3:IntKind.i64.wrap ((m:Int)+1)=(m:Int)+1:=wrap_i64 (by omega) (by omega)
  clear hpb ha hin hs c0 c1 c2 hlx hok HLX
  go_upto_region 6 with fail
  refine wp_region_held_drew (S:=(fun W'=>Below w2.heap.size w2 W')) (by kernel_rfl) HBW.out.drew (fun hH=>?_)
  generalize wo.drew=wz at hH HLZ HLT ⊢
  refine tK (i:=0) (oi:=⟨some 24,.move (.tmp 4),103,"ref.go:299",#[],none⟩) (v:=.slice va m vc) (Or.inl ⟨by rfl,fun W hS=>by go_simp⟩) hH ?_
  refine tK (i:=1) (oi:=⟨some 25,.load 31 (.tmp 1),31,"ref.go:299",#[],none⟩) (v:=.agg #[.string md.name,.slice va1 md.attrs.length vc1,.slice va2 md.events.length vc2,.slice va3 md.stages.length vc3,.slice va4 md.stones.length vc4,.slice va5 md.apart.length vc5]) (Or.inl ⟨by rfl,fun W hS=>by obtain ⟨y0,y1,y2,y3,y4,y5,-⟩:=HKB.out W hS;go_simp⟩) hH ?_
  refine tK (i:=2) (oi:=⟨some 26,.move (.tmp 3),42,"ref.go:299",#[],none⟩) (v:=.slice (some ⟨pb,po,none⟩) PN lc) (Or.inl ⟨by rfl,fun W hS=>by go_simp⟩) hH ?_
  refine tK (i:=3) (oi:=⟨some 27,.move (.tmp 5),3,"ref.go:299",#[],none⟩) (v:=.int .i64 (m:Int)) (Or.inl ⟨by rfl,fun W hS=>by go_simp⟩) hH ?_
  refine tK (i:=4) (oi:=⟨some 28,.indexAddr 42 (.tmp 26) (.tmp 27),0,"ref.go:299",#[⟨2,.data⟩,⟨3,.data⟩],none⟩) (v:=.pointer (some ⟨pb,po+m*3,none⟩)) (Or.inl ⟨by rfl,fun W hS=>by go_simp⟩) hH ?_
  refine tK (i:=5) (oi:=⟨some 29,.load 33 (.tmp 28),33,"ref.go:299",#[⟨4,.data⟩],none⟩) (v:=.agg #[.int .i64 a0,.int .i64 a1,.int .i64 a2]) (Or.inl ⟨by rfl,fun W hS=>by obtain ⟨-,-,-,-,-,-,p0,p1,p2⟩:=HKB.out W hS;go_simp⟩) hH ?_
  refine rD [6] ?_
  refine AllReadyH.cons rfl (fun K hK=>?_) AllReadyH.nil
  go_simp
  go_at_call 26
  refine (HLN.out _ hH).mono ?_
  rintro e W7 ⟨hb,⟨xon,xnm,xcd,xi,xst,xso⟩,sa,sn,sc,ta,tn,tc,rfl,hS,hT,hOf,hst,h6,h7⟩
  obtain rfl:xon=s.on:=hOf.on
  obtain rfl:xnm=s.name:=hOf.name
  obtain rfl:xcd=s.cond:=hOf.cond
  have HOX:=hid (HOK.out _ hOf hst h6 h7)
  obtain ⟨va',vc',W8,hap,hX8,hg8⟩:=(HLZ.out.below hb).snoc ⟨s.on,s.name,s.cond,xi,xst,xso⟩ (Nat.le_trans hH.size hb.size) (fun j hj=>(HLT.out j hj).2) hS hT (by omega)
  have HAP:=hid hap
  have HX8:=hid hX8
  have HG8:=hid hg8
  have HB7:=hid hb
  clear hap hX8 hg8 hb hS hT hOf hst h6 h7
  go_wp2_with fail
  refine kK hK (hH.trans (HB7.out.mono hH.size)) (fun hH=>?_)
  clear hK K
  refine rD [7] ?_
  refine AllReadyH.cons rfl (fun K hK=>?_) AllReadyH.nil
  go_simp
  refine kK hK (hH.alloc hH.size _) (fun hH=>?_)
  clear hK K
  refine rD [8] ?_
  refine AllReadyH.cons rfl (fun K hK=>?_) AllReadyH.nil
  refine step_append_run (by rfl) (.tmp 24) (.tmp 31) 103 (by rfl) (by rfl) (by rfl) HAP.out ?_
  refine kK hK (hH.grown HG8.out hH.size (fun k hk=>(HLT.out k hk).1)) (fun hH=>?_)
  clear hK K
  refine tK (i:=9) (oi:=⟨some 4,.assign (.tmp 32),103,"ref.go:299",#[⟨8,.data⟩,⟨8,.chain⟩,⟨0,.phase⟩,⟨1,.phase⟩,⟨2,.phase⟩,⟨3,.phase⟩,⟨4,.phase⟩,⟨5,.phase⟩,⟨6,.phase⟩,⟨7,.phase⟩,⟨8,.phase⟩],none⟩) (v:=(.slice va' (m+1) vc')) (Or.inl ⟨by rfl,fun W hS=>by go_simp⟩) hH ?_
  refine wpAnyH_done (by kernel_rfl) ?_ _
  go_wp2_with fail
  have HH:=hid hH
  go_roundw
  case rel=>exact ⟨m+1,va',vc',by have:=HML.out;omega,by go_num,rfl,HH.out,⟨xs++[⟨s.on,s.name,s.cond,xi,xst,xso⟩],HX8.out,HLO.out.1.snoc HLO.out.2 HMP.out HOX.out⟩⟩
  case measure=>simp only [intOf];have:=HML.out;omega
 obtain rfl:PN=m:=by omega
 have i1:¬(PN:Int)<(PN:Int):=by omega
 obtain ⟨xs,hlx,hok⟩:=HLX.out
 have HXS:=hid hlx
 have HOK:=hid hok
 have HB3:=hid HBW.out
 clear hlx hok HLX HBW hml
 obtain ⟨w3,rfl⟩:∃w3,w3=wo:=⟨_,rfl⟩
 go_wp2_with fail
 go_loopw [6,7] (fun h i wr=>∃(m:Nat) (ha:Option Addr) (hc:Nat),m<=PN/\i=.int .i64 (m:Int)/\h=.slice ha m hc/\Hid (Below w3.heap.size w3 wr)/\Hid (LH wr w3.heap.size ha hc m (rowsTo md PN m))) (fun _ i _=>PN-(intOf i).toNat)
 case atStart=>exact ⟨0,none,0,Nat.zero_le _,rfl,rfl,Below.refl _ _,by show LH _ _ _ _ _ _;rw [rowsTo_zero];exact LH.nil _ _⟩
 obtain ⟨m,ha,hc,hml,rfl,rfl,HBW,HLH⟩:=hrel
 obtain ⟨wi,rfl⟩:∃wi,wi=wr:=⟨_,rfl⟩
 by_cases hlt:m<PN
 ·have i1:(m:Int)<(PN:Int):=by omega
  have i2:(0:Int)<=(m:Int):=by omega
  have HML:=hid hlt
  obtain ⟨rfl,hpb⟩:=HP0.out (by omega)
  have HPB:=hid hpb
  have hmp:m<(placesL md).length:=by rw [HPN.out];exact hlt
  have hmx:m<xs.length:=by rw [<-HXS.out.1];exact hlt
  obtain ⟨xg,sa,sn,sc,ta,tn,tc,rfl,hxb,hxl,hS,hT,d0,d1,d2,d3,d4,d5⟩:=HXS.out.at hmx
  have hokm:=HOK.out m hmx hmp
  obtain ⟨X,hX⟩:∃X,xs[m]'hmx=X:=⟨_,rfl⟩
  rw [hX] at hS hT d0 d1 d2 d3 hokm
  obtain ⟨xon,xnm,xcd,xi,xst,xso⟩:=X
  simp only at hS hT d0 d1 d2 d3 d4 d5
  have HXX:Hid (∀W,Below w3.heap.size w3 W->W.cell? ⟨xg,m*6,none⟩=some (.int .u8 xon)/\W.cell? ⟨xg,m*6+1,none⟩=some (.string xnm)/\W.cell? ⟨xg,m*6+2,none⟩=some (.string xcd)/\W.cell? ⟨xg,m*6+3,none⟩=some (.int .i64 xi)/\W.cell? ⟨xg,m*6+4,none⟩=some (.slice sa sn sc)/\W.cell? ⟨xg,m*6+5,none⟩=some (.slice ta tn tc)):=fun W hb=>by
   have hk:=hb.block xg hxl
   exact ⟨(World.cell?_of_block hk).trans d0,(World.cell?_of_block hk).trans d1,(World.cell?_of_block hk).trans d2,(World.cell?_of_block hk).trans d3,(World.cell?_of_block hk).trans d4,(World.cell?_of_block hk).trans d5⟩
  have HON:Hid (∀n (hn:n<(placesL md).length) b0 b1 b2,(placesL md)[n]=(b0,b1,b2)->∀W,Below w3.heap.size w3 W->Calls Tryz.prog 25 #[.agg (ModelV.cs ⟨va1,vc1,va2,vc2,va3,vc3,va4,vc4,va5,vc5⟩ md).toArray,.agg #[.int .u8 xon,.string xnm,.string xcd,.int .i64 xi,.slice sa sn sc,.slice ta tn tc],.agg #[.int .i64 b0,.int .i64 b1,.int .i64 b2]] W (fun e w'=>e=.returned (.bool (leanAt md m n))/\Below W.heap.size W w')):=fun n hn b0 b1 b2 hb W hW=>by
   have h:=rfOn_walk md ⟨va1,vc1,va2,vc2,va3,vc3,va4,vc4,va5,vc5⟩ ⟨xon,xnm,xcd,xi,xst,xso⟩ (b0,b1,b2) sa ta sn sc tn tc W HZ.out HIN.out hokm.inn hokm.st hokm.l6 hokm.l7 (hS.grow hW) (hT.grow hW) (HM.out W (HB2.out.trans ((HB3.out.trans (hW.mono HB3.out.size)).mono HB2.out.size)))
   have he:onX md ⟨xon,xnm,xcd,xi,xst,xso⟩ (b0,b1,b2)=leanAt md m n:=by rw [hokm.leans,leanAt_eq hmp hn,hb]
   rw [he] at h
   exact h
  have k3:IntKind.i64.wrap ((m:Int)+1)=(m:Int)+1:=wrap_i64 (by omega) (by omega)
  clear hpb hmp hmx hxb hxl hS hT d0 d1 d2 d3 d4 d5 hokm hX
  go_wp2_with fail
  go_loopw [8,9] (fun o k wr=>∃(n:Nat) (oa:Option Addr) (oc Lo:Nat),n<=PN/\k=.int .i64 (n:Int)/\o=.slice oa Lo oc/\Hid (Below wi.heap.size wi wr)/\Hid (OwnI wr wi.heap.size oa oc Lo (hangTo md m n))) (fun _ k _=>PN-(intOf k).toNat)
  case atStart=>exact ⟨0,none,0,0,Nat.zero_le _,rfl,rfl,Below.refl _ _,by show OwnI _ _ _ _ _ _;rw [hangTo_zero];exact OwnI.nil _ _⟩
  obtain ⟨n,oa,oc,Lo,hnl,rfl,rfl,HBK,HOI⟩:=hrel
  obtain ⟨wk,rfl⟩:∃wk,wk=wr:=⟨_,rfl⟩
  have hLo:Lo<=128:=by
   have h1:=HOI.out.1
   have h2:=hangTo_len md m n
   omega
  by_cases hlt2:n<PN
  ·have i3:(n:Int)<(PN:Int):=by omega
   have i4:(0:Int)<=(n:Int):=by omega
   have HNL:=hid hlt2
   have hnp:n<(placesL md).length:=by rw [HPN.out];exact hlt2
   obtain ⟨b0,b1,b2,hb⟩:∃b0 b1 b2,(placesL md)[n]'hnp=(b0,b1,b2):=⟨_,_,_,rfl⟩
   obtain ⟨c0,c1,c2⟩:=HPC.out n hnp b0 b1 b2 hb
   have HKB:Hid (∀W,Below wi.heap.size wi W->W.cell? ⟨w.heap.size,0,none⟩=some (.string md.name)/\W.cell? ⟨w.heap.size,1,none⟩=some (.slice va1 md.attrs.length vc1)/\W.cell? ⟨w.heap.size,2,none⟩=some (.slice va2 md.events.length vc2)/\W.cell? ⟨w.heap.size,3,none⟩=some (.slice va3 md.stages.length vc3)/\W.cell? ⟨w.heap.size,4,none⟩=some (.slice va4 md.stones.length vc4)/\W.cell? ⟨w.heap.size,5,none⟩=some (.slice va5 md.apart.length vc5)/\(W.cell? ⟨xg,m*6,none⟩=some (.int .u8 xon)/\W.cell? ⟨xg,m*6+1,none⟩=some (.string xnm)/\W.cell? ⟨xg,m*6+2,none⟩=some (.string xcd)/\W.cell? ⟨xg,m*6+3,none⟩=some (.int .i64 xi)/\W.cell? ⟨xg,m*6+4,none⟩=some (.slice sa sn sc)/\W.cell? ⟨xg,m*6+5,none⟩=some (.slice ta tn tc))/\W.cell? ⟨pb,po+n*3,none⟩=some (.int .i64 b0)/\W.cell? ⟨pb,po+n*3+1,none⟩=some (.int .i64 b1)/\W.cell? ⟨pb,po+n*3+2,none⟩=some (.int .i64 b2)):=fun W hb=>by
    have hb3:=HBW.out.trans (hb.mono HBW.out.size)
    have hb2:=HB3.out.trans (hb3.mono HB3.out.size)
    obtain ⟨q0,q1,q2,q3,q4,q5⟩:=box6 HX.out (HB2.out.trans (hb2.mono HB2.out.size))
    obtain ⟨d0,d1,d2,d3,d4,d5⟩:=HXX.out W hb3
    have hk:=hb2.block pb HPB.out
    exact ⟨q0,q1,q2,q3,q4,q5,⟨d0,d1,d2,d3,d4,d5⟩,(World.cell?_of_block hk).trans c0,(World.cell?_of_block hk).trans c1,(World.cell?_of_block hk).trans c2⟩
   obtain ⟨q,hq⟩:∃q,leanAt md m n=q:=⟨_,rfl⟩
   have HCN:Hid (∀W,Below wi.heap.size wi W->Calls Tryz.prog 25 #[.agg (ModelV.cs ⟨va1,vc1,va2,vc2,va3,vc3,va4,vc4,va5,vc5⟩ md).toArray,.agg #[.int .u8 xon,.string xnm,.string xcd,.int .i64 xi,.slice sa sn sc,.slice ta tn tc],.agg #[.int .i64 b0,.int .i64 b1,.int .i64 b2]] W (fun e w'=>e=.returned (.bool q)/\Below W.heap.size W w')):=fun W h=>by
    have h':=HON.out n hnp b0 b1 b2 hb W (HBW.out.trans (h.mono HBW.out.size))
    rw [hq] at h'
    exact h'
   have HQ:=hid hq
   have HIz:=hid HOI.out.drew
   have k4:IntKind.i64.wrap ((n:Int)+1)=(n:Int)+1:=wrap_i64 (by omega) (by omega)
   clear hq hb hnp c0 c1 c2 HOI
   go_upto_region 15 with fail
   refine wp_region_held_drew (S:=(fun W'=>Below wi.heap.size wi W')) (by kernel_rfl) HBK.out.drew (fun hH=>?_)
   generalize wk.drew=wz at hH HIz ⊢
   refine tK (i:=0) (oi:=⟨some 45,.load 31 (.tmp 1),31,"ref.go:305",#[],none⟩) (v:=.agg #[.string md.name,.slice va1 md.attrs.length vc1,.slice va2 md.events.length vc2,.slice va3 md.stages.length vc3,.slice va4 md.stones.length vc4,.slice va5 md.apart.length vc5]) (Or.inl ⟨by rfl,fun W hS=>by obtain ⟨y0,y1,y2,y3,y4,y5,-⟩:=HKB.out W hS;go_simp⟩) hH ?_
   refine tK (i:=1) (oi:=⟨some 46,.move (.tmp 4),103,"ref.go:305",#[],none⟩) (v:=.slice (some ⟨xg,0,none⟩) PN vc) (Or.inl ⟨by rfl,fun W hS=>by go_simp⟩) hH ?_
   refine tK (i:=2) (oi:=⟨some 47,.move (.tmp 7),3,"ref.go:305",#[],none⟩) (v:=.int .i64 (m:Int)) (Or.inl ⟨by rfl,fun W hS=>by go_simp⟩) hH ?_
   refine tK (i:=3) (oi:=⟨some 48,.indexAddr 103 (.tmp 46) (.tmp 47),0,"ref.go:305",#[⟨1,.data⟩,⟨2,.data⟩],none⟩) (v:=.pointer (some ⟨xg,m*6,none⟩)) (Or.inl ⟨by rfl,fun W hS=>by go_simp⟩) hH ?_
   refine tK (i:=4) (oi:=⟨some 49,.load 69 (.tmp 48),69,"ref.go:305",#[⟨3,.data⟩],none⟩) (v:=.agg #[.int .u8 xon,.string xnm,.string xcd,.int .i64 xi,.slice sa sn sc,.slice ta tn tc]) (Or.inl ⟨by rfl,fun W hS=>by obtain ⟨-,-,-,-,-,-,⟨x0,x1,x2,x3,x4,x5⟩,-⟩:=HKB.out W hS;go_simp⟩) hH ?_
   refine tK (i:=5) (oi:=⟨some 50,.move (.tmp 3),42,"ref.go:305",#[],none⟩) (v:=.slice (some ⟨pb,po,none⟩) PN lc) (Or.inl ⟨by rfl,fun W hS=>by go_simp⟩) hH ?_
   refine tK (i:=6) (oi:=⟨some 51,.move (.tmp 9),3,"ref.go:305",#[],none⟩) (v:=.int .i64 (n:Int)) (Or.inl ⟨by rfl,fun W hS=>by go_simp⟩) hH ?_
   refine tK (i:=7) (oi:=⟨some 52,.indexAddr 42 (.tmp 50) (.tmp 51),0,"ref.go:305",#[⟨5,.data⟩,⟨6,.data⟩],none⟩) (v:=.pointer (some ⟨pb,po+n*3,none⟩)) (Or.inl ⟨by rfl,fun W hS=>by go_simp⟩) hH ?_
   refine tK (i:=8) (oi:=⟨some 53,.load 33 (.tmp 52),33,"ref.go:305",#[⟨7,.data⟩],none⟩) (v:=.agg #[.int .i64 b0,.int .i64 b1,.int .i64 b2]) (Or.inl ⟨by rfl,fun W hS=>by obtain ⟨-,-,-,-,-,-,-,p0,p1,p2⟩:=HKB.out W hS;go_simp⟩) hH ?_
   refine rD [9] ?_
   refine AllReadyH.cons rfl (fun K hK=>?_) AllReadyH.nil
   go_simp
   go_at_call 25
   refine (HCN.out _ hH).mono ?_
   rintro e W7 ⟨rfl,hb⟩
   have HI7:=hid (HIz.out.below hb)
   have hH7:=hH.trans (hb.mono hH.size)
   clear hb
   go_wp2_with fail
   refine kK hK hH7 (fun hH=>?_)
   clear hK K
   refine wpAnyH_done (by kernel_rfl) ?_ _
   have HH:=hid hH
   cases q with
   | false =>
    go_wp2_with fail
    go_roundw
    case rel=>exact ⟨n+1,oa,oc,Lo,by have:=HNL.out;omega,by go_num,rfl,HH.out,by show OwnI _ _ _ _ _ _;rw [hangTo_no HQ.out];exact HI7.out⟩
    case measure=>simp only [intOf];have:=HNL.out;omega
   | true =>
    obtain ⟨oa',oc',W8,hap,hI8,hg8⟩:=HI7.out.snoc (n:Int) HH.out.size (by omega)
    have HAP:=hid hap
    have HI8:=hid hI8
    have HB8:=hid ((HH.out.alloc HH.out.size (.cells #[.int .i64 (n:Int)] 3)).grown hg8 (Nat.le_trans HH.out.size (below_alloc _ _).size) (fun k hk=>HI7.out.row k hk))
    clear hap hI8 hg8
    go_wp2_with (at_builtin;refine wpList_append_run (by rfl) (.tmp 55) (.tmp 57) 67 (by rfl) (by rfl) (by rfl) HAP.out ?_)
    go_roundw
    case rel=>exact ⟨n+1,oa',oc',Lo+1,by have:=HNL.out;omega,by go_num,rfl,HB8.out,by show OwnI _ _ _ _ _ _;rw [hangTo_yes HQ.out];exact HI8.out⟩
    case measure=>simp only [intOf];have:=HNL.out;omega
  obtain rfl:PN=n:=by omega
  have i3:¬(PN:Int)<(PN:Int):=by omega
  have hbk:=HBW.out.trans (HBK.out.mono HBW.out.size)
  obtain ⟨ha',hc',W8,hap,hH8,hg8⟩:=(HLH.out.below HBK.out).snoc (lo:=wi.heap.size) (hangTo md m PN) hbk.size (fun j hj=>(HLH.out.lt j hj).2) HOI.out.mem (by omega)
  rw [rowsTo_succ] at hH8
  have HB8:=hid ((hbk.alloc hbk.size (.cells #[.slice oa Lo oc] 67)).grown hg8 (Nat.le_trans hbk.size (below_alloc _ _).size) (fun k hk=>(HLH.out.lt k hk).1))
  have HAP:=hid hap
  have HH8:=hid hH8
  clear hap hH8 hg8 hbk
  go_wp2_with (at_builtin;refine wpList_append_run (by rfl) (.tmp 59) (.tmp 61) 104 (by rfl) (by rfl) (by rfl) HAP.out ?_)
  go_roundw
  case rel=>exact ⟨m+1,ha',hc',by have:=HML.out;omega,by go_num,rfl,HB8.out,HH8.out⟩
  case measure=>simp only [intOf];have:=HML.out;omega
 obtain rfl:PN=m:=by omega
 have i1:¬(PN:Int)<(PN:Int):=by omega
 obtain ⟨w4,rfl⟩:∃w4,w4=wi:=⟨_,rfl⟩
 obtain ⟨w5,hmk,hMK,hb5⟩:=MarkR.make w4 (n:=PN) (by omega)
 obtain ⟨g0,hg0⟩:∃g,w4.heap.size=g:=⟨_,rfl⟩
 rw [hg0] at hmk hMK hb5
 have HB4:=hid (HB1.out.trans ((HB2.out.trans ((HB3.out.trans (HBW.out.mono HB3.out.size)).mono HB2.out.size)).mono HB1.out.size))
 have HPB4:Hid (∀W,Below g0 w4 W->∀b,b<w2.heap.size->W.heap[b]? = w2.heap[b]?):=fun W h b hb=>by
  have h24:=HB3.out.trans (HBW.out.mono HB3.out.size)
  rw [h.block b (by rw [<-hg0];exact Nat.lt_of_lt_of_le hb h24.size)]
  exact h24.block b hb
 have HG0:=hid hg0
 have HMK:=hid hMK
 have HB5:=hid hb5
 clear hMK hb5 hg0 hml HBW HXS HOK HB3
 go_wp2_with fail
 clear hmk
 go_loopw [11] (fun o wr=>∃(oa:Option Addr) (oc L:Nat),o=.slice oa L oc/\Hid (Below g0 w4 wr)/\Hid (w5.heap.size<=wr.heap.size)/\Hid (∃out,OutP wr w5.heap.size oa oc L out/\OrdAt md out/\MarkR wr g0 PN (marksOf (placesL md) out))) (fun o _=>PN-lenS o)
 case atStart=>exact ⟨none,0,0,rfl,HB5.out,Nat.le_refl _,⟨[],OutP.nil _ _,OrdAt.start md,by rw [marksOf_nil,HPN.out];exact HMK.out⟩⟩
 obtain ⟨oa,oc,L,rfl,HBO,HSZ,HOUT⟩:=hrel
 obtain ⟨wo,rfl⟩:∃wo,wo=wr:=⟨_,rfl⟩
 obtain ⟨out,hO,hA,hMk⟩:=HOUT.out
 have hLe:L<=PN:=by rw [hO.1,<-HPN.out];exact hA.len
 have HO:=hid hO
 have HA:=hid hA
 have HK:=hid hMk
 have HBE:Hid (Below w.heap.size w wo):=HB4.out.trans (HBO.out.mono (by rw [<-HG0.out];exact HB4.out.size))
 clear hO hA hMk HOUT
 by_cases hlt:L<PN
 ·have i1:(L:Int)<(PN:Int):=by omega
  have HLL:=hid hlt
  obtain ⟨rfl,hpb⟩:=HP0.out (by omega)
  have HPB:=hid hpb
  clear hpb
  go_wp2_with fail
  go_loopw [12,13] (fun f i wr=>∃m:Nat,m<=PN/\i=.int .i64 (m:Int)/\wo=wr/\((f=.int .i64 (-1)/\Hid (∀j,j<m->nextAt md out j=false))\/(∃j:Nat,f=.int .i64 (j:Int)/\j<PN/\Hid (nextAt md out j=true/\∀i,i<j->nextAt md out i=false)))) (fun _ i _=>PN-(intOf i).toNat)
  case atStart=>exact ⟨0,Nat.zero_le _,rfl,rfl,.inl ⟨rfl,fun j hj=>absurd hj (Nat.not_lt_zero _)⟩⟩
  obtain ⟨m,hml,rfl,rfl,hf⟩:=hrel
  rcases hf with ⟨rfl,HF⟩ | ⟨j,rfl,hj,HF⟩
  ·by_cases hlt2:m<PN
   ·have i3:(m:Int)<(PN:Int):=by omega
    have i4:(0:Int)<=(m:Int):=by omega
    have HML:=hid hlt2
    have hmp:m<(placesL md).length:=by rw [HPN.out];exact hlt2
    have k3:IntKind.i64.wrap ((m:Int)+1)=(m:Int)+1:=wrap_i64 (by omega) (by omega)
    obtain ⟨z0,-⟩:=HK.out.cell hlt2
    obtain ⟨bq,hbq⟩:∃bq,(marksOf (placesL md) out).getD m false=bq:=⟨_,rfl⟩
    rw [hbq] at z0
    have hdq:decide ((placesL md)[m]'hmp∈out)=bq:=by
     rw [<-hbq,List.getD_eq_getElem?_getD,List.getElem?_eq_getElem (by rw [marksOf_len];exact hmp),Option.getD_some,marksOf_at hmp]
    have HNX:Hid (nextAt md out m=(!bq&&freeTo md out m (hangTo md m PN).length)):=by
     show _=_
     rw [nextAt_eq hmp,hdq,HPN.out]
    have HNO:Hid (nextAt md out m=false->∀j,j<m+1->nextAt md out j=false):=fun h j hj=>by
     by_cases e:j=m
     ·rw [e];exact h
     exact HF.out j (by omega)
    clear hbq hdq hmp
    cases bq with
    | true =>
     have HN1:Hid (nextAt md out m=false):=by show _=_;rw [HNX.out];rfl
     go_wp2_with fail
     go_roundw
     case rel=>exact ⟨m+1,by have:=HML.out;omega,by go_num,by first | rfl | exact trivial,.inl ⟨rfl,HNO.out HN1.out⟩⟩
     case measure=>simp only [intOf];have:=HML.out;omega
    | false =>
     have hrl:m<(rowsTo md PN PN).length:=by rw [rowsTo_len];exact hlt2
     obtain ⟨hg,sa,sc,hae,hg1,hg2,hS,hcell⟩:=HLH.out.at hrl
     rw [rowsTo_at md hrl] at hS hcell
     obtain ⟨sa',sc',he,hf6⟩:=hS.form
     injection he with he1 he2 he3
     subst he1 he3
     have HSF:Hid (∀j (hj:j<(hangTo md m PN).length),∃b o,sa=some ⟨b,o,none⟩/\wo.cell? ⟨b,o+j,none⟩=some (.int .i64 (hangTo md m PN)[j])):=fun j hj=>by
      obtain ⟨b,o,h1,-,h3,h4⟩:=hf6 (by omega)
      exact ⟨b,o,h1,(World.cell?_of_block (HBO.out.block b (by rw [<-HG0.out];exact h3))).trans (h4 j hj)⟩
     have r0:wo.cell? ⟨hg,m,none⟩=some (.slice sa (hangTo md m PN).length sc):=(World.cell?_of_block (HBO.out.block hg (by rw [<-HG0.out];exact hg2))).trans hcell
     subst hae
     obtain ⟨HL,hHL⟩:∃n,(hangTo md m PN).length=n:=⟨_,rfl⟩
     have HHL:=hid hHL
     have hHP:HL<=128:=by have:=hangTo_len md m PN;omega
     rw [hHL] at r0
     clear hrl hg1 hg2 hS hcell hf6 he2 hHL
     go_wp2_with fail
     go_loopw [14,15] (fun f k wr=>∃(n:Nat) (fb:Bool),n<=HL/\k=.int .i64 (n:Int)/\f=.bool fb/\wo=wr/\Hid (freeTo md out m n=fb)) (fun _ k _=>HL-(intOf k).toNat)
     case atStart=>exact ⟨0,true,Nat.zero_le _,rfl,rfl,rfl,freeTo_zero _ _ _⟩
     obtain ⟨n,fb,hnl,rfl,rfl,rfl,HFB⟩:=hrel
     by_cases hlt3:n<HL
     ·have i5:(n:Int)<(HL:Int):=by omega
      have i6:(0:Int)<=(n:Int):=by omega
      have HNL:=hid hlt3
      have hnx:n<(hangTo md m (placesL md).length).length:=by rw [HPN.out,HHL.out];exact hlt3
      have hfs:=freeTo_succ (out:=out) hnx
      have k4:IntKind.i64.wrap ((n:Int)+1)=(n:Int)+1:=wrap_i64 (by omega) (by omega)
      obtain ⟨k,hkl,hke,-⟩:=hangTo_at hnx
      rw [hke,Int.toNat_natCast,HFB.out] at hfs
      rw [HPN.out] at hkl
      obtain ⟨b,o,rfl,s0⟩:=HSF.out n (by rw [HHL.out];exact hlt3)
      have hke':(hangTo md m PN)[n]'(by rw [HHL.out];exact hlt3)=(k:Int):=by
       have:=hke
       simp only [HPN.out] at this
       exact this
      rw [hke'] at s0
      obtain ⟨z1,-⟩:=HK.out.cell hkl
      obtain ⟨b2,hb2⟩:∃b2,(marksOf (placesL md) out).getD k false=b2:=⟨_,rfl⟩
      rw [hb2] at z1 hfs
      have j1:(k:Int)<(PN:Int):=by omega
      have j2:(0:Int)<=(k:Int):=by omega
      have HFS:=hid hfs
      clear hfs hke hke' hb2 hnx HFB
      cases fb with
      | false =>
       go_wp2_with fail
       go_roundw
       case rel=>exact ⟨n+1,false,by have:=HNL.out;omega,by go_num,by first | rfl | exact trivial,by first | rfl | exact trivial,HFS.out⟩
       case measure=>simp only [intOf];have:=HNL.out;omega
      | true =>
       go_wp2_with fail
       go_roundw
       case rel=>exact ⟨n+1,b2,by have:=HNL.out;omega,by go_num,by first | rfl | exact trivial,by first | rfl | exact trivial,HFS.out⟩
       case measure=>simp only [intOf];have:=HNL.out;omega
     obtain rfl:HL=n:=by omega
     have i5:¬(HL:Int)<(HL:Int):=by omega
     have HNE:Hid (nextAt md out m=fb):=by show _=_;rw [HNX.out,HHL.out,HFB.out];rfl
     clear HFB
     cases fb with
     | false =>
      go_wp2_with fail
      go_roundw
      case rel=>exact ⟨m+1,by have:=HML.out;omega,by go_num,by first | rfl | exact trivial,.inl ⟨rfl,HNO.out HNE.out⟩⟩
      case measure=>simp only [intOf];have:=HML.out;omega
     | true =>
      go_wp2_with fail
      go_roundw
      case rel=>exact ⟨m+1,by have:=HML.out;omega,by go_num,by first | rfl | exact trivial,.inr ⟨m,rfl,HML.out,HNE.out,HF.out⟩⟩
      case measure=>simp only [intOf];have:=HML.out;omega
   obtain rfl:PN=m:=by omega
   have i3:¬(PN:Int)<(PN:Int):=by omega
   have HEN:Hid (out=orderL md):=HA.out.stop (by rw [HPN.out];exact HF.out)
   go_wp2_with fail
   go_ret
   exact ret_order HBE.out HO.out HEN.out
  have hjp:j<(placesL md).length:=by rw [HPN.out];exact hj
  have i5:¬(j:Int)<0:=by omega
  have i6:(0:Int)<=(j:Int):=by omega
  have i7:(j:Int)<(PN:Int):=by omega
  have HJL:=hid hj
  obtain ⟨b0,b1,b2,hb⟩:∃b0 b1 b2,(placesL md)[j]'hjp=(b0,b1,b2):=⟨_,_,_,rfl⟩
  obtain ⟨c0,c1,c2⟩:=HPC.out j hjp b0 b1 b2 hb
  obtain ⟨z0,f0⟩:=HK.out.cell hj
  have HA2:Hid (OrdAt md (out++[(b0,b1,b2)])):=by
   have h:=HA.out.next hjp HF.out.1 HF.out.2
   rw [hb] at h
   exact h
  have HK2:Hid (MarkR (wo.setCell ⟨g0,j,none⟩ (.bool true)) g0 PN (marksOf (placesL md) (out++[(b0,b1,b2)]))):=by
   have h:=HK.out.set j
   rw [marksOf_snoc (placesL_nodup md) hjp,hb] at h
   exact h
  have hbs:Below g0 w4 (wo.setCell ⟨g0,j,none⟩ (.bool true)):=HBO.out.setCell (p:=⟨g0,j,none⟩) (Nat.le_refl _) (.bool true)
  have hgs:g0<w5.heap.size:=HMK.out.lt
  have hos:OutP (wo.setCell ⟨g0,j,none⟩ (.bool true)) w5.heap.size oa oc L out:=HO.out.setAt hgs _
  have hss:(wo.setCell ⟨g0,j,none⟩ (.bool true)).heap.size=wo.heap.size:=World.size_setCell ..
  obtain ⟨wp,hwp⟩:∃wp,wo.setCell ⟨g0,j,none⟩ (.bool true)=wp:=⟨_,rfl⟩
  rw [hwp] at hbs hos hss HK2
  have HWP:=hid hwp
  have hkb:=HPB4.out wp hbs pb HPB.out
  have e0:=(World.cell?_of_block hkb).trans c0
  have e1:=(World.cell?_of_block hkb).trans c1
  have e2:=(World.cell?_of_block hkb).trans c2
  obtain ⟨oa',oc',w8,hap,ho8,hg8⟩:=hos.snocG (b0,b1,b2) (by rw [hss];exact HSZ.out) (by omega)
  have hba:=hbs.alloc (by have:=HSZ.out;omega) (.cells #[.int .i64 b0,.int .i64 b1,.int .i64 b2] 33)
  have hsa:wp.heap.size<=(wp.alloc (.cells #[.int .i64 b0,.int .i64 b1,.int .i64 b2] 33)).heap.size:=(below_alloc wp _).size
  have HB8:=hid (hba.grown hg8 (by have:=HSZ.out;omega) (fun k hk=>by have:=(hos.lt k hk).1;omega))
  have HS8:Hid (w5.heap.size<=w8.heap.size):=by
   have h1:(wp.alloc (.cells #[.int .i64 b0,.int .i64 b1,.int .i64 b2] 33)).heap.size<=w8.heap.size:=hg8.size
   have h2:=HSZ.out
   show _<=_
   omega
  have HM8:Hid (MarkR w8 g0 PN (marksOf (placesL md) (out++[(b0,b1,b2)]))):=(HK2.out.below (below_alloc wp _)).grown hg8 (fun e=>by have:=(hos.lt g0 e.symm).1;omega)
  have HAP:=hid hap
  have HO8:=hid ho8
  clear hap ho8 hg8 hba hsa hos hss hkb c0 c1 c2 hb hwp hbs hjp HF HK2
  have hcm:(m:Int)<(PN:Int)\/¬(m:Int)<(PN:Int):=by omega
  rcases hcm with i8 | i8
  all_goals
   go_upto_region 36 with fail
   rw [HWP.out]
   go_wp2_with (at_builtin;refine wpList_append_run (by rfl) (.tmp 115) (.tmp 120) 42 (by rfl) (by rfl) (by rfl) HAP.out ?_)
   go_roundw
   case rel=>exact ⟨oa',oc',L+1,rfl,HB8.out,HS8.out,⟨out++[(b0,b1,b2)],HO8.out,HA2.out,HM8.out⟩⟩
   case measure=>simp only [lenS];have:=HLL.out;omega
 have i1:¬(L:Int)<(PN:Int):=by omega
 have HEN:Hid (out=orderL md):=HA.out.full (by rw [HPN.out,<-HO.out.1];exact hlt)
 clear hlt
 go_wp2_with fail
 go_ret
 exact ret_order HBE.out HO.out HEN.out
end Go.Proofs.YtfbbkmdhnkmonaaGreatDoor
