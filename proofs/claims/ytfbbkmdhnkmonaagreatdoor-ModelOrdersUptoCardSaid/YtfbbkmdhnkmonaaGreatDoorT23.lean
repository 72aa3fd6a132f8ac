/- Proved, each under the conditions that it names: docketref18: lean; docketref18: Within, opens, closes. -/
import Derived.Test.YtfbbkmdhnkmonaaGreatDoorT22
set_option maxRecDepth 100000
set_option maxHeartbeats 32000000
namespace Go.Proofs.YtfbbkmdhnkmonaaGreatDoor
open Go.RowKit
theorem elemInt:Elem Tryz.prog 67 3 1 8:=⟨Tryz.underlying67,⟨.int .i64 0,by kernel_rfl,rfl⟩,by omega,Tryz.sizeOf3⟩
abbrev intC (i:Int):List Value:=[.int .i64 i]
abbrev IntsM (lo:Nat) (w:World) (v:Value) (xs:List Int):Prop:=Mem false (From lo) w (flatL 1 intC xs) v
def OwnI (W:World) (B:Nat) (va:Option Addr) (vc L:Nat) (xs:List Int):Prop:=L=xs.length/\Own W B 3 1 va vc L (xs.flatMap intC)
theorem OwnI.nil (W:World) (B:Nat):OwnI W B none 0 0 []:=⟨rfl,by simpa using Own.nil W B _ 1⟩
theorem OwnI.below {W W':World} {B:Nat} {va:Option Addr} {vc L:Nat} {xs:List Int} (h:OwnI W B va vc L xs) (hb:Below W.heap.size W W'):OwnI W' B va vc L xs:=⟨h.1,h.2.below hb (Nat.le_refl _)⟩
theorem OwnI.snoc {W:World} {B:Nat} {va:Option Addr} {vc L:Nat} {xs:List Int} (i:Int) (h:OwnI W B va vc L xs) (hb:B<=W.heap.size) (hl:L<=4000000) :
  ∃va' vc' w',(Builtin.append_ #[67,67] 67 #[.slice va L vc,.slice (some ⟨W.heap.size,0,none⟩) 1 1]).run Tryz.prog (W.alloc (.cells #[.int .i64 i] 3))=.ok (.slice va' (L+1) vc') w'/\OwnI w' B va' vc' (L+1) (xs++[i])/\(W.alloc (.cells #[.int .i64 i] 3)).grownBy w' (blockOf va):=by
 obtain ⟨rfl,ho⟩:=h
 have hc:(W.alloc (.cells #[.int .i64 i] 3)).cell? ⟨W.heap.size,0,none⟩=some (.int .i64 i):=(Arr.new W [.int .i64 i] _).cell (j:=0) (by simp)
 have ho2:=ho.alloc (.cells #[.int .i64 i] 3)
 obtain ⟨va',vc',w',hap,ho5,hg5⟩:=Own.app elemInt 67 ho2 (by rw [size_alloc];omega) (some ⟨W.heap.size,0,none⟩) 1 1 W.heap.size 0 [.int .i64 i] rfl (fun _=>rfl) (fun j u hj=>by
  cases j with
  | zero=>simp at hj;subst hj;exact hc
  | succ j=>simp at hj) (fun u hu=>by rw [List.mem_singleton.1 hu];rfl) (by unfold maxLen;omega) (by omega)
 exact ⟨va',vc',w',hap,⟨by simp,by simpa using ho5⟩,hg5⟩
theorem mem_read {o:Bool} {P:Nat->Prop} {w:World} {d:D} {v:Value} (h:Mem o P w d v):Mem false P w d v:=by
 induction h with
 | atom v=>exact .atom v
 | list k es vs a c b off hl hle ha hk1 hk2 hc hm ih=>exact .list k es vs a c b off hl hle ha hk1 hk2 (fun j v i u hj hi=>⟨(hc j v i u hj hi).1,fun h=>by cases h⟩) ih
theorem OwnI.mem {W:World} {B:Nat} {va:Option Addr} {vc L:Nat} {xs:List Int} (h:OwnI W B va vc L xs):IntsM B W (.slice va L vc) xs:=by
 obtain ⟨rfl,ho⟩:=h
 exact mem_read (flat_own (f:=intC) ho (by omega) (fun _=>rfl))
theorem OwnI.row {W:World} {B:Nat} {va:Option Addr} {vc L:Nat} {xs:List Int} (h:OwnI W B va vc L xs):∀j,blockOf va=some j->B<=j:=fun j hj=>by
 rcases h.2.block with ⟨h1,_⟩ | ⟨g,h1,h2,_⟩
 ·rw [h1] at hj;cases hj
 rw [h1] at hj;cases hj;exact h2
theorem KeepR.grown {R:Nat} {w w1 w':World} {row:Option Nat} (h:KeepR R w w1) (hg:w1.grownBy w' row) (hr:∀j,row=some j->w.heap.size<=j):KeepR R w w' :=
 ⟨hg.os.trans h.os,hg.tape.trans h.tape,hg.output.trans h.output,Nat.le_trans h.size hg.size,fun k hk hne=>(hg.block k (Nat.lt_of_lt_of_le hk h.size) (fun e=>by have:=hr k e.symm;omega)).trans (h.block k hk hne)⟩
theorem Arr.grown {w w':World} {g:Nat} {t:TypeId} {vs:List Value} {row:Option Nat} (h:Arr w g t vs) (hg:w.grownBy w' row) (hr:some g≠row):Arr w' g t vs:=⟨(hg.block g h.lt hr).trans h.heap⟩
theorem IntsM.keepR {lo R:Nat} {w w':World} {v:Value} {xs:List Int} (h:IntsM lo w v xs) (hR:R<lo) (hk:KeepR R w w'):IntsM lo w' v xs:=h.kept (fun k hp hl=>hk.block k hl (by have:lo<=k:=hp;omega)) hk.size
theorem NStr.form {lo:Nat} {w:World} {v:Value} {xs:List ByteArray} (h:NStr lo w v xs):∃a c,v=.slice a xs.length c/\(0<xs.length->∃b o,a=some ⟨b,o,none⟩/\lo<=b/\b<w.heap.size/\∀j (hj:j<xs.length),w.cell? ⟨b,o+j,none⟩=some (.string xs[j])):=by
 rcases h with ⟨rfl,rfl⟩ | ⟨h0,b,o,c,rfl,-,⟨h1,h2⟩,h3⟩
 ·exact ⟨none,0,rfl,fun h=>absurd h (by simp)⟩
 exact ⟨_,c,rfl,fun _=>⟨b,o,rfl,h1,h2,h3⟩⟩
theorem KeepR.cellR {R:Nat} {w w':World} (h:KeepR R w w') {b o:Nat} (hb:b<w.heap.size) (hne:b≠R) {v:Value} (hc:w.cell? ⟨b,o,none⟩=some v):w'.cell? ⟨b,o,none⟩=some v:=by
 rw [World.cell?_of_block (h.block b hb hne)];exact hc
theorem OwnI.setAt {W:World} {B:Nat} {va:Option Addr} {vc L:Nat} {xs:List Int} (h:OwnI W B va vc L xs) {g j:Nat} (hg:g<B) (u:Value):OwnI (W.setCell ⟨g,j,none⟩ u) B va vc L xs:=by
 obtain ⟨h1,h2⟩:=h
 refine ⟨h1,h2.setCell (fun g' hg' e=>?_) u⟩
 have:=(h2.lt hg').1
 simp only at e
 omega
theorem OwnI.drew {W:World} {B:Nat} {va:Option Addr} {vc L:Nat} {xs:List Int} (h:OwnI W B va vc L xs):OwnI W.drew B va vc L xs:=⟨h.1,h.2.drew⟩
theorem take_map_int {α:Type} (f:α->Int) {l:List α} {m:Nat} (h:m<l.length):(l.take m).map f++[f l[m]]=(l.take (m+1)).map f:=by
 rw [List.take_succ_eq_append_getElem h,List.map_append];simp
theorem set6 {W:World} {R:Nat} {T:TypeId} {c0 c1 c2 c3 c4 c5:Value} {vs:List Value} (h:Arr W R T vs) (hl:vs.length=6) :
  Arr ((((((W.setCell ⟨R,0,none⟩ c0).setCell ⟨R,1,none⟩ c1).setCell ⟨R,2,none⟩ c2).setCell ⟨R,3,none⟩ c3).setCell ⟨R,4,none⟩ c4).setCell ⟨R,5,none⟩ c5) R T [c0,c1,c2,c3,c4,c5] /\
  KeepR R W ((((((W.setCell ⟨R,0,none⟩ c0).setCell ⟨R,1,none⟩ c1).setCell ⟨R,2,none⟩ c2).setCell ⟨R,3,none⟩ c3).setCell ⟨R,4,none⟩ c4).setCell ⟨R,5,none⟩ c5):=by
 refine ⟨?_,((((((KeepR.refl R W).setCell c0).setCell c1).setCell c2).setCell c3).setCell c4).setCell c5⟩
 have h6:=(((((h.set 0 c0).set 1 c1).set 2 c2).set 3 c3).set 4 c4).set 5 c5
 match vs,hl with
 | [_,_,_,_,_,_],_=>exact h6
theorem cells6 {W:World} {g:Nat} {T:TypeId} {c0 c1 c2 c3 c4 c5:Value} (h:Arr W g T [c0,c1,c2,c3,c4,c5]):W.cell? ⟨g,0,none⟩=some c0/\W.cell? ⟨g,1,none⟩=some c1/\W.cell? ⟨g,2,none⟩=some c2/\W.cell? ⟨g,3,none⟩=some c3/\W.cell? ⟨g,4,none⟩=some c4/\W.cell? ⟨g,5,none⟩=some c5 :=
 ⟨h.cell (j:=0) (by simp),h.cell (j:=1) (by simp),h.cell (j:=2) (by simp),h.cell (j:=3) (by simp),h.cell (j:=4) (by simp),h.cell (j:=5) (by simp)⟩
def LeanEnd (md:ModelD) (a:Pl) (s:SentryD) (w:World) (e:Ending) (w':World):Prop:=Below w.heap.size w w'/\∃x va n vc ta tn tc,e=.returned (.agg #[.int .u8 s.on,.string s.name,.string s.cond,.int .i64 x.inn,.slice va n vc,.slice ta tn tc])/\IntsM w.heap.size w' (.slice va n vc) x.stages/\IntsM w.heap.size w' (.slice ta tn tc) x.stones/\LeanOf md a s x/\(∀i∈x.stages,-1<=i/\i<md.stages.length)/\x.stages.length<=60000/\x.stones.length<=60000
theorem ret_lean {W:World} {a:Act} {g:Nat} {c0 c1 c2 c3 c4 c5:Value} {R:Ending->World->Prop} (h2:a.tmps.getD 4 undef=.pointer (some ⟨g,0,none⟩)) (hd:a.defers=[])
  (hg:Arr W g 69 [c0,c1,c2,c3,c4,c5]) (hR:R (.returned (.agg #[c0,c1,c2,c3,c4,c5])) W):bodyPost Tryz.prog Tryz.f26 R .ret a W:=by
 refine bodyPost_ret ?_ hd hR
 have h2':a.tmps[4]?.getD undef=.pointer (some ⟨g,0,none⟩):=by simpa using h2
 have x0:=hg.cell (j:=0) (by simp)
 have x1:=hg.cell (j:=1) (by simp)
 have x2:=hg.cell (j:=2) (by simp)
 have x3:=hg.cell (j:=3) (by simp)
 have x4:=hg.cell (j:=4) (by simp)
 have x5:=hg.cell (j:=5) (by simp)
 simp only [gE0,gE1] at x0 x1 x2 x3 x4 x5
 simp [results,Tryz.results26,h2',go_sem,x0,x1,x2,x3,x4,x5]
theorem rfLean_walk (md:ModelD) (v:ModelV) (a:Pl) (s:SentryD) (w:World) (hz:md.Sml) (hs:senAt md a=some s) (ha:a.1=1->0<=a.2.1/\a.2.1<md.stages.length) (hc:s.cond.size≠0->∃t,readOf s.cond=some t) (hM:ModelM false (From 0) w md v) :
  Calls Tryz.prog 26 #[.agg (v.cs md).toArray,plV a] w (LeanEnd md a s w):=by
 obtain ⟨va1,vc1,va2,vc2,va3,vc3,va4,vc4,va5,vc5⟩:=v
 obtain ⟨a0,a1,a2⟩:=a
 simp only [plV]
 simp only at ha
 obtain ⟨wa,hwa⟩:∃wa,w.alloc (.cells (ModelV.cs ⟨va1,vc1,va2,vc2,va3,vc3,va4,vc4,va5,vc5⟩ md).toArray 31)=wa:=⟨_,rfl⟩
 obtain ⟨wb,hwb⟩:∃wb,wa.alloc (.cells #[.int .i64 a0,.int .i64 a1,.int .i64 a2] 33)=wb:=⟨_,rfl⟩
 obtain ⟨w2,hw2⟩:∃w2,wb.alloc (.cells #[.int .u8 0,.string ⟨#[]⟩,.string ⟨#[]⟩,.int .i64 0,.slice none 0 0,.slice none 0 0] 69)=w2:=⟨_,rfl⟩
 have hza:wa.heap.size=w.heap.size+1:=by rw [<-hwa,size_alloc]
 have hzb:wb.heap.size=w.heap.size+1+1:=by rw [<-hwb,size_alloc,hza]
 have hz2:w2.heap.size=w.heap.size+1+1+1:=by rw [<-hw2,size_alloc,hzb]
 have hba:Below w.heap.size w wa:=hwa▸(Below.refl _ _).alloc (Nat.le_refl _) _
 have hbb:Below w.heap.size w wb:=hwb▸hba.alloc (by omega) _
 have hb2:Below w.heap.size w w2:=hw2▸hbb.alloc (by omega) _
 have hxm:Arr w2 w.heap.size 31 (ModelV.cs ⟨va1,vc1,va2,vc2,va3,vc3,va4,vc4,va5,vc5⟩ md):=hw2▸(show Arr wb _ _ _ from hwb▸(show Arr wa _ _ _ from hwa▸Arr.new w (ModelV.cs ⟨va1,vc1,va2,vc2,va3,vc3,va4,vc4,va5,vc5⟩ md) _).alloc _).alloc _
 have hxa:Arr w2 (w.heap.size+1) 33 [.int .i64 a0,.int .i64 a1,.int .i64 a2]:=hw2▸(show Arr wb _ _ _ from by
  have:=Arr.new wa [.int .i64 a0,.int .i64 a1,.int .i64 a2] 33
  rw [hza] at this
  exact hwb▸this).alloc _
 have hxr:Arr w2 (w.heap.size+1+1) 69 [.int .u8 0,.string ⟨#[]⟩,.string ⟨#[]⟩,.int .i64 0,.slice none 0 0,.slice none 0 0]:=by
  have:=Arr.new wb [.int .u8 0,.string ⟨#[]⟩,.string ⟨#[]⟩,.int .i64 0,.slice none 0 0,.slice none 0 0] 69
  rw [hzb] at this
  exact hw2▸this
 have HM:=hid (fun W (hb:Below w.heap.size w W)=>hM.grow hb)
 have hat:atS md (a0,a1,a2)=(s,true):=by rw [atS,hs]
 have hAT:=rfAt_walk md ⟨va1,vc1,va2,vc2,va3,vc3,va4,vc4,va5,vc5⟩ (a0,a1,a2) w2 (hM.grow hb2)
 rw [hat] at hAT
 have HAT:=hid hAT
 have HXM:=hid hxm
 have HXA:=hid hxa
 have HXR:=hid hxr
 have HB2:=hid hb2
 have HWA:=hid hwa
 have HWB:=hid hwb
 have HW2:=hid hw2
 have HZ:=hid hz
 have HA:=hid ha
 have HC:=hid hc
 have HS2:Hid (w2.heap.size=w.heap.size+1+1+1):=hz2
 obtain ⟨y0,y1,y2,y3,y4,y5⟩:=box6 hxm (Below.refl _ _)
 have r0:=hxa.cell (j:=0) (by simp)
 have r1:=hxa.cell (j:=1) (by simp)
 have r2:=hxa.cell (j:=2) (by simp)
 simp only [gE0,gE1] at r0 r1 r2
 clear hM hba hbb hb2 hxm hxa hxr hwa hwb hw2 hz ha hc hs hat hAT hza hzb hz2
 go_enter Tryz.func26,Tryz.ntmps26
 go_upto_region 1 with fail
 rw [HWA.out,HWB.out,HW2.out]
 go_wp2_with fail
 refine HAT.out.mono ?_
 rintro e w3 ⟨rfl,hb3⟩
 obtain ⟨w4,hw4⟩:∃w4,w3.alloc (.cells #[.int .u8 s.on,.string s.name,.string s.cond] 35)=w4:=⟨_,rfl⟩
 obtain ⟨w5,hw5⟩:∃w5,w4.alloc (.cells #[.int .u8 s.on,.string s.name,.string s.cond,.int .i64 (-1),.slice none 0 0,.slice none 0 0] 69)=w5:=⟨_,rfl⟩
 have hz4:w4.heap.size=w3.heap.size+1:=by rw [<-hw4,size_alloc]
 have hz5:w5.heap.size=w3.heap.size+1+1:=by rw [<-hw5,size_alloc,hz4]
 have hb4:Below w2.heap.size w2 w4:=hw4▸hb3.alloc hb3.size _
 have hb5:Below w2.heap.size w2 w5:=hw5▸hb4.alloc hb4.size _
 have hxs:Arr w5 w3.heap.size 35 [.int .u8 s.on,.string s.name,.string s.cond]:=hw5▸(show Arr w4 _ _ _ from hw4▸Arr.new w3 _ _).alloc _
 have hxo:Arr w5 w4.heap.size 69 [.int .u8 s.on,.string s.name,.string s.cond,.int .i64 (-1),.slice none 0 0,.slice none 0 0]:=hw5▸Arr.new w4 _ _
 obtain ⟨g,hg⟩:∃g,w3.heap.size+1=g:=⟨_,rfl⟩
 obtain ⟨sb,hsb⟩:∃sb,w3.heap.size=sb:=⟨_,rfl⟩
 have HGS:Hid (w.heap.size+1+1<sb/\sb<g/\g<w5.heap.size):=by
  have h1:=hb3.size
  have h2:=HS2.out
  show _/\_/\_
  omega
 rw [hz4,hg] at hxo
 rw [hsb] at hxs
 have HXO:=hid hxo
 have HXS:=hid hxs
 have HB25:=hid hb5
 have HB5:=hid (HB2.out.trans (hb5.mono HB2.out.size))
 have HW4:=hid hw4
 have HW5:=hid hw5
 have HSB:=hid hsb
 have HGG:=hid hg
 have HKP:Hid (∀W,KeepR g w5 W->Below w.heap.size w W/\W.cell? ⟨w.heap.size,0,none⟩=some (.string md.name)/\W.cell? ⟨w.heap.size,1,none⟩=some (.slice va1 md.attrs.length vc1)/\W.cell? ⟨w.heap.size,2,none⟩=some (.slice va2 md.events.length vc2)/\W.cell? ⟨w.heap.size,3,none⟩=some (.slice va3 md.stages.length vc3)/\W.cell? ⟨w.heap.size,4,none⟩=some (.slice va4 md.stones.length vc4)/\W.cell? ⟨w.heap.size,5,none⟩=some (.slice va5 md.apart.length vc5)/\W.cell? ⟨w.heap.size+1,0,none⟩=some (.int .i64 a0)/\W.cell? ⟨w.heap.size+1,1,none⟩=some (.int .i64 a1)/\W.cell? ⟨w.heap.size+1,2,none⟩=some (.int .i64 a2)/\W.cell? ⟨sb,0,none⟩=some (.int .u8 s.on)/\W.cell? ⟨sb,1,none⟩=some (.string s.name)/\W.cell? ⟨sb,2,none⟩=some (.string s.cond)/\Arr W (w.heap.size+1+1) 69 [.int .u8 0,.string ⟨#[]⟩,.string ⟨#[]⟩,.int .i64 0,.slice none 0 0,.slice none 0 0]):=fun W hk=>by
  have hgs:=HGS.out
  have h2:=HS2.out
  have hbW:=HB5.out.trans (hk.below (B:=w.heap.size) (by omega) HB5.out.size)
  have hm5:=(HXM.out.below HB25.out HXM.out.lt).keepR hk (by omega)
  have ha5:=(HXA.out.below HB25.out HXA.out.lt).keepR hk (by omega)
  have hs5:=HXS.out.keepR hk (by omega)
  obtain ⟨q0,q1,q2,q3,q4,q5⟩:=box6 hm5 (Below.refl _ _)
  have p0:=ha5.cell (j:=0) (by simp)
  have p1:=ha5.cell (j:=1) (by simp)
  have p2:=ha5.cell (j:=2) (by simp)
  have t0:=hs5.cell (j:=0) (by simp)
  have t1:=hs5.cell (j:=1) (by simp)
  have t2:=hs5.cell (j:=2) (by simp)
  simp only [gE0,gE1] at p0 p1 p2 t0 t1 t2
  exact ⟨hbW,q0,q1,q2,q3,q4,q5,p0,p1,p2,t0,t1,t2,(HXR.out.below HB25.out HXR.out.lt).keepR hk (by omega)⟩
 obtain ⟨inn,hinn⟩:∃inn,(if a0=1 then ((md.stages[a1.toNat]?).map StageD.inn).getD (-1) else -1)=inn:=⟨_,rfl⟩
 have HINN:=hid hinn
 clear hb3 hw4 hw5 hz4 hz5 hb4 hb5 hxs hxo hg hsb HAT y0 y1 y2 y3 y4 y5 r0 r1 r2 hinn
 go_upto_region 3 with fail
 rw [HW4.out,HW5.out,HGG.out,HSB.out]
 obtain ⟨hbx,y0,y1,y2,y3,y4,y5,r0,r1,r2,t0,t1,t2,-⟩:=HKP.out w5 (KeepR.refl _ _)
 have HBW5:=hid hbx
 have x0:=HXO.out.cell (j:=0) (by simp)
 have x1:=HXO.out.cell (j:=1) (by simp)
 have x2:=HXO.out.cell (j:=2) (by simp)
 have x3:=HXO.out.cell (j:=3) (by simp)
 have x4:=HXO.out.cell (j:=4) (by simp)
 have x5:=HXO.out.cell (j:=5) (by simp)
 have f3:=HXO.out.frozen 3
 simp only [gE0,gE1] at x0 x1 x2 x3 x4 x5
 clear hbx
 go_upto_if 27 with fail
 go_cut [] (fun wx=>Hid (KeepR g w5 wx)/\Hid (Arr wx g 69 [.int .u8 s.on,.string s.name,.string s.cond,.int .i64 inn,.slice none 0 0,.slice none 0 0]))
 case first =>
  by_cases h1:a0=1
  ·have e1:(a0==1)=true:=by simp [h1]
   obtain ⟨h2,h3⟩:=HA.out h1
   obtain ⟨m,rfl⟩:∃m:Nat,a1=m:=⟨a1.toNat,by omega⟩
   have hml:m<md.stages.length:=by omega
   have i1:(m:Int)<(md.stages.length:Int):=by omega
   have i2:(0:Int)<=(m:Int):=by omega
   obtain ⟨b,off,hva,hbl,d1,e1',d2,e2,-,-,-,c1,-,-,-,-,-⟩:=stage_at (HM.out w5 HBW5.out) hml
   obtain rfl:va3=some ⟨b,off,none⟩:=hva
   have HI2:Hid ((md.stages[m]'hml).inn=inn):=by
    show _=_
    rw [<-HINN.out,if_pos h1,Int.toNat_natCast,List.getElem?_eq_getElem hml];rfl
   rw [HI2.out] at c1
   have HOE:Hid (Arr (w5.setCell ⟨g,3,none⟩ (.int .i64 inn)) g 69 [.int .u8 s.on,.string s.name,.string s.cond,.int .i64 inn,.slice none 0 0,.slice none 0 0]):=HXO.out.set 3 (.int .i64 inn)
   have HKE:Hid (KeepR g w5 (w5.setCell ⟨g,3,none⟩ (.int .i64 inn))):=(KeepR.refl g w5).setCell _
   clear h1 h2 h3
   go_wp2_with fail
   go_meet
   exact ⟨HKE.out,HOE.out⟩
  have e1:(a0==1)=false:=by simp [h1]
  have HI2:Hid (inn = -1):=by
   show _=_
   rw [<-HINN.out,if_neg h1]
  have HOE:Hid (Arr w5 g 69 [.int .u8 s.on,.string s.name,.string s.cond,.int .i64 inn,.slice none 0 0,.slice none 0 0]):=by
   have h:=HXO.out
   rw [<-HI2.out] at h
   exact h
  clear h1
  go_wp2_with fail
  go_meet
  exact ⟨KeepR.refl _ _,HOE.out⟩
 obtain ⟨HK6,HO6⟩:=hcut
 rename World=>w6
 clear y0 y1 y2 y3 y4 y5 r0 r1 r2 t0 t1 t2 x0 x1 x2 x3 x4 x5 f3 HBW5 HXO
 obtain ⟨hbx,y0,y1,y2,y3,y4,y5,r0,r1,r2,t0,t1,t2,hRX⟩:=HKP.out w6 HK6.out
 have HBW6:=hid hbx
 have HRX:=hid hRX
 clear hbx hRX
 by_cases h0:s.cond.size=0
 ·have e0:s.cond.toList.isEmpty=true:=by rw [nz_emp];exact decide_eq_true h0
  obtain ⟨x0,x1,x2,x3,x4,x5⟩:=cells6 HO6.out
  obtain ⟨z0,z1,z2,z3,z4,z5⟩:=cells6 HRX.out
  have f0:=HRX.out.frozen 0
  have f1:=HRX.out.frozen 1
  have f2:=HRX.out.frozen 2
  have f3:=HRX.out.frozen 3
  have f4:=HRX.out.frozen 4
  have f5:=HRX.out.frozen 5
  have H0:=hid h0
  clear h0
  go_wp2_with fail
  have h6:=set6 (c0:=.int .u8 s.on) (c1:=.string s.name) (c2:=.string s.cond) (c3:=.int .i64 inn) (c4:=.slice none 0 0) (c5:=.slice none 0 0) HRX.out rfl
  refine ret_lean rfl rfl h6.1 ?_
  refine ⟨HBW6.out.trans (h6.2.below (by omega) HBW6.out.size),⟨s.on,s.name,s.cond,inn,[],[]⟩,none,0,0,none,0,0,rfl,nil_memR _ _ _ _,nil_memR _ _ _ _,⟨rfl,rfl,rfl,HINN.out.symm,fun _=>⟨rfl,rfl⟩,fun h=>absurd H0.out h⟩,fun i hi=>absurd hi (by simp),by simp,by simp⟩
 have e0:s.cond.toList.isEmpty=false:=by rw [nz_emp];exact decide_eq_false h0
 have H0:=hid h0
 have HR:=hid (rfRead_walkA s.cond w6)
 clear h0
 go_wp2_with fail
 refine HR.out.mono ?_
 intro e w7 hr
 obtain ⟨hb7,gg,aa,cc,cs,rfl,hgi,hA7⟩:=hr.answer
 obtain ⟨t,hro⟩:=HC.out H0.out
 obtain ⟨rfl,rfl⟩:gg=t.toGD/\cc=0:=by
  rcases hA7.told with ⟨t',hro',h1,h2⟩ | ⟨hro',-,-⟩
  ·rw [hro] at hro'
   injection hro' with hro'
   rw [hro'];exact ⟨h1,h2⟩
  rw [hro] at hro';cases hro'
 have HRO:=hid hro
 obtain ⟨gn,ga,gl,gc,rfl⟩:=gin_kt hgi
 have hmay:=readOf_may hro
 obtain ⟨w8,hw8⟩:∃w8,w7.alloc (.cells #[.int .u8 t.kd,.int .i64 gn,.string t.tx,.slice ga gl gc] 80)=w8:=⟨_,rfl⟩
 have hb8:Below w7.heap.size w7 w8:=hw8▸(Below.refl _ _).alloc (Nat.le_refl _) _
 have hL8:Arr w8 w7.heap.size 80 [.int .u8 t.kd,.int .i64 gn,.string t.tx,.slice ga gl gc]:=hw8▸Arr.new w7 _ _
 have hb68:=hb7.trans (hb8.mono hb7.size)
 have HB68:=hid hb68
 have HN:=hid (rfNamesG_walk t _ w8 hmay.1 hmay.2.1 hmay.2.2 (hgi.keepB hb8))
 obtain ⟨z0,z1,z2,z3⟩:=box4 hL8 (Below.refl _ _)
 have HW8:=hid hw8
 clear hr hb7 hgi hA7 hro hmay hb8 hL8 hb68 hw8 HR y0 y1 y2 y3 y4 y5 r0 r1 r2 t0 t1 t2
 go_upto_region 7 with fail
 rw [HW8.out]
 go_wp2_with fail
 refine HN.out.mono ?_
 rintro e w9 ⟨hb9,u5,u6,u7,l6,l7,rfl,hn6,hn7,hc6,hc7,hm6,hm7⟩
 have hb69:=HB68.out.trans (hb9.mono HB68.out.size)
 have HK9:=hid (HK6.out.next hb69)
 have HO9:=hid (HO6.out.below hb69 HO6.out.lt)
 have HG8:Hid (g<w8.heap.size/\g<w9.heap.size):=by
  have h1:=HO6.out.lt
  have h2:=HB68.out.size
  have h3:=hb9.size
  show _/\_
  omega
 have HM6:=hid hm6
 have HM7:=hid hm7
 have HC67:=hid (And.intro hc6 hc7)
 obtain ⟨ua6,uc6,rfl,hf6⟩:=hn6.form
 obtain ⟨ua7,uc7,rfl,hf7⟩:=hn7.form
 have HF6:=hid hf6
 have HF7:=hid hf7
 clear hn6 hn7 hm6 hm7 hf6 hf7 hb9 hb69 HN z0 z1 z2 z3 HW8 HO6
 obtain ⟨N6,hN6⟩:∃n,l6.length=n:=⟨_,rfl⟩
 obtain ⟨N7,hN7⟩:∃n,l7.length=n:=⟨_,rfl⟩
 have HN6:=hid hN6
 have HN7:=hid hN7
 rw [hN6] at hc6 ⊢
 rw [hN7] at hc7 ⊢
 clear hN6 hN7
 go_wp2_with fail
 go_loopw [15] (fun i wr=>∃(m:Nat) (va:Option Addr) (vc L:Nat),m<=N6/\i=.int .i64 (m:Int)/\Hid (KeepR g w9 wr)/\Hid (Arr wr g 69 [.int .u8 s.on,.string s.name,.string s.cond,.int .i64 inn,.slice va L vc,.slice none 0 0])/\Hid (OwnI wr w9.heap.size va vc L ((l6.take m).map (stageIx md)))) (fun i _=>N6-(intOf i).toNat)
 case atStart=>exact ⟨0,none,0,0,Nat.zero_le _,rfl,KeepR.refl _ _,HO9.out,OwnI.nil _ _⟩
 obtain ⟨m,va,vc,L,hml,rfl,HKW,HOW,HIW⟩:=hrel
 obtain ⟨wo,rfl⟩:∃wo,wo=wr:=⟨_,rfl⟩
 by_cases hlt:m<N6
 ·have i1:(m:Int)<(N6:Int):=by omega
  have i2:(0:Int)<=(m:Int):=by omega
  have HML:=hid hlt
  have hmx:m<l6.length:=by rw [HN6.out];exact hlt
  obtain ⟨b6,o6,rfl,hlo6,hlt6,hcell6⟩:=HF6.out (by omega)
  obtain ⟨sm,hsm⟩:∃sm,l6[m]'hmx=sm:=⟨_,rfl⟩
  have HTX:Hid (∀W,KeepR g w9 W->W.cell? ⟨b6,o6+m,none⟩=some (.string sm)):=fun W hk=>hk.cellR hlt6 (by have:=HG8.out;omega) (by rw [<-hsm];exact hcell6 m hmx)
  obtain ⟨q,hq⟩:∃q,stageIx md sm=q:=⟨_,rfl⟩
  have HST:Hid (∀W,KeepR g w9 W->Calls Tryz.prog 60 #[.agg (ModelV.cs ⟨va1,vc1,va2,vc2,va3,vc3,va4,vc4,va5,vc5⟩ md).toArray,.string sm] W (fun e w'=>e=.returned (.int .i64 q)/\Below W.heap.size W w')):=fun W hk=>by
   have h:=rfStage_walk md ⟨va1,vc1,va2,vc2,va3,vc3,va4,vc4,va5,vc5⟩ sm W HZ.out.stages (HM.out W (HKP.out W (HK9.out.trans hk)).1)
   rw [hq] at h
   exact h
  have HTM:Hid ((l6.take m).map (stageIx md)++[q]=(l6.take (m+1)).map (stageIx md)):=by
   show _=_
   rw [<-hq,<-hsm];exact take_map_int (stageIx md) hmx
  have hLm:L<=60000:=by
   have h1:=HIW.out.1
   rw [List.length_map,List.length_take] at h1
   omega
  have HRW:=hid HIW.out.row
  have k3:IntKind.i64.wrap ((m:Int)+1)=(m:Int)+1:=wrap_i64 (by omega) (by omega)
  have HOz:=hid HOW.out.drew
  have HIz:=hid HIW.out.drew
  clear hsm hq hcell6 hlo6 hlt6 HOW HIW hmx
  go_upto_region 11 with fail
  refine wp_region_held_drew (S:=(fun W'=>KeepR g w9 W')) (by kernel_rfl) (HKW.out.drew) (fun hH=>?_)
  generalize wo.drew=wz at hH HOz HIz ⊢
  obtain ⟨-,-,-,-,x4,x5⟩:=cells6 HOz.out
  refine tK (i:=0) (oi:=⟨some 59,.fieldAddr 69 (.tmp 7) 2,0,"ref.go:249",#[],none⟩) (v:=.pointer (some ⟨g,4,none⟩)) (Or.inl ⟨by rfl,fun W hS=>by go_simp⟩) hH ?_
  refine tK (i:=2) (oi:=⟨some 61,.load 31 (.tmp 2),31,"ref.go:249",#[],none⟩) (v:=.agg #[.string md.name,.slice va1 md.attrs.length vc1,.slice va2 md.events.length vc2,.slice va3 md.stages.length vc3,.slice va4 md.stones.length vc4,.slice va5 md.apart.length vc5]) (Or.inl ⟨by rfl,fun W hS=>by obtain ⟨-,q0,q1,q2,q3,q4,q5,-⟩:=HKP.out W (HK9.out.trans hS);go_simp⟩) hH ?_
  refine tK (i:=3) (oi:=⟨some 62,.move (.tmp 12),26,"ref.go:249",#[],none⟩) (v:=.slice (some ⟨b6,o6,none⟩) N6 uc6) (Or.inl ⟨by rfl,fun W hS=>by go_simp⟩) hH ?_
  refine tK (i:=4) (oi:=⟨some 63,.move (.tmp 15),3,"ref.go:249",#[],none⟩) (v:=.int .i64 (m:Int)) (Or.inl ⟨by rfl,fun W hS=>by go_simp⟩) hH ?_
  refine tK (i:=5) (oi:=⟨some 64,.indexAddr 26 (.tmp 62) (.tmp 63),0,"ref.go:249",#[⟨3,.data⟩,⟨4,.data⟩],none⟩) (v:=.pointer (some ⟨b6,o6+m,none⟩)) (Or.inl ⟨by rfl,fun W hS=>by go_simp⟩) hH ?_
  refine tK (i:=6) (oi:=⟨some 65,.load 9 (.tmp 64),9,"ref.go:249",#[⟨5,.data⟩],none⟩) (v:=.string sm) (Or.inl ⟨by rfl,fun W hS=>by have k:=HTX.out W hS;go_simp⟩) hH ?_
  refine rD [1,7] ?_
  refine AllReadyH.cons rfl (fun K hK=>?_) (AllReadyH.cons rfl (fun K hK=>?_) AllReadyH.nil)
  ·go_simp
   refine kK hK hH (fun hH=>?_)
   clear hK K
   refine rD [7] ?_
   refine AllReadyH.cons rfl (fun K hK=>?_) AllReadyH.nil
   go_simp
   go_at_call 60
   refine (HST.out _ hH).mono ?_
   rintro e W7 ⟨rfl,hb⟩
   have hO7:=HOz.out.below hb HOz.out.lt
   obtain ⟨va',vc',W8,hap,hI8,hg8⟩:=(HIz.out.below hb).snoc q (Nat.le_trans hH.size hb.size) (by omega)
   have hgr:some g≠blockOf va:=fun e=>by have h1:=HRW.out g e.symm;have h2:=HG8.out;omega
   have hO8:=(hO7.alloc (.cells #[.int .i64 q] 3)).grown hg8 hgr
   obtain ⟨-,-,-,-,x47,x57⟩:=cells6 hO7
   obtain ⟨-,-,-,-,x48,x58⟩:=cells6 hO8
   have f8:=hO8.frozen 4
   have HAP:=hid hap
   have HI8:=hid hI8
   have HG8r:=hid hg8
   have HO7:=hid hO7
   have HO8:=hid hO8
   have HB7:=hid hb
   clear hap hI8 hg8 hb hO7 hO8 hgr
   go_wp2_with fail
   refine kK hK (hH.next HB7.out) (fun hH=>?_)
   clear hK K
   refine rD [8] ?_
   refine AllReadyH.cons rfl (fun K hK=>?_) AllReadyH.nil
   go_simp
   refine kK hK (hH.alloc _) (fun hH=>?_)
   clear hK K
   obtain ⟨-,-,-,-,x4a,x5a⟩:=cells6 (HO7.out.alloc (.cells #[.int .i64 q] 3))
   refine rD [9] ?_
   refine AllReadyH.cons rfl (fun K hK=>?_) AllReadyH.nil
   refine step_append_run (by rfl) (.tmp 60) (.tmp 67) 67 (by rfl) (by rfl) (by rfl) HAP.out ?_
   refine kK hK (KeepR.grown hH HG8r.out HRW.out) (fun hH=>?_)
   clear hK K
   refine tK (i:=10) (oi:=⟨some 69,.fieldAddr 69 (.tmp 7) 2,0,"ref.go:249",#[⟨0,.phase⟩,⟨1,.phase⟩,⟨2,.phase⟩,⟨3,.phase⟩,⟨4,.phase⟩,⟨5,.phase⟩,⟨6,.phase⟩,⟨7,.phase⟩,⟨8,.phase⟩,⟨9,.phase⟩],none⟩) (v:=.pointer (some ⟨g,4,none⟩)) (Or.inl ⟨by rfl,fun W hS=>by go_simp⟩) hH ?_
   refine rD [11] ?_
   refine AllReadyH.cons rfl (fun K hK=>?_) AllReadyH.nil
   go_simp
   refine kK hK (hH.setCell _) (fun hH=>?_)
   clear hK K
   refine wpAnyH_done (by kernel_rfl) ?_ _
   go_wp2_with fail
   have HO9':=hid (HO8.out.set 4 (.slice va' (L+1) vc'))
   have HI9:=hid (HI8.out.setAt (g:=g) (j:=4) (by have:=HG8.out;omega) (.slice va' (L+1) vc'))
   have HH:=hid hH
   go_roundw
   case rel=>exact ⟨m+1,va',vc',L+1,by have:=HML.out;omega,by go_num,HH.out,HO9'.out,by show OwnI _ _ _ _ _ _;rw [<-HTM.out];exact HI9.out⟩
   case measure=>simp only [intOf];have:=HML.out;omega
  go_simp
  go_at_call 60
  refine (HST.out _ hH).mono ?_
  rintro e W7 ⟨rfl,hb⟩
  have hO7:=HOz.out.below hb HOz.out.lt
  obtain ⟨va',vc',W8,hap,hI8,hg8⟩:=(HIz.out.below hb).snoc q (Nat.le_trans hH.size hb.size) (by omega)
  have hgr:some g≠blockOf va:=fun e=>by have h1:=HRW.out g e.symm;have h2:=HG8.out;omega
  have hO8:=(hO7.alloc (.cells #[.int .i64 q] 3)).grown hg8 hgr
  obtain ⟨-,-,-,-,x47,x57⟩:=cells6 hO7
  obtain ⟨-,-,-,-,x48,x58⟩:=cells6 hO8
  have f8:=hO8.frozen 4
  have HAP:=hid hap
  have HI8:=hid hI8
  have HG8r:=hid hg8
  have HO7:=hid hO7
  have HO8:=hid hO8
  have HB7:=hid hb
  clear hap hI8 hg8 hb hO7 hO8 hgr
  go_wp2_with fail
  refine kK hK (hH.next HB7.out) (fun hH=>?_)
  clear hK K
  refine rD [1,8] ?_
  refine AllReadyH.cons rfl (fun K hK=>?_) (AllReadyH.cons rfl (fun K hK=>?_) AllReadyH.nil)
  ·go_simp
   refine kK hK hH (fun hH=>?_)
   clear hK K
   refine rD [8] ?_
   refine AllReadyH.cons rfl (fun K hK=>?_) AllReadyH.nil
   go_simp
   refine kK hK (hH.alloc _) (fun hH=>?_)
   clear hK K
   obtain ⟨-,-,-,-,x4a,x5a⟩:=cells6 (HO7.out.alloc (.cells #[.int .i64 q] 3))
   refine rD [9] ?_
   refine AllReadyH.cons rfl (fun K hK=>?_) AllReadyH.nil
   refine step_append_run (by rfl) (.tmp 60) (.tmp 67) 67 (by rfl) (by rfl) (by rfl) HAP.out ?_
   refine kK hK (KeepR.grown hH HG8r.out HRW.out) (fun hH=>?_)
   clear hK K
   refine tK (i:=10) (oi:=⟨some 69,.fieldAddr 69 (.tmp 7) 2,0,"ref.go:249",#[⟨0,.phase⟩,⟨1,.phase⟩,⟨2,.phase⟩,⟨3,.phase⟩,⟨4,.phase⟩,⟨5,.phase⟩,⟨6,.phase⟩,⟨7,.phase⟩,⟨8,.phase⟩,⟨9,.phase⟩],none⟩) (v:=.pointer (some ⟨g,4,none⟩)) (Or.inl ⟨by rfl,fun W hS=>by go_simp⟩) hH ?_
   refine rD [11] ?_
   refine AllReadyH.cons rfl (fun K hK=>?_) AllReadyH.nil
   go_simp
   refine kK hK (hH.setCell _) (fun hH=>?_)
   clear hK K
   refine wpAnyH_done (by kernel_rfl) ?_ _
   go_wp2_with fail
   have HO9':=hid (HO8.out.set 4 (.slice va' (L+1) vc'))
   have HI9:=hid (HI8.out.setAt (g:=g) (j:=4) (by have:=HG8.out;omega) (.slice va' (L+1) vc'))
   have HH:=hid hH
   go_roundw
   case rel=>exact ⟨m+1,va',vc',L+1,by have:=HML.out;omega,by go_num,HH.out,HO9'.out,by show OwnI _ _ _ _ _ _;rw [<-HTM.out];exact HI9.out⟩
   case measure=>simp only [intOf];have:=HML.out;omega
  go_simp
  refine kK hK (hH.alloc _) (fun hH=>?_)
  clear hK K
  obtain ⟨-,-,-,-,x4a,x5a⟩:=cells6 (HO7.out.alloc (.cells #[.int .i64 q] 3))
  refine rD [1] ?_
  refine AllReadyH.cons rfl (fun K hK=>?_) AllReadyH.nil
  go_simp
  refine kK hK hH (fun hH=>?_)
  clear hK K
  refine rD [9] ?_
  refine AllReadyH.cons rfl (fun K hK=>?_) AllReadyH.nil
  refine step_append_run (by rfl) (.tmp 60) (.tmp 67) 67 (by rfl) (by rfl) (by rfl) HAP.out ?_
  refine kK hK (KeepR.grown hH HG8r.out HRW.out) (fun hH=>?_)
  clear hK K
  refine tK (i:=10) (oi:=⟨some 69,.fieldAddr 69 (.tmp 7) 2,0,"ref.go:249",#[⟨0,.phase⟩,⟨1,.phase⟩,⟨2,.phase⟩,⟨3,.phase⟩,⟨4,.phase⟩,⟨5,.phase⟩,⟨6,.phase⟩,⟨7,.phase⟩,⟨8,.phase⟩,⟨9,.phase⟩],none⟩) (v:=.pointer (some ⟨g,4,none⟩)) (Or.inl ⟨by rfl,fun W hS=>by go_simp⟩) hH ?_
  refine rD [11] ?_
  refine AllReadyH.cons rfl (fun K hK=>?_) AllReadyH.nil
  go_simp
  refine kK hK (hH.setCell _) (fun hH=>?_)
  clear hK K
  refine wpAnyH_done (by kernel_rfl) ?_ _
  go_wp2_with fail
  have HO9':=hid (HO8.out.set 4 (.slice va' (L+1) vc'))
  have HI9:=hid (HI8.out.setAt (g:=g) (j:=4) (by have:=HG8.out;omega) (.slice va' (L+1) vc'))
  have HH:=hid hH
  go_roundw
  case rel=>exact ⟨m+1,va',vc',L+1,by have:=HML.out;omega,by go_num,HH.out,HO9'.out,by show OwnI _ _ _ _ _ _;rw [<-HTM.out];exact HI9.out⟩
  case measure=>simp only [intOf];have:=HML.out;omega
 obtain rfl:m=N6:=by omega
 have i1:¬(m:Int)<(m:Int):=by omega
 have HS6:Hid (IntsM w9.heap.size wo (.slice va L vc) (l6.map (stageIx md))/\L=l6.length):=by
  have h:=HIW.out
  rw [List.take_of_length_le (by rw [HN6.out];exact Nat.le_refl _)] at h
  exact ⟨h.mem,by rw [h.1,List.length_map]⟩
 have HK10:=hid (HK9.out.trans HKW.out)
 have HF7':Hid (0<l7.length->∃b o,ua7=some ⟨b,o,none⟩/\w8.heap.size<=b/\b<wo.heap.size/\∀j (hj:j<l7.length),wo.cell? ⟨b,o+j,none⟩=some (.string l7[j])):=fun h=>by
  obtain ⟨b,o,h1,h2,h3,h4⟩:=HF7.out h
  exact ⟨b,o,h1,h2,Nat.lt_of_lt_of_le h3 HKW.out.size,fun j hj=>HKW.out.cellR h3 (by have:=HG8.out;omega) (h4 j hj)⟩
 have HG10:Hid (g<wo.heap.size):=Nat.lt_of_lt_of_le HG8.out.2 HKW.out.size
 clear HIW HF6 HF7
 go_wp2_with fail
 go_loopw [16] (fun i wr=>∃(m:Nat) (vb:Option Addr) (vbc M:Nat),m<=N7/\i=.int .i64 (m:Int)/\Hid (KeepR g wo wr)/\Hid (Arr wr g 69 [.int .u8 s.on,.string s.name,.string s.cond,.int .i64 inn,.slice va L vc,.slice vb M vbc])/\Hid (OwnI wr wo.heap.size vb vbc M ((l7.take m).map (stoneIx md)))) (fun i _=>N7-(intOf i).toNat)
 case atStart=>exact ⟨0,none,0,0,Nat.zero_le _,rfl,KeepR.refl _ _,HOW.out,OwnI.nil _ _⟩
 clear HOW
 obtain ⟨p,vb,vbc,M,hpl,rfl,HKX,HOW,HIW⟩:=hrel
 obtain ⟨wi,rfl⟩:∃wi,wi=wr:=⟨_,rfl⟩
 by_cases hlt:p<N7
 ·have i1:(p:Int)<(N7:Int):=by omega
  have i2:(0:Int)<=(p:Int):=by omega
  have HML:=hid hlt
  have hmx:p<l7.length:=by rw [HN7.out];exact hlt
  obtain ⟨b7,o7,rfl,hlo7,hlt7,hcell7⟩:=HF7'.out (by omega)
  obtain ⟨sm,hsm⟩:∃sm,l7[p]'hmx=sm:=⟨_,rfl⟩
  have HTX:Hid (∀W,KeepR g wo W->W.cell? ⟨b7,o7+p,none⟩=some (.string sm)):=fun W hk=>hk.cellR hlt7 (by have:=HG8.out;omega) (by rw [<-hsm];exact hcell7 p hmx)
  obtain ⟨q,hq⟩:∃q,stoneIx md sm=q:=⟨_,rfl⟩
  have HST:Hid (∀W,KeepR g wo W->Calls Tryz.prog 62 #[.agg (ModelV.cs ⟨va1,vc1,va2,vc2,va3,vc3,va4,vc4,va5,vc5⟩ md).toArray,.string sm] W (fun e w'=>e=.returned (.int .i64 q)/\Below W.heap.size W w')):=fun W hk=>by
   have h:=rfStone_walk md ⟨va1,vc1,va2,vc2,va3,vc3,va4,vc4,va5,vc5⟩ sm W HZ.out.stones (HM.out W (HKP.out W (HK10.out.trans hk)).1)
   rw [hq] at h
   exact h
  have HTM:Hid ((l7.take p).map (stoneIx md)++[q]=(l7.take (p+1)).map (stoneIx md)):=by
   show _=_
   rw [<-hq,<-hsm];exact take_map_int (stoneIx md) hmx
  have hLm:M<=60000:=by
   have h1:=HIW.out.1
   rw [List.length_map,List.length_take] at h1
   omega
  have HRW:=hid HIW.out.row
  have k3:IntKind.i64.wrap ((p:Int)+1)=(p:Int)+1:=wrap_i64 (by omega) (by omega)
  have HOz:=hid HOW.out.drew
  have HIz:=hid HIW.out.drew
  clear hsm hq hcell7 hlo7 hlt7 HOW HIW hmx
  go_upto_region 15 with fail
  refine wp_region_held_drew (S:=(fun W'=>KeepR g wo W')) (by kernel_rfl) (HKX.out.drew) (fun hH=>?_)
  generalize wi.drew=wz at hH HOz HIz ⊢
  obtain ⟨-,-,-,-,x4,x5⟩:=cells6 HOz.out
  refine tK (i:=0) (oi:=⟨some 76,.fieldAddr 69 (.tmp 7) 3,0,"ref.go:252",#[],none⟩) (v:=.pointer (some ⟨g,5,none⟩)) (Or.inl ⟨by rfl,fun W hS=>by go_simp⟩) hH ?_
  refine tK (i:=2) (oi:=⟨some 78,.load 31 (.tmp 2),31,"ref.go:252",#[],none⟩) (v:=.agg #[.string md.name,.slice va1 md.attrs.length vc1,.slice va2 md.events.length vc2,.slice va3 md.stages.length vc3,.slice va4 md.stones.length vc4,.slice va5 md.apart.length vc5]) (Or.inl ⟨by rfl,fun W hS=>by obtain ⟨-,q0,q1,q2,q3,q4,q5,-⟩:=HKP.out W (HK10.out.trans hS);go_simp⟩) hH ?_
  refine tK (i:=3) (oi:=⟨some 79,.move (.tmp 13),26,"ref.go:252",#[],none⟩) (v:=.slice (some ⟨b7,o7,none⟩) N7 uc7) (Or.inl ⟨by rfl,fun W hS=>by go_simp⟩) hH ?_
  refine tK (i:=4) (oi:=⟨some 80,.move (.tmp 16),3,"ref.go:252",#[],none⟩) (v:=.int .i64 (p:Int)) (Or.inl ⟨by rfl,fun W hS=>by go_simp⟩) hH ?_
  refine tK (i:=5) (oi:=⟨some 81,.indexAddr 26 (.tmp 79) (.tmp 80),0,"ref.go:252",#[⟨3,.data⟩,⟨4,.data⟩],none⟩) (v:=.pointer (some ⟨b7,o7+p,none⟩)) (Or.inl ⟨by rfl,fun W hS=>by go_simp⟩) hH ?_
  refine tK (i:=6) (oi:=⟨some 82,.load 9 (.tmp 81),9,"ref.go:252",#[⟨5,.data⟩],none⟩) (v:=.string sm) (Or.inl ⟨by rfl,fun W hS=>by have k:=HTX.out W hS;go_simp⟩) hH ?_
  refine rD [1,7] ?_
  refine AllReadyH.cons rfl (fun K hK=>?_) (AllReadyH.cons rfl (fun K hK=>?_) AllReadyH.nil)
  ·go_simp
   refine kK hK hH (fun hH=>?_)
   clear hK K
   refine rD [7] ?_
   refine AllReadyH.cons rfl (fun K hK=>?_) AllReadyH.nil
   go_simp
   go_at_call 62
   refine (HST.out _ hH).mono ?_
   rintro e W7 ⟨rfl,hb⟩
   have hO7:=HOz.out.below hb HOz.out.lt
   obtain ⟨va',vc',W8,hap,hI8,hg8⟩:=(HIz.out.below hb).snoc q (Nat.le_trans hH.size hb.size) (by omega)
   have hgr:some g≠blockOf vb:=fun e=>by have h1:=HRW.out g e.symm;have h2:=HG8.out;have h3:=HG10.out;omega
   have hO8:=(hO7.alloc (.cells #[.int .i64 q] 3)).grown hg8 hgr
   obtain ⟨-,-,-,-,x47,x57⟩:=cells6 hO7
   obtain ⟨-,-,-,-,x48,x58⟩:=cells6 hO8
   have f8:=hO8.frozen 5
   have HAP:=hid hap
   have HI8:=hid hI8
   have HG8r:=hid hg8
   have HO7:=hid hO7
   have HO8:=hid hO8
   have HB7:=hid hb
   clear hap hI8 hg8 hb hO7 hO8 hgr
   go_wp2_with fail
   refine kK hK (hH.next HB7.out) (fun hH=>?_)
   clear hK K
   refine rD [8] ?_
   refine AllReadyH.cons rfl (fun K hK=>?_) AllReadyH.nil
   go_simp
   refine kK hK (hH.alloc _) (fun hH=>?_)
   clear hK K
   obtain ⟨-,-,-,-,x4a,x5a⟩:=cells6 (HO7.out.alloc (.cells #[.int .i64 q] 3))
   refine rD [9] ?_
   refine AllReadyH.cons rfl (fun K hK=>?_) AllReadyH.nil
   refine step_append_run (by rfl) (.tmp 77) (.tmp 84) 67 (by rfl) (by rfl) (by rfl) HAP.out ?_
   refine kK hK (KeepR.grown hH HG8r.out HRW.out) (fun hH=>?_)
   clear hK K
   refine tK (i:=10) (oi:=⟨some 86,.fieldAddr 69 (.tmp 7) 3,0,"ref.go:252",#[⟨0,.phase⟩,⟨1,.phase⟩,⟨2,.phase⟩,⟨3,.phase⟩,⟨4,.phase⟩,⟨5,.phase⟩,⟨6,.phase⟩,⟨7,.phase⟩,⟨8,.phase⟩,⟨9,.phase⟩],none⟩) (v:=.pointer (some ⟨g,5,none⟩)) (Or.inl ⟨by rfl,fun W hS=>by go_simp⟩) hH ?_
   refine rD [11] ?_
   refine AllReadyH.cons rfl (fun K hK=>?_) AllReadyH.nil
   go_simp
   refine kK hK (hH.setCell _) (fun hH=>?_)
   clear hK K
   refine wpAnyH_done (by kernel_rfl) ?_ _
   go_wp2_with fail
   have HO9':=hid (HO8.out.set 5 (.slice va' (M+1) vc'))
   have HI9:=hid (HI8.out.setAt (g:=g) (j:=5) (by have:=HG8.out;have h3:=HG10.out;omega) (.slice va' (M+1) vc'))
   have HH:=hid hH
   go_roundw
   case rel=>exact ⟨p+1,va',vc',M+1,by have:=HML.out;omega,by go_num,HH.out,HO9'.out,by show OwnI _ _ _ _ _ _;rw [<-HTM.out];exact HI9.out⟩
   case measure=>simp only [intOf];have:=HML.out;omega
  go_simp
  go_at_call 62
  refine (HST.out _ hH).mono ?_
  rintro e W7 ⟨rfl,hb⟩
  have hO7:=HOz.out.below hb HOz.out.lt
  obtain ⟨va',vc',W8,hap,hI8,hg8⟩:=(HIz.out.below hb).snoc q (Nat.le_trans hH.size hb.size) (by omega)
  have hgr:some g≠blockOf vb:=fun e=>by have h1:=HRW.out g e.symm;have h2:=HG8.out;have h3:=HG10.out;omega
  have hO8:=(hO7.alloc (.cells #[.int .i64 q] 3)).grown hg8 hgr
  obtain ⟨-,-,-,-,x47,x57⟩:=cells6 hO7
  obtain ⟨-,-,-,-,x48,x58⟩:=cells6 hO8
  have f8:=hO8.frozen 5
  have HAP:=hid hap
  have HI8:=hid hI8
  have HG8r:=hid hg8
  have HO7:=hid hO7
  have HO8:=hid hO8
  have HB7:=hid hb
  clear hap hI8 hg8 hb hO7 hO8 hgr
  go_wp2_with fail
  refine kK hK (hH.next HB7.out) (fun hH=>?_)
  clear hK K
  refine rD [1,8] ?_
  refine AllReadyH.cons rfl (fun K hK=>?_) (AllReadyH.cons rfl (fun K hK=>?_) AllReadyH.nil)
  ·go_simp
   refine kK hK hH (fun hH=>?_)
   clear hK K
   refine rD [8] ?_
   refine AllReadyH.cons rfl (fun K hK=>?_) AllReadyH.nil
   go_simp
   refine kK hK (hH.alloc _) (fun hH=>?_)
   clear hK K
   obtain ⟨-,-,-,-,x4a,x5a⟩:=cells6 (HO7.out.alloc (.cells #[.int .i64 q] 3))
   refine rD [9] ?_
   refine AllReadyH.cons rfl (fun K hK=>?_) AllReadyH.nil
   refine step_append_run (by rfl) (.tmp 77) (.tmp 84) 67 (by rfl) (by rfl) (by rfl) HAP.out ?_
   refine kK hK (KeepR.grown hH HG8r.out HRW.out) (fun hH=>?_)
   clear hK K
   refine tK (i:=10) (oi:=⟨some 86,.fieldAddr 69 (.tmp 7) 3,0,"ref.go:252",#[⟨0,.phase⟩,⟨1,.phase⟩,⟨2,.phase⟩,⟨3,.phase⟩,⟨4,.phase⟩,⟨5,.phase⟩,⟨6,.phase⟩,⟨7,.phase⟩,⟨8,.phase⟩,⟨9,.phase⟩],none⟩) (v:=.pointer (some ⟨g,5,none⟩)) (Or.inl ⟨by rfl,fun W hS=>by go_simp⟩) hH ?_
   refine rD [11] ?_
   refine AllReadyH.cons rfl (fun K hK=>?_) AllReadyH.nil
   go_simp
   refine kK hK (hH.setCell _) (fun hH=>?_)
   clear hK K
   refine wpAnyH_done (by kernel_rfl) ?_ _
   go_wp2_with fail
   have HO9':=hid (HO8.out.set 5 (.slice va' (M+1) vc'))
   have HI9:=hid (HI8.out.setAt (g:=g) (j:=5) (by have:=HG8.out;have h3:=HG10.out;omega) (.slice va' (M+1) vc'))
   have HH:=hid hH
   go_roundw
   case rel=>exact ⟨p+1,va',vc',M+1,by have:=HML.out;omega,by go_num,HH.out,HO9'.out,by show OwnI _ _ _ _ _ _;rw [<-HTM.out];exact HI9.out⟩
   case measure=>simp only [intOf];have:=HML.out;omega
  go_simp
  refine kK hK (hH.alloc _) (fun hH=>?_)
  clear hK K
  obtain ⟨-,-,-,-,x4a,x5a⟩:=cells6 (HO7.out.alloc (.cells #[.int .i64 q] 3))
  refine rD [1] ?_
  refine AllReadyH.cons rfl (fun K hK=>?_) AllReadyH.nil
  go_simp
  refine kK hK hH (fun hH=>?_)
  clear hK K
  refine rD [9] ?_
  refine AllReadyH.cons rfl (fun K hK=>?_) AllReadyH.nil
  refine step_append_run (by rfl) (.tmp 77) (.tmp 84) 67 (by rfl) (by rfl) (by rfl) HAP.out ?_
  refine kK hK (KeepR.grown hH HG8r.out HRW.out) (fun hH=>?_)
  clear hK K
  refine tK (i:=10) (oi:=⟨some 86,.fieldAddr 69 (.tmp 7) 3,0,"ref.go:252",#[⟨0,.phase⟩,⟨1,.phase⟩,⟨2,.phase⟩,⟨3,.phase⟩,⟨4,.phase⟩,⟨5,.phase⟩,⟨6,.phase⟩,⟨7,.phase⟩,⟨8,.phase⟩,⟨9,.phase⟩],none⟩) (v:=.pointer (some ⟨g,5,none⟩)) (Or.inl ⟨by rfl,fun W hS=>by go_simp⟩) hH ?_
  refine rD [11] ?_
  refine AllReadyH.cons rfl (fun K hK=>?_) AllReadyH.nil
  go_simp
  refine kK hK (hH.setCell _) (fun hH=>?_)
  clear hK K
  refine wpAnyH_done (by kernel_rfl) ?_ _
  go_wp2_with fail
  have HO9':=hid (HO8.out.set 5 (.slice va' (M+1) vc'))
  have HI9:=hid (HI8.out.setAt (g:=g) (j:=5) (by have:=HG8.out;have h3:=HG10.out;omega) (.slice va' (M+1) vc'))
  have HH:=hid hH
  go_roundw
  case rel=>exact ⟨p+1,va',vc',M+1,by have:=HML.out;omega,by go_num,HH.out,HO9'.out,by show OwnI _ _ _ _ _ _;rw [<-HTM.out];exact HI9.out⟩
  case measure=>simp only [intOf];have:=HML.out;omega
 obtain rfl:p=N7:=by omega
 have i1:¬(p:Int)<(p:Int):=by omega
 have HS7:Hid (IntsM wo.heap.size wi (.slice vb M vbc) (l7.map (stoneIx md))/\M=l7.length):=by
  have h:=HIW.out
  rw [List.take_of_length_le (by rw [HN7.out];exact Nat.le_refl _)] at h
  exact ⟨h.mem,by rw [h.1,List.length_map]⟩
 have HS6':Hid (IntsM w9.heap.size wi (.slice va L vc) (l6.map (stageIx md))):=HS6.out.1.keepR (by have:=HG8.out;omega) HKX.out
 obtain ⟨hbx,-,-,-,-,-,-,-,-,-,-,-,-,hRX⟩:=HKP.out wi (HK10.out.trans HKX.out)
 have HBWi:=hid hbx
 have HRXi:=hid hRX
 clear hbx hRX HIW
 obtain ⟨x0,x1,x2,x3,x4,x5⟩:=cells6 HOW.out
 obtain ⟨z0,z1,z2,z3,z4,z5⟩:=cells6 HRXi.out
 have f0:=HRXi.out.frozen 0
 have f1:=HRXi.out.frozen 1
 have f2:=HRXi.out.frozen 2
 have f3:=HRXi.out.frozen 3
 have f4:=HRXi.out.frozen 4
 have f5:=HRXi.out.frozen 5
 go_wp2_with fail
 have h6:=set6 (c0:=.int .u8 s.on) (c1:=.string s.name) (c2:=.string s.cond) (c3:=.int .i64 inn) (c4:=.slice va L vc) (c5:=.slice vb M vbc) HRXi.out rfl
 refine ret_lean rfl rfl h6.1 ?_
 have hgs:=HGS.out
 have hg8:=HG8.out
 have hsz:=HK9.out.size
 have hsz2:=HK10.out.size
 have hb5s:=HB5.out.size
 have hc67:=HC67.out
 refine ⟨HBWi.out.trans (h6.2.below (by omega) HBWi.out.size),⟨s.on,s.name,s.cond,inn,l6.map (stageIx md),l7.map (stoneIx md)⟩,va,L,vc,vb,M,vbc,rfl,?_,?_,⟨rfl,rfl,rfl,HINN.out.symm,fun h=>absurd h H0.out,fun _=>⟨t,l6,l7,HRO.out,rfl,rfl,HM6.out,HM7.out⟩⟩,fun i hi=>?_,by simp only [List.length_map];omega,by simp only [List.length_map];omega⟩
 ·exact (HS6'.out.keepR (by omega) h6.2).weak fun b hb _=>Nat.le_trans (by omega) (show w9.heap.size<=b from hb)
 ·exact (HS7.out.1.keepR (by omega) h6.2).weak fun b hb _=>Nat.le_trans (by omega) (show wo.heap.size<=b from hb)
 obtain ⟨nm,-,rfl⟩:=List.mem_map.1 hi
 exact stageIx_le md nm
theorem rfWithin_walk (md:ModelD) (v:ModelV) (n other:Int) (w:World) (hi:InOk md) (hn:-1<=n/\n<md.stages.length) (hM:ModelM false (From 0) w md v) :
  Calls Tryz.prog 92 #[.agg (v.cs md).toArray,.int .i64 n,.int .i64 other] w (fun e w'=>e=.returned (.bool (withinB md n other))/\Below w.heap.size w w'):=by
 obtain ⟨w1,hw1⟩:∃w1,w.alloc (.cells (v.cs md).toArray 31)=w1:=⟨_,rfl⟩
 have hb1:Below w.heap.size w w1:=hw1▸(Below.refl _ _).alloc (Nat.le_refl _) _
 have hx1:Arr w1 w.heap.size 31 (v.cs md):=hw1▸Arr.new w (v.cs md) _
 have HM:=hid (hM.grow hb1)
 have HB1:=hid hb1
 have HW1:=hid hw1
 have HIO:=hid hi
 obtain ⟨y0,y1,y2,y3,y4,y5⟩:=box6 hx1 (Below.refl _ _)
 obtain ⟨q,hq⟩:∃q,withinB md n other=q:=⟨_,rfl⟩
 rw [hq]
 have HQ:=hid hq
 clear hM hb1 hx1 hw1 hq hi
 go_enter Tryz.func92,Tryz.ntmps92
 go_wp2_with fail
 rw [HW1.out]
 go_loopw [1] (fun i wr=>∃m:Int,-1<=m/\m<md.stages.length/\i=.int .i64 m/\wr=w1/\Hid (withinB md m other=q)) (fun i _=>(intOf i+1).toNat)
 case atStart=>exact ⟨n,hn.1,hn.2,rfl,rfl,HQ.out⟩
 obtain ⟨m,hm1,hm2,rfl,rfl,HS⟩:=hrel
 by_cases h0:m<0
 ·have i1:¬(0:Int)<=m:=by omega
  have HQ2:Hid (false=q):=by show _=_;rw [<-HS.out,withinB_neg _ _ h0]
  go_wp2_with fail
  go_ret
  exact ⟨ret_bool HQ2.out,HB1.out⟩
 obtain ⟨k,rfl⟩:∃k:Nat,m=k:=⟨m.toNat,by omega⟩
 have i1:(0:Int)<=(k:Int):=by omega
 by_cases heq:(k:Int)=other
 ·subst heq
  have HQ2:Hid (true=q):=by show _=_;rw [<-HS.out,withinB_same _ i1]
  go_wp2_with fail
  go_ret
  exact ⟨ret_bool HQ2.out,HB1.out⟩
 have e1:((k:Int)==other)=false:=by simpa using heq
 have hkl:k<md.stages.length:=by omega
 obtain ⟨b,off,ha,hbl,d1,e1',d2,e2,-,-,-,c1,-,-,-,-,-⟩:=stage_at HM.out hkl
 have hin:=HIO.out k hkl
 have HS2:Hid (withinB md (md.stages[k]'hkl).inn other=q):=by show _=_;rw [<-HS.out,withinB_step HIO.out hkl heq]
 obtain ⟨x,hx⟩:∃x,(md.stages[k]'hkl).inn=x:=⟨_,rfl⟩
 rw [hx] at c1 HS2 hin
 have hy:=y3
 rw [ha] at hy
 have HIN:=hid hin
 have i2:(k:Int)<(md.stages.length:Int):=by omega
 clear hx ha heq HS y3 hin
 go_wp2_with fail
 refine ⟨⟨x,by have:=HIN.out;omega,by have:=HIN.out;omega,rfl,by first | trivial | rfl,HS2⟩,by simp only [intOf];have:=HIN.out;omega⟩
theorem rfOpens_walk (p:Pl) (n:Int) (w:World) :
  Calls Tryz.prog 59 #[plV p,.int .i64 n] w (fun e w'=>e=.returned (.bool (opensB p n))/\Below w.heap.size w w'):=by
 obtain ⟨p0,p1,p2⟩:=p
 simp only [plV]
 obtain ⟨w1,hw1⟩:∃w1,w.alloc (.cells #[.int .i64 p0,.int .i64 p1,.int .i64 p2] 33)=w1:=⟨_,rfl⟩
 have hb1:Below w.heap.size w w1:=hw1▸(Below.refl _ _).alloc (Nat.le_refl _) _
 have hp1:Arr w1 w.heap.size 33 [.int .i64 p0,.int .i64 p1,.int .i64 p2]:=hw1▸Arr.new w [.int .i64 p0,.int .i64 p1,.int .i64 p2] _
 have z0:=hp1.cell (j:=0) (by simp)
 have z1:=hp1.cell (j:=1) (by simp)
 simp only [gE0,gE1] at z0 z1
 have HB1:=hid hb1
 have HW1:=hid hw1
 obtain ⟨q,hq⟩:∃q,opensB (p0,p1,p2) n=q:=⟨_,rfl⟩
 rw [hq]
 simp only [opensB] at hq
 have HQ:=hid hq
 clear hb1 hp1 hw1 hq
 by_cases h1:p0=1
 ·subst h1
  by_cases h2:p1=n
  ·subst h2
   have HQ2:Hid (true=q):=by show _=_;rw [<-HQ.out];simp
   go_enter Tryz.func59,Tryz.ntmps59
   go_upto_region 1 with fail
   rw [HW1.out]
   go_wp2_with fail
   go_ret
   exact ⟨ret_bool HQ2.out,HB1.out⟩
  have e2:(p1==n)=false:=by simpa using h2
  have HQ2:Hid (false=q):=by show _=_;rw [<-HQ.out];simp [h2]
  clear h2
  go_enter Tryz.func59,Tryz.ntmps59
  go_upto_region 1 with fail
  rw [HW1.out]
  go_wp2_with fail
  go_ret
  exact ⟨ret_bool HQ2.out,HB1.out⟩
 have e1:(p0==1)=false:=by simpa using h1
 have HQ2:Hid (false=q):=by show _=_;rw [<-HQ.out];simp [h1]
 clear h1
 go_enter Tryz.func59,Tryz.ntmps59
 go_upto_region 1 with fail
 rw [HW1.out]
 go_wp2_with fail
 go_ret
 exact ⟨ret_bool HQ2.out,HB1.out⟩
theorem rfCloses_walk (md:ModelD) (v:ModelV) (p:Pl) (n:Int) (w:World) (hi:InOk md) (hn:-1<=n/\n<md.stages.length) (hM:ModelM false (From 0) w md v) :
  Calls Tryz.prog 61 #[.agg (v.cs md).toArray,plV p,.int .i64 n] w (fun e w'=>e=.returned (.bool (closesB md p n))/\Below w.heap.size w w'):=by
 obtain ⟨p0,p1,p2⟩:=p
 simp only [plV]
 obtain ⟨wa,hwa⟩:∃wa,w.alloc (.cells (v.cs md).toArray 31)=wa:=⟨_,rfl⟩
 obtain ⟨w1,hw1⟩:∃w1,wa.alloc (.cells #[.int .i64 p0,.int .i64 p1,.int .i64 p2] 33)=w1:=⟨_,rfl⟩
 have hza:wa.heap.size=w.heap.size+1:=by rw [<-hwa,size_alloc]
 have hba:Below w.heap.size w wa:=hwa▸(Below.refl _ _).alloc (Nat.le_refl _) _
 have hb1:Below w.heap.size w w1:=hw1▸hba.alloc (by omega) _
 have hx1:Arr w1 w.heap.size 31 (v.cs md):=hw1▸(show Arr wa _ _ _ from hwa▸Arr.new w (v.cs md) _).alloc _
 have hp1:Arr w1 (w.heap.size+1) 33 [.int .i64 p0,.int .i64 p1,.int .i64 p2]:=by
  have:=Arr.new wa [.int .i64 p0,.int .i64 p1,.int .i64 p2] 33
  rw [hza] at this
  exact hw1▸this
 have HC:=hid (rfWithin_walk md v n p1 w1 hi hn (hM.grow hb1))
 have HB1:=hid hb1
 have HWA:=hid hwa
 have HW1:=hid hw1
 obtain ⟨y0,y1,y2,y3,y4,y5⟩:=box6 hx1 (Below.refl _ _)
 have z0:=hp1.cell (j:=0) (by simp)
 have z1:=hp1.cell (j:=1) (by simp)
 simp only [gE0,gE1] at z0 z1
 obtain ⟨q,hq⟩:∃q,closesB md (p0,p1,p2) n=q:=⟨_,rfl⟩
 obtain ⟨r,hr⟩:∃r,withinB md n p1=r:=⟨_,rfl⟩
 rw [hq]
 rw [hr] at HC
 simp only [closesB,hr] at hq
 have HQ:=hid hq
 clear hM hba hb1 hx1 hp1 hwa hw1 hq hr hi hn hza
 by_cases h3:p0=2
 ·subst h3
  have HQ2:Hid (r=q):=by show _=_;rw [<-HQ.out];simp
  go_enter Tryz.func61,Tryz.ntmps61
  go_upto_region 1 with fail
  rw [HWA.out,HW1.out]
  go_wp2_with fail
  refine HC.out.mono ?_
  rintro e w2 ⟨rfl,hb2⟩
  have HB2:=hid (HB1.out.trans (hb2.mono HB1.out.size))
  clear hb2 HC
  go_wp2_with fail
  go_ret
  exact ⟨ret_bool HQ2.out,HB2.out⟩
 have e3:(p0==2)=false:=by simpa using h3
 have HQ2:Hid (false=q):=by show _=_;rw [<-HQ.out];simp [h3]
 clear h3
 go_enter Tryz.func61,Tryz.ntmps61
 go_upto_region 1 with fail
 rw [HWA.out,HW1.out]
 go_wp2_with fail
 go_ret
 exact ⟨ret_bool HQ2.out,HB1.out⟩
end Go.Proofs.YtfbbkmdhnkmonaaGreatDoor
