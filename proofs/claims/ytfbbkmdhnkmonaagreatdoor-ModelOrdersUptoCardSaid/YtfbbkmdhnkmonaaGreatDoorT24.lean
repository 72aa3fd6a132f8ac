/- Proved, each under the conditions that it names: docketref18: on; A list under way whose elements hold places. -/
import Derived.Test.YtfbbkmdhnkmonaaGreatDoorT23
set_option maxRecDepth 100000
set_option maxHeartbeats 32000000
namespace Go.Proofs.YtfbbkmdhnkmonaaGreatDoor
open Go.RowKit
theorem IntsM.form {lo:Nat} {w:World} {v:Value} {xs:List Int} (h:IntsM lo w v xs):∃a c,v=.slice a xs.length c/\(0<xs.length->∃b o,a=some ⟨b,o,none⟩/\lo<=b/\b<w.heap.size/\∀j (hj:j<xs.length),w.cell? ⟨b,o+j,none⟩=some (.int .i64 xs[j])):=by
 obtain ⟨a,c,b,off,rfl,-,hC⟩:=flat_open h
 refine ⟨a,c,rfl,fun h0=>⟨b,off,(hC.at0 h0).1,(hC.at0 h0).2.1,(hC.at0 h0).2.2,fun j hj=>?_⟩⟩
 have c:=hC.cell j hj 0 _ rfl
 simpa only [Nat.mul_one,Nat.add_zero] using c
theorem IntsM.later {lo:Nat} {w:World} {a:Option Addr} {n c:Nat} {xs:List Int} (h:IntsM lo w (.slice a n c) xs):n=xs.length/\∀m (hm:m<xs.length),∃b o,a=some ⟨b,o,none⟩/\∀W,Below w.heap.size w W->W.cell? ⟨b,o+m,none⟩=some (.int .i64 xs[m]):=by
 obtain ⟨a',c',he,hf⟩:=h.form
 injection he with e1 e2 e3
 subst e1 e2 e3
 refine ⟨rfl,fun m hm=>?_⟩
 obtain ⟨b,o,h1,-,h3,h4⟩:=hf (by omega)
 exact ⟨b,o,h1,fun W hb=>by rw [World.cell?_of_block (hb.block b h3)];exact h4 m hm⟩
theorem any_no {α:Type} {f:α->Bool} {l:List α} (h:∀j (hj:j<l.length),f l[j]=false):l.any f=false:=by
 rw [List.any_eq_false]
 intro x hx
 obtain ⟨j,hj,rfl⟩:=List.getElem_of_mem hx
 rw [h j hj];exact Bool.false_ne_true
theorem any_yes {α:Type} {f:α->Bool} {l:List α} {j:Nat} (hj:j<l.length) (h:f l[j]=true):l.any f=true:=List.any_eq_true.2 ⟨_,List.getElem_mem hj,h⟩
theorem rfOn_walk (md:ModelD) (v:ModelV) (x:LeanD) (b:Pl) (a6 a7:Option Addr) (n6 c6 n7 c7:Nat) (w:World) (hz:md.Sml) (hi:InOk md) (hn:-1<=x.inn/\x.inn<md.stages.length) (hst:∀i∈x.stages,-1<=i/\i<md.stages.length) (h6:x.stages.length<=60000) (h7:x.stones.length<=60000) (hS:IntsM 0 w (.slice a6 n6 c6) x.stages) (hT:IntsM 0 w (.slice a7 n7 c7) x.stones) (hM:ModelM false (From 0) w md v) :
  Calls Tryz.prog 25 #[.agg (v.cs md).toArray,.agg #[.int .u8 x.on,.string x.name,.string x.cond,.int .i64 x.inn,.slice a6 n6 c6,.slice a7 n7 c7],plV b] w (fun e w'=>e=.returned (.bool (onX md x b))/\Below w.heap.size w w'):=by
 obtain ⟨va1,vc1,va2,vc2,va3,vc3,va4,vc4,va5,vc5⟩:=v
 obtain ⟨b0,b1,b2⟩:=b
 obtain ⟨on,name,cond,inn,st,sn⟩:=x
 simp only [plV]
 simp only at hn hst h6 h7 hS hT
 obtain ⟨hl6,hf6⟩:=hS.later
 obtain ⟨hl7,hf7⟩:=hT.later
 obtain ⟨wa,hwa⟩:∃wa,w.alloc (.cells (ModelV.cs ⟨va1,vc1,va2,vc2,va3,vc3,va4,vc4,va5,vc5⟩ md).toArray 31)=wa:=⟨_,rfl⟩
 obtain ⟨wb,hwb⟩:∃wb,wa.alloc (.cells #[.int .u8 on,.string name,.string cond,.int .i64 inn,.slice a6 n6 c6,.slice a7 n7 c7] 69)=wb:=⟨_,rfl⟩
 obtain ⟨w3,hw3⟩:∃w3,wb.alloc (.cells #[.int .i64 b0,.int .i64 b1,.int .i64 b2] 33)=w3:=⟨_,rfl⟩
 have hsa:wa.heap.size=w.heap.size+1:=by rw [<-hwa,size_alloc]
 have hsb:wb.heap.size=w.heap.size+1+1:=by rw [<-hwb,size_alloc,hsa]
 have hs3:w3.heap.size=w.heap.size+1+1+1:=by rw [<-hw3,size_alloc,hsb]
 have hb3:Below w.heap.size w w3:=hw3▸(hwb▸(hwa▸(Below.refl _ _).alloc (Nat.le_refl _) _:Below w.heap.size w wa).alloc (by omega) _:Below w.heap.size w wb).alloc (by omega) _
 have hxm:Arr w3 w.heap.size 31 (ModelV.cs ⟨va1,vc1,va2,vc2,va3,vc3,va4,vc4,va5,vc5⟩ md):=hw3▸(hwb▸(hwa▸Arr.new w _ _:Arr wa _ _ _).alloc _:Arr wb _ _ _).alloc _
 have hxx:Arr w3 (w.heap.size+1) 69 [.int .u8 on,.string name,.string cond,.int .i64 inn,.slice a6 n6 c6,.slice a7 n7 c7]:=hw3▸(hwb▸hsa▸Arr.new wa [.int .u8 on,.string name,.string cond,.int .i64 inn,.slice a6 n6 c6,.slice a7 n7 c7] _:Arr wb (w.heap.size+1) _ _).alloc _
 have hxb:Arr w3 (w.heap.size+1+1) 33 [.int .i64 b0,.int .i64 b1,.int .i64 b2]:=hw3▸hsb▸Arr.new wb [.int .i64 b0,.int .i64 b1,.int .i64 b2] _
 have HKP:Hid (∀W,Below w3.heap.size w3 W->W.cell? ⟨w.heap.size,0,none⟩=some (.string md.name)/\W.cell? ⟨w.heap.size,1,none⟩=some (.slice va1 md.attrs.length vc1)/\W.cell? ⟨w.heap.size,2,none⟩=some (.slice va2 md.events.length vc2)/\W.cell? ⟨w.heap.size,3,none⟩=some (.slice va3 md.stages.length vc3)/\W.cell? ⟨w.heap.size,4,none⟩=some (.slice va4 md.stones.length vc4)/\W.cell? ⟨w.heap.size,5,none⟩=some (.slice va5 md.apart.length vc5)/\W.cell? ⟨w.heap.size+1,0,none⟩=some (.int .u8 on)/\W.cell? ⟨w.heap.size+1,1,none⟩=some (.string name)/\W.cell? ⟨w.heap.size+1,2,none⟩=some (.string cond)/\W.cell? ⟨w.heap.size+1,3,none⟩=some (.int .i64 inn)/\W.cell? ⟨w.heap.size+1,4,none⟩=some (.slice a6 n6 c6)/\W.cell? ⟨w.heap.size+1,5,none⟩=some (.slice a7 n7 c7)/\W.cell? ⟨w.heap.size+1+1,0,none⟩=some (.int .i64 b0)/\W.cell? ⟨w.heap.size+1+1,1,none⟩=some (.int .i64 b1)/\W.cell? ⟨w.heap.size+1+1,2,none⟩=some (.int .i64 b2)):=fun W hb=>by
  obtain ⟨q0,q1,q2,q3,q4,q5⟩:=box6 hxm hb
  obtain ⟨r0,r1,r2,r3,r4,r5⟩:=cells6 (hxx.below hb hxx.lt)
  have p0:=(hxb.below hb hxb.lt).cell (j:=0) (by simp)
  have p1:=(hxb.below hb hxb.lt).cell (j:=1) (by simp)
  have p2:=(hxb.below hb hxb.lt).cell (j:=2) (by simp)
  simp only [gE0,gE1] at p0 p1 p2
  exact ⟨q0,q1,q2,q3,q4,q5,r0,r1,r2,r3,r4,r5,p0,p1,p2⟩
 have HM:=hid (fun W (hb:Below w3.heap.size w3 W)=>hM.grow (hb3.trans (hb.mono hb3.size)))
 have HIO:=hid hi
 have HZ:=hid hz
 have HF6:Hid (n6=st.length/\∀m (hm:m<st.length),∃b o,a6=some ⟨b,o,none⟩/\∀W,Below w3.heap.size w3 W->W.cell? ⟨b,o+m,none⟩=some (.int .i64 st[m])):=⟨hl6,fun m hm=>by
  obtain ⟨b,o,h1,h2⟩:=hf6 m hm
  exact ⟨b,o,h1,fun W hb=>h2 W (hb3.trans (hb.mono hb3.size))⟩⟩
 have HF7:Hid (n7=sn.length/\∀m (hm:m<sn.length),∃b o,a7=some ⟨b,o,none⟩/\∀W,Below w3.heap.size w3 W->W.cell? ⟨b,o+m,none⟩=some (.int .i64 sn[m])):=⟨hl7,fun m hm=>by
  obtain ⟨b,o,h1,h2⟩:=hf7 m hm
  exact ⟨b,o,h1,fun W hb=>h2 W (hb3.trans (hb.mono hb3.size))⟩⟩
 have HST6:=hid hst
 have HL:=hid (And.intro h6 h7)
 have HN:=hid hn
 have HB3:=hid hb3
 have HW3:Hid (((w.alloc (.cells (ModelV.cs ⟨va1,vc1,va2,vc2,va3,vc3,va4,vc4,va5,vc5⟩ md).toArray 31)).alloc (.cells #[.int .u8 on,.string name,.string cond,.int .i64 inn,.slice a6 n6 c6,.slice a7 n7 c7] 69)).alloc (.cells #[.int .i64 b0,.int .i64 b1,.int .i64 b2] 33)=w3):=by
  show _=_
  rw [hwa,hwb,hw3]
 have HIXL:=hid (And.intro (stageIx_le md name) (stageIx_le md name))
 obtain ⟨q,hq⟩:∃q,onX md ⟨on,name,cond,inn,st,sn⟩ (b0,b1,b2)=q:=⟨_,rfl⟩
 rw [hq]
 simp only [onX] at hq
 obtain ⟨qw,hqw⟩:∃qw,waitB md ⟨on,name,cond,inn,st,sn⟩ (b0,b1,b2)=qw:=⟨_,rfl⟩
 obtain ⟨qi,hqi⟩:∃qi,innB md ⟨on,name,cond,inn,st,sn⟩ (b0,b1,b2)=qi:=⟨_,rfl⟩
 obtain ⟨qs,hqs⟩:∃qs,st.any (fun n=>opensB (b0,b1,b2) n||closesB md (b0,b1,b2) n)=qs:=⟨_,rfl⟩
 obtain ⟨qt,hqt⟩:∃qt,sn.any (fun n=>decide (3<=b0)&&decide (b1=n))=qt:=⟨_,rfl⟩
 simp only [hqw,hqi,hqs,hqt] at hq
 have HQ:=hid hq
 have HQI:=hid hqi
 have HQS:=hid hqs
 have HQN:=hid hqt
 have HQW:=hid hqw
 obtain ⟨y0,y1,y2,y3,y4,y5,x0,x1,x2,x3,x4,x5,p0,p1,p2⟩:=HKP.out w3 (Below.refl _ _)
 clear hM hi hz hl6 hf6 hl7 hf7 hst h6 h7 hn hb3 hwa hwb hw3 hsa hsb hs3 hxm hxx hxb hq hqw hqi hqs hqt hS hT
 go_enter Tryz.func25,Tryz.ntmps25
 go_upto_region 1 with fail
 rw [HW3.out]
 go_upto_block 0 with fail
 go_cut [] (fun wx=>Hid (Below w3.heap.size w3 wx)/\Hid (qw=false))
 case first =>
  have hon:on=2\/on=3\/on=4\/on=5\/(on≠2/\on≠3/\on≠4/\on≠5):=by omega
  rcases hon with rfl | rfl | rfl | rfl | ⟨n2,n3,n4,n5⟩
  ·obtain ⟨i,hix⟩:∃i,stageIx md name=i:=⟨_,rfl⟩
   have hqo:opensB (b0,b1,b2) i=qw:=by rw [<-HQW.out,<-hix];simp [waitB]
   have HST:Hid (∀W,Below w3.heap.size w3 W-> Calls Tryz.prog 60 #[.agg (ModelV.cs ⟨va1,vc1,va2,vc2,va3,vc3,va4,vc4,va5,vc5⟩ md).toArray,.string name] W (fun e w'=>e=.returned (.int .i64 i)/\Below W.heap.size W w')):=fun W hb=>by
    have h:=rfStage_walk md ⟨va1,vc1,va2,vc2,va3,vc3,va4,vc4,va5,vc5⟩ name W HZ.out.stages (HM.out W hb)
    rw [hix] at h
    exact h
   have HOP:Hid (∀W,Below w3.heap.size w3 W-> Calls Tryz.prog 59 #[.agg #[.int .i64 b0,.int .i64 b1,.int .i64 b2],.int .i64 i] W (fun e w'=>e=.returned (.bool qw)/\Below W.heap.size W w')):=fun W _=>by
    have h:=rfOpens_walk (b0,b1,b2) i W
    rw [hqo] at h
    exact h
   clear hix hqo HQW
   go_upto_region 3 with fail
   clear y0 y1 y2 y3 y4 y5 x0 x1 x2 x3 x4 x5 p0 p1 p2
   refine wp_region_held_drew (S:=(fun W'=>Below w3.heap.size w3 W')) (by kernel_rfl) (Below.refl _ _ |>.drew) (fun hH=>?_)
   generalize w3.drew=wz at hH ⊢
   refine tK (i:=0) (oi:=⟨some 14,.load 33 (.tmp 5),33,"ref.go:262",#[],none⟩) (v:=.agg #[.int .i64 b0,.int .i64 b1,.int .i64 b2]) (Or.inl ⟨by rfl,fun W hS=>by obtain ⟨y0,y1,y2,y3,y4,y5,x0,x1,x2,x3,x4,x5,p0,p1,p2⟩:=HKP.out W hS;go_simp⟩) hH ?_
   refine tK (i:=1) (oi:=⟨some 15,.load 31 (.tmp 3),31,"ref.go:262",#[],none⟩) (v:=.agg #[.string md.name,.slice va1 md.attrs.length vc1,.slice va2 md.events.length vc2,.slice va3 md.stages.length vc3,.slice va4 md.stones.length vc4,.slice va5 md.apart.length vc5]) (Or.inl ⟨by rfl,fun W hS=>by obtain ⟨y0,y1,y2,y3,y4,y5,x0,x1,x2,x3,x4,x5,p0,p1,p2⟩:=HKP.out W hS;go_simp⟩) hH ?_
   refine tK (i:=2) (oi:=⟨some 16,.fieldAddr 69 (.tmp 4) 0,0,"ref.go:262",#[],none⟩) (v:=.pointer (some ⟨w.heap.size+1,0,none⟩)) (Or.inl ⟨by rfl,fun W hS=>by go_simp⟩) hH ?_
   refine tK (i:=3) (oi:=⟨some 17,.fieldAddr 35 (.tmp 16) 1,0,"ref.go:262",#[⟨2,.data⟩],none⟩) (v:=.pointer (some ⟨w.heap.size+1,1,none⟩)) (Or.inl ⟨by rfl,fun W hS=>by go_simp⟩) hH ?_
   refine tK (i:=4) (oi:=⟨some 18,.load 9 (.tmp 17),9,"ref.go:262",#[⟨3,.data⟩],none⟩) (v:=.string name) (Or.inl ⟨by rfl,fun W hS=>by obtain ⟨y0,y1,y2,y3,y4,y5,x0,x1,x2,x3,x4,x5,p0,p1,p2⟩:=HKP.out W hS;go_simp⟩) hH ?_
   refine rD [5] ?_
   refine AllReadyH.cons rfl (fun K hK=>?_) AllReadyH.nil
   go_simp
   go_at_call 60
   refine (HST.out _ hH).mono ?_
   rintro e WQ5 ⟨rfl,hb⟩
   have hH5:=hH.trans (hb.mono hH.size)
   clear hb
   go_wp2_with fail
   refine kK hK hH5 (fun hH=>?_)
   clear hK K
   refine rD [6] ?_
   refine AllReadyH.cons rfl (fun K hK=>?_) AllReadyH.nil
   go_simp
   go_at_call 59
   refine (HOP.out _ hH).mono ?_
   rintro e WQ6 ⟨rfl,hb⟩
   have hH6:=hH.trans (hb.mono hH.size)
   clear hb
   go_wp2_with fail
   refine kK hK hH6 (fun hH=>?_)
   clear hK K
   refine wpAnyH_done (by kernel_rfl) ?_ _
   cases qw with
   | true =>
    go_wp2_with fail
    go_ret
    exact ⟨ret_bool (by rw [<-HQ.out];rfl),(HB3.out.trans (hH.mono HB3.out.size))⟩
   | false =>
    go_wp2_with fail
    go_meet
    exact ⟨hH,by first | rfl | exact trivial⟩
  ·obtain ⟨i,hix⟩:∃i,stageIx md name=i:=⟨_,rfl⟩
   have hqo:closesB md (b0,b1,b2) i=qw:=by rw [<-HQW.out,<-hix];simp [waitB]
   have HST:Hid (∀W,Below w3.heap.size w3 W-> Calls Tryz.prog 60 #[.agg (ModelV.cs ⟨va1,vc1,va2,vc2,va3,vc3,va4,vc4,va5,vc5⟩ md).toArray,.string name] W (fun e w'=>e=.returned (.int .i64 i)/\Below W.heap.size W w')):=fun W hb=>by
    have h:=rfStage_walk md ⟨va1,vc1,va2,vc2,va3,vc3,va4,vc4,va5,vc5⟩ name W HZ.out.stages (HM.out W hb)
    rw [hix] at h
    exact h
   have HOP:Hid (∀W,Below w3.heap.size w3 W-> Calls Tryz.prog 61 #[.agg (ModelV.cs ⟨va1,vc1,va2,vc2,va3,vc3,va4,vc4,va5,vc5⟩ md).toArray,.agg #[.int .i64 b0,.int .i64 b1,.int .i64 b2],.int .i64 i] W (fun e w'=>e=.returned (.bool qw)/\Below W.heap.size W w')):=fun W hb=>by
    have h:=rfCloses_walk md ⟨va1,vc1,va2,vc2,va3,vc3,va4,vc4,va5,vc5⟩ (b0,b1,b2) i W HIO.out (by rw [<-hix];exact HIXL.out.1) (HM.out W hb)
    rw [hqo] at h
    exact h
   clear hix hqo HQW
   go_upto_region 6 with fail
   clear y0 y1 y2 y3 y4 y5 x0 x1 x2 x3 x4 x5 p0 p1 p2
   refine wp_region_held_drew (S:=(fun W'=>Below w3.heap.size w3 W')) (by kernel_rfl) (Below.refl _ _ |>.drew) (fun hH=>?_)
   generalize w3.drew=wz at hH ⊢
   refine tK (i:=0) (oi:=⟨some 23,.load 31 (.tmp 3),31,"ref.go:266",#[],none⟩) (v:=.agg #[.string md.name,.slice va1 md.attrs.length vc1,.slice va2 md.events.length vc2,.slice va3 md.stages.length vc3,.slice va4 md.stones.length vc4,.slice va5 md.apart.length vc5]) (Or.inl ⟨by rfl,fun W hS=>by obtain ⟨y0,y1,y2,y3,y4,y5,x0,x1,x2,x3,x4,x5,p0,p1,p2⟩:=HKP.out W hS;go_simp⟩) hH ?_
   refine tK (i:=1) (oi:=⟨some 24,.load 33 (.tmp 5),33,"ref.go:266",#[],none⟩) (v:=.agg #[.int .i64 b0,.int .i64 b1,.int .i64 b2]) (Or.inl ⟨by rfl,fun W hS=>by obtain ⟨y0,y1,y2,y3,y4,y5,x0,x1,x2,x3,x4,x5,p0,p1,p2⟩:=HKP.out W hS;go_simp⟩) hH ?_
   refine tK (i:=2) (oi:=⟨some 25,.load 31 (.tmp 3),31,"ref.go:266",#[],none⟩) (v:=.agg #[.string md.name,.slice va1 md.attrs.length vc1,.slice va2 md.events.length vc2,.slice va3 md.stages.length vc3,.slice va4 md.stones.length vc4,.slice va5 md.apart.length vc5]) (Or.inl ⟨by rfl,fun W hS=>by obtain ⟨y0,y1,y2,y3,y4,y5,x0,x1,x2,x3,x4,x5,p0,p1,p2⟩:=HKP.out W hS;go_simp⟩) hH ?_
   refine tK (i:=3) (oi:=⟨some 26,.fieldAddr 69 (.tmp 4) 0,0,"ref.go:266",#[],none⟩) (v:=.pointer (some ⟨w.heap.size+1,0,none⟩)) (Or.inl ⟨by rfl,fun W hS=>by go_simp⟩) hH ?_
   refine tK (i:=4) (oi:=⟨some 27,.fieldAddr 35 (.tmp 26) 1,0,"ref.go:266",#[⟨3,.data⟩],none⟩) (v:=.pointer (some ⟨w.heap.size+1,1,none⟩)) (Or.inl ⟨by rfl,fun W hS=>by go_simp⟩) hH ?_
   refine tK (i:=5) (oi:=⟨some 28,.load 9 (.tmp 27),9,"ref.go:266",#[⟨4,.data⟩],none⟩) (v:=.string name) (Or.inl ⟨by rfl,fun W hS=>by obtain ⟨y0,y1,y2,y3,y4,y5,x0,x1,x2,x3,x4,x5,p0,p1,p2⟩:=HKP.out W hS;go_simp⟩) hH ?_
   refine rD [6] ?_
   refine AllReadyH.cons rfl (fun K hK=>?_) AllReadyH.nil
   go_simp
   go_at_call 60
   refine (HST.out _ hH).mono ?_
   rintro e WQ5 ⟨rfl,hb⟩
   have hH5:=hH.trans (hb.mono hH.size)
   clear hb
   go_wp2_with fail
   refine kK hK hH5 (fun hH=>?_)
   clear hK K
   refine rD [7] ?_
   refine AllReadyH.cons rfl (fun K hK=>?_) AllReadyH.nil
   go_simp
   go_at_call 61
   refine (HOP.out _ hH).mono ?_
   rintro e WQ6 ⟨rfl,hb⟩
   have hH6:=hH.trans (hb.mono hH.size)
   clear hb
   go_wp2_with fail
   refine kK hK hH6 (fun hH=>?_)
   clear hK K
   refine wpAnyH_done (by kernel_rfl) ?_ _
   cases qw with
   | true =>
    go_wp2_with fail
    go_ret
    exact ⟨ret_bool (by rw [<-HQ.out];rfl),(HB3.out.trans (hH.mono HB3.out.size))⟩
   | false =>
    go_wp2_with fail
    go_meet
    exact ⟨hH,by first | rfl | exact trivial⟩
  ·by_cases h0:b0=3
   ·subst h0
    obtain ⟨i,hix⟩:∃i,stoneIx md name=i:=⟨_,rfl⟩
    have hqo:(b1==i)=qw:=by rw [<-HQW.out,<-hix];simp only [waitB];simp;rfl
    have HST:Hid (∀W,Below w3.heap.size w3 W-> Calls Tryz.prog 62 #[.agg (ModelV.cs ⟨va1,vc1,va2,vc2,va3,vc3,va4,vc4,va5,vc5⟩ md).toArray,.string name] W (fun e w'=>e=.returned (.int .i64 i)/\Below W.heap.size W w')):=fun W hb=>by
     have h:=rfStone_walk md ⟨va1,vc1,va2,vc2,va3,vc3,va4,vc4,va5,vc5⟩ name W HZ.out.stones (HM.out W hb)
     rw [hix] at h
     exact h
    clear hix HQW
    go_upto_region 9 with fail
    clear y0 y1 y2 y3 y4 y5 x0 x1 x2 x3 x4 x5 p0 p1 p2
    refine wp_region_held_drew (S:=(fun W'=>Below w3.heap.size w3 W')) (by kernel_rfl) (Below.refl _ _ |>.drew) (fun hH=>?_)
    generalize w3.drew=wz at hH ⊢
    refine tK (i:=0) (oi:=⟨some 33,.indexAddr 33 (.tmp 5) (.const (.int .i64 0)),0,"ref.go:270",#[],none⟩) (v:=.pointer (some ⟨w.heap.size+1+1,0,none⟩)) (Or.inl ⟨by rfl,fun W hS=>by go_simp⟩) hH ?_
    refine tK (i:=1) (oi:=⟨some 34,.load 3 (.tmp 33),3,"ref.go:270",#[⟨0,.data⟩],none⟩) (v:=.int .i64 3) (Or.inl ⟨by rfl,fun W hS=>by obtain ⟨y0,y1,y2,y3,y4,y5,x0,x1,x2,x3,x4,x5,p0,p1,p2⟩:=HKP.out W hS;go_simp⟩) hH ?_
    refine tK (i:=2) (oi:=⟨some 35,.binOp .eql 3 (.tmp 34) (.const (.int .i64 3)) 3,4,"ref.go:270",#[⟨1,.data⟩],none⟩) (v:=.bool true) (Or.inl ⟨by rfl,fun W hS=>by go_simp⟩) hH ?_
    refine tK (i:=3) (oi:=⟨some 36,.move (.tmp 35),4,"ref.go:270",#[⟨2,.data⟩],none⟩) (v:=.bool true) (Or.inl ⟨by rfl,fun W hS=>by go_simp⟩) hH ?_
    refine tK (i:=4) (oi:=⟨some 37,.indexAddr 33 (.tmp 5) (.const (.int .i64 1)),0,"ref.go:270",#[⟨3,.guard⟩],some (3,true)⟩) (v:=.pointer (some ⟨w.heap.size+1+1,1,none⟩)) (Or.inl ⟨by rfl,fun W hS=>by go_simp⟩) hH ?_
    refine tK (i:=5) (oi:=⟨some 38,.load 3 (.tmp 37),3,"ref.go:270",#[⟨4,.data⟩,⟨3,.guard⟩],some (3,true)⟩) (v:=.int .i64 b1) (Or.inl ⟨by rfl,fun W hS=>by obtain ⟨y0,y1,y2,y3,y4,y5,x0,x1,x2,x3,x4,x5,p0,p1,p2⟩:=HKP.out W hS;go_simp⟩) hH ?_
    refine tK (i:=6) (oi:=⟨some 39,.load 31 (.tmp 3),31,"ref.go:270",#[⟨3,.guard⟩],some (3,true)⟩) (v:=.agg #[.string md.name,.slice va1 md.attrs.length vc1,.slice va2 md.events.length vc2,.slice va3 md.stages.length vc3,.slice va4 md.stones.length vc4,.slice va5 md.apart.length vc5]) (Or.inl ⟨by rfl,fun W hS=>by obtain ⟨y0,y1,y2,y3,y4,y5,x0,x1,x2,x3,x4,x5,p0,p1,p2⟩:=HKP.out W hS;go_simp⟩) hH ?_
    refine tK (i:=7) (oi:=⟨some 40,.fieldAddr 69 (.tmp 4) 0,0,"ref.go:270",#[⟨3,.guard⟩],some (3,true)⟩) (v:=.pointer (some ⟨w.heap.size+1,0,none⟩)) (Or.inl ⟨by rfl,fun W hS=>by go_simp⟩) hH ?_
    refine tK (i:=8) (oi:=⟨some 41,.fieldAddr 35 (.tmp 40) 1,0,"ref.go:270",#[⟨7,.data⟩,⟨3,.guard⟩],some (3,true)⟩) (v:=.pointer (some ⟨w.heap.size+1,1,none⟩)) (Or.inl ⟨by rfl,fun W hS=>by go_simp⟩) hH ?_
    refine tK (i:=9) (oi:=⟨some 42,.load 9 (.tmp 41),9,"ref.go:270",#[⟨8,.data⟩,⟨3,.guard⟩],some (3,true)⟩) (v:=.string name) (Or.inl ⟨by rfl,fun W hS=>by obtain ⟨y0,y1,y2,y3,y4,y5,x0,x1,x2,x3,x4,x5,p0,p1,p2⟩:=HKP.out W hS;go_simp⟩) hH ?_
    refine rD [10] ?_
    refine AllReadyH.cons rfl (fun K hK=>?_) AllReadyH.nil
    go_simp
    go_at_call 62
    refine (HST.out _ hH).mono ?_
    rintro e WQ5 ⟨rfl,hb⟩
    have hH5:=hH.trans (hb.mono hH.size)
    clear hb
    go_wp2_with fail
    refine kK hK hH5 (fun hH=>?_)
    clear hK K
    refine tK (i:=11) (oi:=⟨some 44,.binOp .eql 3 (.tmp 38) (.tmp 43) 3,4,"ref.go:270",#[⟨5,.data⟩,⟨10,.data⟩,⟨3,.guard⟩],some (3,true)⟩) (v:=.bool qw) (Or.inl ⟨by rfl,fun W hS=>by go_simp⟩) hH ?_
    refine tK (i:=12) (oi:=⟨some 45,.pick (.tmp 36) (.tmp 44) (.const (.bool false)),4,"ref.go:270",#[⟨3,.data⟩,⟨11,.data⟩],none⟩) (v:=.bool qw) (Or.inl ⟨by rfl,fun W hS=>by cases qw<;>go_simp⟩) hH ?_
    refine wpAnyH_done (by kernel_rfl) ?_ _
    cases qw with
    | true =>
     go_wp2_with fail
     go_ret
     exact ⟨ret_bool (by rw [<-HQ.out];rfl),(HB3.out.trans (hH.mono HB3.out.size))⟩
    | false =>
     go_wp2_with fail
     go_meet
     exact ⟨hH,by first | rfl | exact trivial⟩
   have e0:(b0==3)=false:=by simpa using h0
   have HQW1:Hid (qw=false):=by show _=_;rw [<-HQW.out];simp [waitB,h0]
   clear h0
   go_upto_region 9 with fail
   clear y0 y1 y2 y3 y4 y5 x0 x1 x2 x3 x4 x5 p0 p1 p2
   refine wp_region_held_drew (S:=(fun W'=>Below w3.heap.size w3 W')) (by kernel_rfl) (Below.refl _ _ |>.drew) (fun hH=>?_)
   generalize w3.drew=wz at hH ⊢
   refine tK (i:=0) (oi:=⟨some 33,.indexAddr 33 (.tmp 5) (.const (.int .i64 0)),0,"ref.go:270",#[],none⟩) (v:=.pointer (some ⟨w.heap.size+1+1,0,none⟩)) (Or.inl ⟨by rfl,fun W hS=>by go_simp⟩) hH ?_
   refine tK (i:=1) (oi:=⟨some 34,.load 3 (.tmp 33),3,"ref.go:270",#[⟨0,.data⟩],none⟩) (v:=.int .i64 b0) (Or.inl ⟨by rfl,fun W hS=>by obtain ⟨y0,y1,y2,y3,y4,y5,x0,x1,x2,x3,x4,x5,p0,p1,p2⟩:=HKP.out W hS;go_simp⟩) hH ?_
   refine tK (i:=2) (oi:=⟨some 35,.binOp .eql 3 (.tmp 34) (.const (.int .i64 3)) 3,4,"ref.go:270",#[⟨1,.data⟩],none⟩) (v:=.bool false) (Or.inl ⟨by rfl,fun W hS=>by go_simp⟩) hH ?_
   refine tK (i:=3) (oi:=⟨some 36,.move (.tmp 35),4,"ref.go:270",#[⟨2,.data⟩],none⟩) (v:=.bool false) (Or.inl ⟨by rfl,fun W hS=>by go_simp⟩) hH ?_
   refine tK (i:=4) (oi:=⟨some 37,.indexAddr 33 (.tmp 5) (.const (.int .i64 1)),0,"ref.go:270",#[⟨3,.guard⟩],some (3,true)⟩) (v:=undef) (Or.inr ⟨by rfl,rfl⟩) hH ?_
   refine tK (i:=5) (oi:=⟨some 38,.load 3 (.tmp 37),3,"ref.go:270",#[⟨4,.data⟩,⟨3,.guard⟩],some (3,true)⟩) (v:=undef) (Or.inr ⟨by rfl,rfl⟩) hH ?_
   refine tK (i:=6) (oi:=⟨some 39,.load 31 (.tmp 3),31,"ref.go:270",#[⟨3,.guard⟩],some (3,true)⟩) (v:=undef) (Or.inr ⟨by rfl,rfl⟩) hH ?_
   refine tK (i:=7) (oi:=⟨some 40,.fieldAddr 69 (.tmp 4) 0,0,"ref.go:270",#[⟨3,.guard⟩],some (3,true)⟩) (v:=undef) (Or.inr ⟨by rfl,rfl⟩) hH ?_
   refine tK (i:=8) (oi:=⟨some 41,.fieldAddr 35 (.tmp 40) 1,0,"ref.go:270",#[⟨7,.data⟩,⟨3,.guard⟩],some (3,true)⟩) (v:=undef) (Or.inr ⟨by rfl,rfl⟩) hH ?_
   refine tK (i:=9) (oi:=⟨some 42,.load 9 (.tmp 41),9,"ref.go:270",#[⟨8,.data⟩,⟨3,.guard⟩],some (3,true)⟩) (v:=undef) (Or.inr ⟨by rfl,rfl⟩) hH ?_
   refine tK (i:=10) (oi:=⟨some 43,.call { callee:=.value (.func 62),args:=#[.tmp 39,.tmp 42],argTypes:=#[31,9] },3,"ref.go:270",#[⟨6,.data⟩,⟨9,.data⟩,⟨3,.chain⟩,⟨3,.guard⟩],some (3,true)⟩) (v:=undef) (Or.inr ⟨by rfl,rfl⟩) hH ?_
   refine tK (i:=11) (oi:=⟨some 44,.binOp .eql 3 (.tmp 38) (.tmp 43) 3,4,"ref.go:270",#[⟨5,.data⟩,⟨10,.data⟩,⟨3,.guard⟩],some (3,true)⟩) (v:=undef) (Or.inr ⟨by rfl,rfl⟩) hH ?_
   refine tK (i:=12) (oi:=⟨some 45,.pick (.tmp 36) (.tmp 44) (.const (.bool false)),4,"ref.go:270",#[⟨3,.data⟩,⟨11,.data⟩],none⟩) (v:=.bool false) (Or.inl ⟨by rfl,fun W hS=>by go_simp⟩) hH ?_
   refine wpAnyH_done (by kernel_rfl) ?_ _
   go_wp2_with fail
   go_meet
   exact ⟨hH,HQW1.out⟩
  ·by_cases h0:b0=4
   ·subst h0
    obtain ⟨i,hix⟩:∃i,stoneIx md name=i:=⟨_,rfl⟩
    have hqo:(b1==i)=qw:=by rw [<-HQW.out,<-hix];simp only [waitB];simp;rfl
    have HST:Hid (∀W,Below w3.heap.size w3 W-> Calls Tryz.prog 62 #[.agg (ModelV.cs ⟨va1,vc1,va2,vc2,va3,vc3,va4,vc4,va5,vc5⟩ md).toArray,.string name] W (fun e w'=>e=.returned (.int .i64 i)/\Below W.heap.size W w')):=fun W hb=>by
     have h:=rfStone_walk md ⟨va1,vc1,va2,vc2,va3,vc3,va4,vc4,va5,vc5⟩ name W HZ.out.stones (HM.out W hb)
     rw [hix] at h
     exact h
    clear hix HQW
    go_upto_region 12 with fail
    clear y0 y1 y2 y3 y4 y5 x0 x1 x2 x3 x4 x5 p0 p1 p2
    refine wp_region_held_drew (S:=(fun W'=>Below w3.heap.size w3 W')) (by kernel_rfl) (Below.refl _ _ |>.drew) (fun hH=>?_)
    generalize w3.drew=wz at hH ⊢
    refine tK (i:=0) (oi:=⟨some 48,.indexAddr 33 (.tmp 5) (.const (.int .i64 0)),0,"ref.go:274",#[],none⟩) (v:=.pointer (some ⟨w.heap.size+1+1,0,none⟩)) (Or.inl ⟨by rfl,fun W hS=>by go_simp⟩) hH ?_
    refine tK (i:=1) (oi:=⟨some 49,.load 3 (.tmp 48),3,"ref.go:274",#[⟨0,.data⟩],none⟩) (v:=.int .i64 4) (Or.inl ⟨by rfl,fun W hS=>by obtain ⟨y0,y1,y2,y3,y4,y5,x0,x1,x2,x3,x4,x5,p0,p1,p2⟩:=HKP.out W hS;go_simp⟩) hH ?_
    refine tK (i:=2) (oi:=⟨some 50,.binOp .eql 3 (.tmp 49) (.const (.int .i64 4)) 3,4,"ref.go:274",#[⟨1,.data⟩],none⟩) (v:=.bool true) (Or.inl ⟨by rfl,fun W hS=>by go_simp⟩) hH ?_
    refine tK (i:=3) (oi:=⟨some 51,.move (.tmp 50),4,"ref.go:274",#[⟨2,.data⟩],none⟩) (v:=.bool true) (Or.inl ⟨by rfl,fun W hS=>by go_simp⟩) hH ?_
    refine tK (i:=4) (oi:=⟨some 52,.indexAddr 33 (.tmp 5) (.const (.int .i64 1)),0,"ref.go:274",#[⟨3,.guard⟩],some (3,true)⟩) (v:=.pointer (some ⟨w.heap.size+1+1,1,none⟩)) (Or.inl ⟨by rfl,fun W hS=>by go_simp⟩) hH ?_
    refine tK (i:=5) (oi:=⟨some 53,.load 3 (.tmp 52),3,"ref.go:274",#[⟨4,.data⟩,⟨3,.guard⟩],some (3,true)⟩) (v:=.int .i64 b1) (Or.inl ⟨by rfl,fun W hS=>by obtain ⟨y0,y1,y2,y3,y4,y5,x0,x1,x2,x3,x4,x5,p0,p1,p2⟩:=HKP.out W hS;go_simp⟩) hH ?_
    refine tK (i:=6) (oi:=⟨some 54,.load 31 (.tmp 3),31,"ref.go:274",#[⟨3,.guard⟩],some (3,true)⟩) (v:=.agg #[.string md.name,.slice va1 md.attrs.length vc1,.slice va2 md.events.length vc2,.slice va3 md.stages.length vc3,.slice va4 md.stones.length vc4,.slice va5 md.apart.length vc5]) (Or.inl ⟨by rfl,fun W hS=>by obtain ⟨y0,y1,y2,y3,y4,y5,x0,x1,x2,x3,x4,x5,p0,p1,p2⟩:=HKP.out W hS;go_simp⟩) hH ?_
    refine tK (i:=7) (oi:=⟨some 55,.fieldAddr 69 (.tmp 4) 0,0,"ref.go:274",#[⟨3,.guard⟩],some (3,true)⟩) (v:=.pointer (some ⟨w.heap.size+1,0,none⟩)) (Or.inl ⟨by rfl,fun W hS=>by go_simp⟩) hH ?_
    refine tK (i:=8) (oi:=⟨some 56,.fieldAddr 35 (.tmp 55) 1,0,"ref.go:274",#[⟨7,.data⟩,⟨3,.guard⟩],some (3,true)⟩) (v:=.pointer (some ⟨w.heap.size+1,1,none⟩)) (Or.inl ⟨by rfl,fun W hS=>by go_simp⟩) hH ?_
    refine tK (i:=9) (oi:=⟨some 57,.load 9 (.tmp 56),9,"ref.go:274",#[⟨8,.data⟩,⟨3,.guard⟩],some (3,true)⟩) (v:=.string name) (Or.inl ⟨by rfl,fun W hS=>by obtain ⟨y0,y1,y2,y3,y4,y5,x0,x1,x2,x3,x4,x5,p0,p1,p2⟩:=HKP.out W hS;go_simp⟩) hH ?_
    refine rD [10] ?_
    refine AllReadyH.cons rfl (fun K hK=>?_) AllReadyH.nil
    go_simp
    go_at_call 62
    refine (HST.out _ hH).mono ?_
    rintro e WQ5 ⟨rfl,hb⟩
    have hH5:=hH.trans (hb.mono hH.size)
    clear hb
    go_wp2_with fail
    refine kK hK hH5 (fun hH=>?_)
    clear hK K
    refine tK (i:=11) (oi:=⟨some 59,.binOp .eql 3 (.tmp 53) (.tmp 58) 3,4,"ref.go:274",#[⟨5,.data⟩,⟨10,.data⟩,⟨3,.guard⟩],some (3,true)⟩) (v:=.bool qw) (Or.inl ⟨by rfl,fun W hS=>by go_simp⟩) hH ?_
    refine tK (i:=12) (oi:=⟨some 60,.pick (.tmp 51) (.tmp 59) (.const (.bool false)),4,"ref.go:274",#[⟨3,.data⟩,⟨11,.data⟩],none⟩) (v:=.bool qw) (Or.inl ⟨by rfl,fun W hS=>by cases qw<;>go_simp⟩) hH ?_
    refine wpAnyH_done (by kernel_rfl) ?_ _
    cases qw with
    | true =>
     go_wp2_with fail
     go_ret
     exact ⟨ret_bool (by rw [<-HQ.out];rfl),(HB3.out.trans (hH.mono HB3.out.size))⟩
    | false =>
     go_wp2_with fail
     go_meet
     exact ⟨hH,by first | rfl | exact trivial⟩
   have e0:(b0==4)=false:=by simpa using h0
   have HQW1:Hid (qw=false):=by show _=_;rw [<-HQW.out];simp [waitB,h0]
   clear h0
   go_upto_region 12 with fail
   clear y0 y1 y2 y3 y4 y5 x0 x1 x2 x3 x4 x5 p0 p1 p2
   refine wp_region_held_drew (S:=(fun W'=>Below w3.heap.size w3 W')) (by kernel_rfl) (Below.refl _ _ |>.drew) (fun hH=>?_)
   generalize w3.drew=wz at hH ⊢
   refine tK (i:=0) (oi:=⟨some 48,.indexAddr 33 (.tmp 5) (.const (.int .i64 0)),0,"ref.go:274",#[],none⟩) (v:=.pointer (some ⟨w.heap.size+1+1,0,none⟩)) (Or.inl ⟨by rfl,fun W hS=>by go_simp⟩) hH ?_
   refine tK (i:=1) (oi:=⟨some 49,.load 3 (.tmp 48),3,"ref.go:274",#[⟨0,.data⟩],none⟩) (v:=.int .i64 b0) (Or.inl ⟨by rfl,fun W hS=>by obtain ⟨y0,y1,y2,y3,y4,y5,x0,x1,x2,x3,x4,x5,p0,p1,p2⟩:=HKP.out W hS;go_simp⟩) hH ?_
   refine tK (i:=2) (oi:=⟨some 50,.binOp .eql 3 (.tmp 49) (.const (.int .i64 4)) 3,4,"ref.go:274",#[⟨1,.data⟩],none⟩) (v:=.bool false) (Or.inl ⟨by rfl,fun W hS=>by go_simp⟩) hH ?_
   refine tK (i:=3) (oi:=⟨some 51,.move (.tmp 50),4,"ref.go:274",#[⟨2,.data⟩],none⟩) (v:=.bool false) (Or.inl ⟨by rfl,fun W hS=>by go_simp⟩) hH ?_
   refine tK (i:=4) (oi:=⟨some 52,.indexAddr 33 (.tmp 5) (.const (.int .i64 1)),0,"ref.go:274",#[⟨3,.guard⟩],some (3,true)⟩) (v:=undef) (Or.inr ⟨by rfl,rfl⟩) hH ?_
   refine tK (i:=5) (oi:=⟨some 53,.load 3 (.tmp 52),3,"ref.go:274",#[⟨4,.data⟩,⟨3,.guard⟩],some (3,true)⟩) (v:=undef) (Or.inr ⟨by rfl,rfl⟩) hH ?_
   refine tK (i:=6) (oi:=⟨some 54,.load 31 (.tmp 3),31,"ref.go:274",#[⟨3,.guard⟩],some (3,true)⟩) (v:=undef) (Or.inr ⟨by rfl,rfl⟩) hH ?_
   refine tK (i:=7) (oi:=⟨some 55,.fieldAddr 69 (.tmp 4) 0,0,"ref.go:274",#[⟨3,.guard⟩],some (3,true)⟩) (v:=undef) (Or.inr ⟨by rfl,rfl⟩) hH ?_
   refine tK (i:=8) (oi:=⟨some 56,.fieldAddr 35 (.tmp 55) 1,0,"ref.go:274",#[⟨7,.data⟩,⟨3,.guard⟩],some (3,true)⟩) (v:=undef) (Or.inr ⟨by rfl,rfl⟩) hH ?_
   refine tK (i:=9) (oi:=⟨some 57,.load 9 (.tmp 56),9,"ref.go:274",#[⟨8,.data⟩,⟨3,.guard⟩],some (3,true)⟩) (v:=undef) (Or.inr ⟨by rfl,rfl⟩) hH ?_
   refine tK (i:=10) (oi:=⟨some 58,.call { callee:=.value (.func 62),args:=#[.tmp 54,.tmp 57],argTypes:=#[31,9] },3,"ref.go:274",#[⟨6,.data⟩,⟨9,.data⟩,⟨3,.chain⟩,⟨3,.guard⟩],some (3,true)⟩) (v:=undef) (Or.inr ⟨by rfl,rfl⟩) hH ?_
   refine tK (i:=11) (oi:=⟨some 59,.binOp .eql 3 (.tmp 53) (.tmp 58) 3,4,"ref.go:274",#[⟨5,.data⟩,⟨10,.data⟩,⟨3,.guard⟩],some (3,true)⟩) (v:=undef) (Or.inr ⟨by rfl,rfl⟩) hH ?_
   refine tK (i:=12) (oi:=⟨some 60,.pick (.tmp 51) (.tmp 59) (.const (.bool false)),4,"ref.go:274",#[⟨3,.data⟩,⟨11,.data⟩],none⟩) (v:=.bool false) (Or.inl ⟨by rfl,fun W hS=>by go_simp⟩) hH ?_
   refine wpAnyH_done (by kernel_rfl) ?_ _
   go_wp2_with fail
   go_meet
   exact ⟨hH,HQW1.out⟩
  have HQW1:Hid (qw=false):=by show _=_;rw [<-HQW.out];simp [waitB,n2,n3,n4,n5]
  have e2:(on==2)=false:=by simpa using n2
  have e3:(on==3)=false:=by simpa using n3
  have e4:(on==4)=false:=by simpa using n4
  have e5:(on==5)=false:=by simpa using n5
  clear n2 n3 n4 n5
  go_wp2_with fail
  go_meet
  exact ⟨Below.refl _ _,HQW1.out⟩
 obtain ⟨HBX,HQW0⟩:=hcut
 rename World=>w4
 obtain rfl:qw=false:=HQW0.out
 clear y0 y1 y2 y3 y4 y5 x0 x1 x2 x3 x4 x5 p0 p1 p2
 obtain ⟨y0,y1,y2,y3,y4,y5,x0,x1,x2,x3,x4,x5,p0,p1,p2⟩:=HKP.out w4 HBX.out
 clear HQW HQW0
 go_upto_region 14 with fail
 go_cut [76] (fun t wx=>t=.bool qi/\Hid (Below w3.heap.size w3 wx))
 case first =>
  by_cases h0:0<=inn
  ·obtain ⟨qo,hqo⟩:∃qo,opensB (b0,b1,b2) inn=qo:=⟨_,rfl⟩
   obtain ⟨qc,hqc⟩:∃qc,closesB md (b0,b1,b2) inn=qc:=⟨_,rfl⟩
   have hqe:(qo||qc)=qi:=by rw [<-HQI.out];simp only [innB,hqo,hqc,decide_eq_true h0,Bool.true_and]
   have HOP:Hid (∀W,Below w3.heap.size w3 W-> Calls Tryz.prog 59 #[.agg #[.int .i64 b0,.int .i64 b1,.int .i64 b2],.int .i64 inn] W (fun e w'=>e=.returned (.bool qo)/\Below W.heap.size W w')):=fun W _=>by
    have h:=rfOpens_walk (b0,b1,b2) inn W
    rw [hqo] at h
    exact h
   have HCL:Hid (∀W,Below w3.heap.size w3 W-> Calls Tryz.prog 61 #[.agg (ModelV.cs ⟨va1,vc1,va2,vc2,va3,vc3,va4,vc4,va5,vc5⟩ md).toArray,.agg #[.int .i64 b0,.int .i64 b1,.int .i64 b2],.int .i64 inn] W (fun e w'=>e=.returned (.bool qc)/\Below W.heap.size W w')):=fun W hb=>by
    have h:=rfCloses_walk md ⟨va1,vc1,va2,vc2,va3,vc3,va4,vc4,va5,vc5⟩ (b0,b1,b2) inn W HIO.out HN.out (HM.out W hb)
    rw [hqc] at h
    exact h
   have HQE:=hid hqe
   clear hqo hqc hqe
   go_wp2_with fail
   refine (HOP.out _ HBX.out).mono ?_
   rintro e w5 ⟨rfl,hb5⟩
   have HB5:=hid (HBX.out.trans (hb5.mono HBX.out.size))
   clear hb5 HBX
   clear y0 y1 y2 y3 y4 y5 x0 x1 x2 x3 x4 x5 p0 p1 p2
   obtain ⟨y0,y1,y2,y3,y4,y5,x0,x1,x2,x3,x4,x5,p0,p1,p2⟩:=HKP.out w5 HB5.out
   cases qo with
   | true =>
    have HQT:Hid (true=qi):=by show _=_;rw [<-HQE.out];rfl
    clear HQE
    go_wp2_with fail
    go_meet
    exact ⟨by rw [<-HQT.out],HB5.out⟩
   | false =>
    have HQT:Hid (qc=qi):=by show _=_;rw [<-HQE.out];rfl
    clear HQE
    go_wp2_with fail
    refine (HCL.out _ HB5.out).mono ?_
    rintro e w6 ⟨rfl,hb6⟩
    have HB6:=hid (HB5.out.trans (hb6.mono HB5.out.size))
    clear hb6
    go_wp2_with fail
    go_meet
    exact ⟨by rw [<-HQT.out],HB6.out⟩
  have hqe:false=qi:=by rw [<-HQI.out];simp only [innB,decide_eq_false h0,Bool.false_and]
  have HQT:=hid hqe
  clear hqe
  have h0':¬0<=inn:=h0
  go_wp2_with fail
  go_meet
  exact ⟨by rw [<-HQT.out],HBX.out⟩
 obtain ⟨rfl,HB7⟩:=hcut
 rename World=>w7
 clear y0 y1 y2 y3 y4 y5 x0 x1 x2 x3 x4 x5 p0 p1 p2
 clear HBX
 obtain ⟨y0,y1,y2,y3,y4,y5,x0,x1,x2,x3,x4,x5,p0,p1,p2⟩:=HKP.out w7 HB7.out
 cases qi with
 | true =>
  have HQT:Hid (true=q):=by show _=_;rw [<-HQ.out];rfl
  go_wp2_with fail
  go_ret
  exact ⟨ret_bool HQT.out,(HB3.out.trans (HB7.out.mono HB3.out.size))⟩
 | false =>
  have hle:=HL.out
  obtain ⟨hn6,hn7⟩:n6<=60000/\n7<=60000:=⟨by rw [HF6.out.1];exact hle.1,by rw [HF7.out.1];exact hle.2⟩
  clear hle
  go_wp2_with fail
  clear y0 y1 y2 y3 y4 y5 x0 x1 x2 x3 x4 x5 p0 p1 p2
  go_loopw [7] (fun t wr=>∃m:Nat,m<=n6/\t=.int .i64 (m:Int)/\Hid (Below w3.heap.size w3 wr)/\Hid (∀j (_:j<m) (h:j<st.length),(opensB (b0,b1,b2) (st[j]'h)||closesB md (b0,b1,b2) (st[j]'h))=false)) (fun t _=>n6-(intOf t).toNat)
  case atStart=>exact ⟨0,Nat.zero_le _,rfl,HB7.out,fun j hj=>absurd hj (Nat.not_lt_zero _)⟩
  obtain ⟨m,hml,rfl,HBW,HS⟩:=hrel
  obtain ⟨wo,rfl⟩:∃wo,wo=wr:=⟨_,rfl⟩
  obtain ⟨y0,y1,y2,y3,y4,y5,x0,x1,x2,x3,x4,x5,p0,p1,p2⟩:=HKP.out wo HBW.out
  by_cases hlt:m<n6
  ·have i1:(m:Int)<(n6:Int):=by omega
   have i2:(0:Int)<=(m:Int):=by omega
   have HML:=hid hlt
   have hmx:m<st.length:=by rw [<-HF6.out.1];exact hlt
   obtain ⟨sb,so,rfl,hce⟩:=HF6.out.2 m hmx
   have hib:=HST6.out _ (List.getElem_mem hmx)
   obtain ⟨i,hix⟩:∃i,st[m]'hmx=i:=⟨_,rfl⟩
   rw [hix] at hce hib
   obtain ⟨qo,hqo⟩:∃qo,opensB (b0,b1,b2) i=qo:=⟨_,rfl⟩
   obtain ⟨qc,hqc⟩:∃qc,closesB md (b0,b1,b2) i=qc:=⟨_,rfl⟩
   have HOP:Hid (∀W,Below w3.heap.size w3 W-> Calls Tryz.prog 59 #[.agg #[.int .i64 b0,.int .i64 b1,.int .i64 b2],.int .i64 i] W (fun e w'=>e=.returned (.bool qo)/\Below W.heap.size W w')):=fun W _=>by
    have h:=rfOpens_walk (b0,b1,b2) i W
    rw [hqo] at h
    exact h
   have HCL:Hid (∀W,Below w3.heap.size w3 W-> Calls Tryz.prog 61 #[.agg (ModelV.cs ⟨va1,vc1,va2,vc2,va3,vc3,va4,vc4,va5,vc5⟩ md).toArray,.agg #[.int .i64 b0,.int .i64 b1,.int .i64 b2],.int .i64 i] W (fun e w'=>e=.returned (.bool qc)/\Below W.heap.size W w')):=fun W hb=>by
    have h:=rfCloses_walk md ⟨va1,vc1,va2,vc2,va3,vc3,va4,vc4,va5,vc5⟩ (b0,b1,b2) i W HIO.out hib (HM.out W hb)
    rw [hqc] at h
    exact h
   have HCE:=hid hce
   have HIX:=hid hix
   have HQO:=hid hqo
   have HQC:=hid hqc
   have k3:IntKind.i64.wrap ((m:Int)+1)=(m:Int)+1:=wrap_i64 (by omega) (by omega)
   have HHIT:Hid ((qo||qc)=true->true=q):=fun h=>by
    have hs:qs=true:=by rw [<-HQS.out];exact any_yes hmx (by rw [HIX.out,HQO.out,HQC.out];exact h)
    rw [<-HQ.out,hs];simp
   have HSN0:Hid ((qo||qc)=false->∀j (_:j<m+1) (h:j<st.length),(opensB (b0,b1,b2) (st[j]'h)||closesB md (b0,b1,b2) (st[j]'h))=false):=fun hf j hj h=>by
    by_cases he:j=m
    ·subst he;rw [HIX.out,HQO.out,HQC.out];exact hf
    exact HS.out j (by omega) h
   clear hce hix hqo hqc hib hmx HS HIX HQO HQC
   go_upto_region 19 with fail
   clear y0 y1 y2 y3 y4 y5 x0 x1 x2 x3 x4 x5 p0 p1 p2
   cases qo with
   | true =>
    have HQT:Hid (true=q):=HHIT.out rfl
    refine wp_region_held_drew (S:=(fun W'=>Below w3.heap.size w3 W')) (by kernel_rfl) (HBW.out.drew) (fun hH=>?_)
    generalize wo.drew=wz at hH ⊢
    refine tK (i:=0) (oi:=⟨some 84,.load 33 (.tmp 5),33,"ref.go:282",#[],none⟩) (v:=.agg #[.int .i64 b0,.int .i64 b1,.int .i64 b2]) (Or.inl ⟨by rfl,fun W hS=>by obtain ⟨y0,y1,y2,y3,y4,y5,x0,x1,x2,x3,x4,x5,p0,p1,p2⟩:=HKP.out W hS;go_simp⟩) hH ?_
    refine tK (i:=1) (oi:=⟨some 85,.fieldAddr 69 (.tmp 4) 2,0,"ref.go:282",#[],none⟩) (v:=.pointer (some ⟨w.heap.size+1,4,none⟩)) (Or.inl ⟨by rfl,fun W hS=>by go_simp⟩) hH ?_
    refine tK (i:=2) (oi:=⟨some 86,.load 67 (.tmp 85),67,"ref.go:282",#[⟨1,.data⟩],none⟩) (v:=.slice (some ⟨sb,so,none⟩) n6 c6) (Or.inl ⟨by rfl,fun W hS=>by obtain ⟨y0,y1,y2,y3,y4,y5,x0,x1,x2,x3,x4,x5,p0,p1,p2⟩:=HKP.out W hS;go_simp⟩) hH ?_
    refine tK (i:=3) (oi:=⟨some 87,.move (.tmp 7),3,"ref.go:282",#[],none⟩) (v:=.int .i64 (m:Int)) (Or.inl ⟨by rfl,fun W hS=>by go_simp⟩) hH ?_
    refine tK (i:=4) (oi:=⟨some 88,.indexAddr 67 (.tmp 86) (.tmp 87),0,"ref.go:282",#[⟨2,.data⟩,⟨3,.data⟩],none⟩) (v:=.pointer (some ⟨sb,so+m,none⟩)) (Or.inl ⟨by rfl,fun W hS=>by go_simp⟩) hH ?_
    refine tK (i:=5) (oi:=⟨some 89,.load 3 (.tmp 88),3,"ref.go:282",#[⟨4,.data⟩],none⟩) (v:=.int .i64 i) (Or.inl ⟨by rfl,fun W hS=>by have k:=HCE.out W hS;go_simp⟩) hH ?_
    refine rD [6] ?_
    refine AllReadyH.cons rfl (fun K hK=>?_) AllReadyH.nil
    go_simp
    go_at_call 59
    refine (HOP.out _ hH).mono ?_
    rintro e WQ5 ⟨rfl,hb⟩
    have hH5:=hH.trans (hb.mono hH.size)
    clear hb
    go_wp2_with fail
    refine kK hK hH5 (fun hH=>?_)
    clear hK K
    refine tK (i:=7) (oi:=⟨some 91,.move (.tmp 90),4,"ref.go:282",#[⟨6,.data⟩,⟨6,.chain⟩],none⟩) (v:=.bool true) (Or.inl ⟨by rfl,fun W hS=>by go_simp⟩) hH ?_
    refine tK (i:=8) (oi:=⟨some 92,.load 31 (.tmp 3),31,"ref.go:282",#[⟨7,.guard⟩],some (7,false)⟩) (v:=undef) (Or.inr ⟨by rfl,rfl⟩) hH ?_
    refine tK (i:=9) (oi:=⟨some 93,.load 33 (.tmp 5),33,"ref.go:282",#[⟨7,.guard⟩],some (7,false)⟩) (v:=undef) (Or.inr ⟨by rfl,rfl⟩) hH ?_
    refine tK (i:=10) (oi:=⟨some 94,.fieldAddr 69 (.tmp 4) 2,0,"ref.go:282",#[⟨7,.guard⟩],some (7,false)⟩) (v:=undef) (Or.inr ⟨by rfl,rfl⟩) hH ?_
    refine tK (i:=11) (oi:=⟨some 95,.load 67 (.tmp 94),67,"ref.go:282",#[⟨10,.data⟩,⟨7,.guard⟩],some (7,false)⟩) (v:=undef) (Or.inr ⟨by rfl,rfl⟩) hH ?_
    refine tK (i:=12) (oi:=⟨some 96,.move (.tmp 7),3,"ref.go:282",#[⟨7,.guard⟩],some (7,false)⟩) (v:=undef) (Or.inr ⟨by rfl,rfl⟩) hH ?_
    refine tK (i:=13) (oi:=⟨some 97,.indexAddr 67 (.tmp 95) (.tmp 96),0,"ref.go:282",#[⟨11,.data⟩,⟨12,.data⟩,⟨7,.guard⟩],some (7,false)⟩) (v:=undef) (Or.inr ⟨by rfl,rfl⟩) hH ?_
    refine tK (i:=14) (oi:=⟨some 98,.load 3 (.tmp 97),3,"ref.go:282",#[⟨13,.data⟩,⟨7,.guard⟩],some (7,false)⟩) (v:=undef) (Or.inr ⟨by rfl,rfl⟩) hH ?_
    refine tK (i:=15) (oi:=⟨some 99,.call { callee:=.value (.func 61),args:=#[.tmp 92,.tmp 93,.tmp 98],argTypes:=#[31,33,3] },4,"ref.go:282",#[⟨8,.data⟩,⟨9,.data⟩,⟨14,.data⟩,⟨7,.chain⟩,⟨7,.guard⟩],some (7,false)⟩) (v:=undef) (Or.inr ⟨by rfl,rfl⟩) hH ?_
    refine tK (i:=16) (oi:=⟨some 100,.pick (.tmp 91) (.const (.bool true)) (.tmp 99),4,"ref.go:282",#[⟨7,.data⟩,⟨15,.data⟩],none⟩) (v:=.bool true) (Or.inl ⟨by rfl,fun W hS=>by go_simp⟩) hH ?_
    refine wpAnyH_done (by kernel_rfl) ?_ _
    go_wp2_with fail
    go_ret
    exact ⟨ret_bool HQT.out,(HB3.out.trans (hH.mono HB3.out.size))⟩
   | false =>
    have HQT:Hid (qc=true->true=q):=fun h=>HHIT.out (by rw [h];rfl)
    have HSN:Hid (qc=false->_):=fun h=>HSN0.out (by rw [h];rfl)
    refine wp_region_held_drew (S:=(fun W'=>Below w3.heap.size w3 W')) (by kernel_rfl) (HBW.out.drew) (fun hH=>?_)
    generalize wo.drew=wz at hH ⊢
    refine tK (i:=0) (oi:=⟨some 84,.load 33 (.tmp 5),33,"ref.go:282",#[],none⟩) (v:=.agg #[.int .i64 b0,.int .i64 b1,.int .i64 b2]) (Or.inl ⟨by rfl,fun W hS=>by obtain ⟨y0,y1,y2,y3,y4,y5,x0,x1,x2,x3,x4,x5,p0,p1,p2⟩:=HKP.out W hS;go_simp⟩) hH ?_
    refine tK (i:=1) (oi:=⟨some 85,.fieldAddr 69 (.tmp 4) 2,0,"ref.go:282",#[],none⟩) (v:=.pointer (some ⟨w.heap.size+1,4,none⟩)) (Or.inl ⟨by rfl,fun W hS=>by go_simp⟩) hH ?_
    refine tK (i:=2) (oi:=⟨some 86,.load 67 (.tmp 85),67,"ref.go:282",#[⟨1,.data⟩],none⟩) (v:=.slice (some ⟨sb,so,none⟩) n6 c6) (Or.inl ⟨by rfl,fun W hS=>by obtain ⟨y0,y1,y2,y3,y4,y5,x0,x1,x2,x3,x4,x5,p0,p1,p2⟩:=HKP.out W hS;go_simp⟩) hH ?_
    refine tK (i:=3) (oi:=⟨some 87,.move (.tmp 7),3,"ref.go:282",#[],none⟩) (v:=.int .i64 (m:Int)) (Or.inl ⟨by rfl,fun W hS=>by go_simp⟩) hH ?_
    refine tK (i:=4) (oi:=⟨some 88,.indexAddr 67 (.tmp 86) (.tmp 87),0,"ref.go:282",#[⟨2,.data⟩,⟨3,.data⟩],none⟩) (v:=.pointer (some ⟨sb,so+m,none⟩)) (Or.inl ⟨by rfl,fun W hS=>by go_simp⟩) hH ?_
    refine tK (i:=5) (oi:=⟨some 89,.load 3 (.tmp 88),3,"ref.go:282",#[⟨4,.data⟩],none⟩) (v:=.int .i64 i) (Or.inl ⟨by rfl,fun W hS=>by have k:=HCE.out W hS;go_simp⟩) hH ?_
    refine rD [6] ?_
    refine AllReadyH.cons rfl (fun K hK=>?_) AllReadyH.nil
    go_simp
    go_at_call 59
    refine (HOP.out _ hH).mono ?_
    rintro e WQ5 ⟨rfl,hb⟩
    have hH5:=hH.trans (hb.mono hH.size)
    clear hb
    go_wp2_with fail
    refine kK hK hH5 (fun hH=>?_)
    clear hK K
    refine tK (i:=7) (oi:=⟨some 91,.move (.tmp 90),4,"ref.go:282",#[⟨6,.data⟩,⟨6,.chain⟩],none⟩) (v:=.bool false) (Or.inl ⟨by rfl,fun W hS=>by go_simp⟩) hH ?_
    refine tK (i:=8) (oi:=⟨some 92,.load 31 (.tmp 3),31,"ref.go:282",#[⟨7,.guard⟩],some (7,false)⟩) (v:=.agg #[.string md.name,.slice va1 md.attrs.length vc1,.slice va2 md.events.length vc2,.slice va3 md.stages.length vc3,.slice va4 md.stones.length vc4,.slice va5 md.apart.length vc5]) (Or.inl ⟨by rfl,fun W hS=>by obtain ⟨y0,y1,y2,y3,y4,y5,x0,x1,x2,x3,x4,x5,p0,p1,p2⟩:=HKP.out W hS;go_simp⟩) hH ?_
    refine tK (i:=9) (oi:=⟨some 93,.load 33 (.tmp 5),33,"ref.go:282",#[⟨7,.guard⟩],some (7,false)⟩) (v:=.agg #[.int .i64 b0,.int .i64 b1,.int .i64 b2]) (Or.inl ⟨by rfl,fun W hS=>by obtain ⟨y0,y1,y2,y3,y4,y5,x0,x1,x2,x3,x4,x5,p0,p1,p2⟩:=HKP.out W hS;go_simp⟩) hH ?_
    refine tK (i:=10) (oi:=⟨some 94,.fieldAddr 69 (.tmp 4) 2,0,"ref.go:282",#[⟨7,.guard⟩],some (7,false)⟩) (v:=.pointer (some ⟨w.heap.size+1,4,none⟩)) (Or.inl ⟨by rfl,fun W hS=>by go_simp⟩) hH ?_
    refine tK (i:=11) (oi:=⟨some 95,.load 67 (.tmp 94),67,"ref.go:282",#[⟨10,.data⟩,⟨7,.guard⟩],some (7,false)⟩) (v:=.slice (some ⟨sb,so,none⟩) n6 c6) (Or.inl ⟨by rfl,fun W hS=>by obtain ⟨y0,y1,y2,y3,y4,y5,x0,x1,x2,x3,x4,x5,p0,p1,p2⟩:=HKP.out W hS;go_simp⟩) hH ?_
    refine tK (i:=12) (oi:=⟨some 96,.move (.tmp 7),3,"ref.go:282",#[⟨7,.guard⟩],some (7,false)⟩) (v:=.int .i64 (m:Int)) (Or.inl ⟨by rfl,fun W hS=>by go_simp⟩) hH ?_
    refine tK (i:=13) (oi:=⟨some 97,.indexAddr 67 (.tmp 95) (.tmp 96),0,"ref.go:282",#[⟨11,.data⟩,⟨12,.data⟩,⟨7,.guard⟩],some (7,false)⟩) (v:=.pointer (some ⟨sb,so+m,none⟩)) (Or.inl ⟨by rfl,fun W hS=>by go_simp⟩) hH ?_
    refine tK (i:=14) (oi:=⟨some 98,.load 3 (.tmp 97),3,"ref.go:282",#[⟨13,.data⟩,⟨7,.guard⟩],some (7,false)⟩) (v:=.int .i64 i) (Or.inl ⟨by rfl,fun W hS=>by have k:=HCE.out W hS;go_simp⟩) hH ?_
    refine rD [15] ?_
    refine AllReadyH.cons rfl (fun K hK=>?_) AllReadyH.nil
    go_simp
    go_at_call 61
    refine (HCL.out _ hH).mono ?_
    rintro e WQ6 ⟨rfl,hb⟩
    have hH6:=hH.trans (hb.mono hH.size)
    clear hb
    go_wp2_with fail
    refine kK hK hH6 (fun hH=>?_)
    clear hK K
    refine tK (i:=16) (oi:=⟨some 100,.pick (.tmp 91) (.const (.bool true)) (.tmp 99),4,"ref.go:282",#[⟨7,.data⟩,⟨15,.data⟩],none⟩) (v:=.bool qc) (Or.inl ⟨by rfl,fun W hS=>by go_simp⟩) hH ?_
    refine wpAnyH_done (by kernel_rfl) ?_ _
    cases qc with
    | true =>
     go_wp2_with fail
     go_ret
     exact ⟨ret_bool (by first | exact HQT.out rfl | exact HQT.out trivial | exact HQT.out),(HB3.out.trans (hH.mono HB3.out.size))⟩
    | false =>
     go_wp2_with fail
     have HH:=hid hH
     go_roundw
     case rel=>exact ⟨m+1,by have:=HML.out;omega,by go_num,HH.out,by first | exact HSN.out rfl | exact HSN.out trivial | exact HSN.out⟩
     case measure=>simp only [intOf];have:=HML.out;omega
  obtain rfl:m=n6:=by omega
  have i1:¬(m:Int)<(m:Int):=by omega
  have hqs:qs=false:=by rw [<-HQS.out];exact any_no fun j hj=>HS.out j (by rw [HF6.out.1];exact hj) hj
  subst hqs
  clear HS
  go_wp2_with fail
  clear y0 y1 y2 y3 y4 y5 x0 x1 x2 x3 x4 x5 p0 p1 p2
  go_loopw [8] (fun t wr=>∃m:Nat,m<=n7/\t=.int .i64 (m:Int)/\Hid (Below w3.heap.size w3 wr)/\Hid (∀j (_:j<m) (h:j<sn.length),(decide (3<=b0)&&decide (b1=sn[j]'h))=false)) (fun t _=>n7-(intOf t).toNat)
  case atStart=>exact ⟨0,Nat.zero_le _,rfl,HBW.out,fun j hj=>absurd hj (Nat.not_lt_zero _)⟩
  clear HBW
  obtain ⟨m,hml,rfl,HBW,HS⟩:=hrel
  obtain ⟨wo,rfl⟩:∃wo,wo=wr:=⟨_,rfl⟩
  obtain ⟨y0,y1,y2,y3,y4,y5,x0,x1,x2,x3,x4,x5,p0,p1,p2⟩:=HKP.out wo HBW.out
  by_cases hlt:m<n7
  ·have i1:(m:Int)<(n7:Int):=by omega
   have i2:(0:Int)<=(m:Int):=by omega
   have HML:=hid hlt
   have hmx:m<sn.length:=by rw [<-HF7.out.1];exact hlt
   obtain ⟨sb,so,rfl,hce⟩:=HF7.out.2 m hmx
   obtain ⟨i,hix⟩:∃i,sn[m]'hmx=i:=⟨_,rfl⟩
   rw [hix] at hce
   have HCE:=hid hce
   have HIX:=hid hix
   have k3:IntKind.i64.wrap ((m:Int)+1)=(m:Int)+1:=wrap_i64 (by omega) (by omega)
   have HHIT:Hid ((decide (3<=b0)&&decide (b1=i))=true->true=q):=fun h=>by
    have hs:qt=true:=by rw [<-HQN.out];exact any_yes hmx (by rw [HIX.out];exact h)
    rw [<-HQ.out,hs];rfl
   have HSN0:Hid ((decide (3<=b0)&&decide (b1=i))=false->∀j (_:j<m+1) (h:j<sn.length),(decide (3<=b0)&&decide (b1=sn[j]'h))=false):=fun hf j hj h=>by
    by_cases he:j=m
    ·subst he;rw [HIX.out];exact hf
    exact HS.out j (by omega) h
   clear hce hix hmx HS HIX
   go_upto_region 24 with fail
   clear y0 y1 y2 y3 y4 y5 x0 x1 x2 x3 x4 x5 p0 p1 p2
   by_cases h3:3<=b0
   ·have e3:b0 ≥ 3:=h3
    obtain ⟨qc,hqc⟩:∃qc,(b1==i)=qc:=⟨_,rfl⟩
    have hqd:decide (b1=i)=qc:=by rw [<-hqc];rfl
    have HQT:Hid (qc=true->true=q):=fun h=>HHIT.out (by rw [hqd,decide_eq_true h3,h];rfl)
    have HSN:Hid (qc=false->_):=fun h=>HSN0.out (by rw [hqd,h,Bool.and_false])
    clear hqd HHIT HSN0
    refine wp_region_held_drew (S:=(fun W'=>Below w3.heap.size w3 W')) (by kernel_rfl) (HBW.out.drew) (fun hH=>?_)
    generalize wo.drew=wz at hH ⊢
    refine tK (i:=0) (oi:=⟨some 108,.indexAddr 33 (.tmp 5) (.const (.int .i64 0)),0,"ref.go:287",#[],none⟩) (v:=.pointer (some ⟨w.heap.size+1+1,0,none⟩)) (Or.inl ⟨by rfl,fun W hS=>by go_simp⟩) hH ?_
    refine tK (i:=1) (oi:=⟨some 109,.load 3 (.tmp 108),3,"ref.go:287",#[⟨0,.data⟩],none⟩) (v:=.int .i64 b0) (Or.inl ⟨by rfl,fun W hS=>by obtain ⟨y0,y1,y2,y3,y4,y5,x0,x1,x2,x3,x4,x5,p0,p1,p2⟩:=HKP.out W hS;go_simp⟩) hH ?_
    refine tK (i:=2) (oi:=⟨some 110,.binOp .geq 3 (.tmp 109) (.const (.int .i64 3)) 3,4,"ref.go:287",#[⟨1,.data⟩],none⟩) (v:=.bool true) (Or.inl ⟨by rfl,fun W hS=>by go_simp⟩) hH ?_
    refine tK (i:=3) (oi:=⟨some 111,.move (.tmp 110),4,"ref.go:287",#[⟨2,.data⟩],none⟩) (v:=.bool true) (Or.inl ⟨by rfl,fun W hS=>by go_simp⟩) hH ?_
    refine tK (i:=4) (oi:=⟨some 112,.indexAddr 33 (.tmp 5) (.const (.int .i64 1)),0,"ref.go:287",#[⟨3,.guard⟩],some (3,true)⟩) (v:=.pointer (some ⟨w.heap.size+1+1,1,none⟩)) (Or.inl ⟨by rfl,fun W hS=>by go_simp⟩) hH ?_
    refine tK (i:=5) (oi:=⟨some 113,.load 3 (.tmp 112),3,"ref.go:287",#[⟨4,.data⟩,⟨3,.guard⟩],some (3,true)⟩) (v:=.int .i64 b1) (Or.inl ⟨by rfl,fun W hS=>by obtain ⟨y0,y1,y2,y3,y4,y5,x0,x1,x2,x3,x4,x5,p0,p1,p2⟩:=HKP.out W hS;go_simp⟩) hH ?_
    refine tK (i:=6) (oi:=⟨some 114,.fieldAddr 69 (.tmp 4) 3,0,"ref.go:287",#[⟨3,.guard⟩],some (3,true)⟩) (v:=.pointer (some ⟨w.heap.size+1,5,none⟩)) (Or.inl ⟨by rfl,fun W hS=>by go_simp⟩) hH ?_
    refine tK (i:=7) (oi:=⟨some 115,.load 67 (.tmp 114),67,"ref.go:287",#[⟨6,.data⟩,⟨3,.guard⟩],some (3,true)⟩) (v:=.slice (some ⟨sb,so,none⟩) n7 c7) (Or.inl ⟨by rfl,fun W hS=>by obtain ⟨y0,y1,y2,y3,y4,y5,x0,x1,x2,x3,x4,x5,p0,p1,p2⟩:=HKP.out W hS;go_simp⟩) hH ?_
    refine tK (i:=8) (oi:=⟨some 116,.move (.tmp 8),3,"ref.go:287",#[⟨3,.guard⟩],some (3,true)⟩) (v:=.int .i64 (m:Int)) (Or.inl ⟨by rfl,fun W hS=>by go_simp⟩) hH ?_
    refine tK (i:=9) (oi:=⟨some 117,.indexAddr 67 (.tmp 115) (.tmp 116),0,"ref.go:287",#[⟨7,.data⟩,⟨8,.data⟩,⟨3,.guard⟩],some (3,true)⟩) (v:=.pointer (some ⟨sb,so+m,none⟩)) (Or.inl ⟨by rfl,fun W hS=>by go_simp⟩) hH ?_
    refine tK (i:=10) (oi:=⟨some 118,.load 3 (.tmp 117),3,"ref.go:287",#[⟨9,.data⟩,⟨3,.guard⟩],some (3,true)⟩) (v:=.int .i64 i) (Or.inl ⟨by rfl,fun W hS=>by have k:=HCE.out W hS;go_simp⟩) hH ?_
    refine tK (i:=11) (oi:=⟨some 119,.binOp .eql 3 (.tmp 113) (.tmp 118) 3,4,"ref.go:287",#[⟨5,.data⟩,⟨10,.data⟩,⟨3,.guard⟩],some (3,true)⟩) (v:=.bool qc) (Or.inl ⟨by rfl,fun W hS=>by go_simp⟩) hH ?_
    refine tK (i:=12) (oi:=⟨some 120,.pick (.tmp 111) (.tmp 119) (.const (.bool false)),4,"ref.go:287",#[⟨3,.data⟩,⟨11,.data⟩],none⟩) (v:=.bool qc) (Or.inl ⟨by rfl,fun W hS=>by cases qc<;>go_simp⟩) hH ?_
    refine wpAnyH_done (by kernel_rfl) ?_ _
    cases qc with
    | true =>
     go_wp2_with fail
     go_ret
     exact ⟨ret_bool (by first | exact HQT.out rfl | exact HQT.out trivial | exact HQT.out),(HB3.out.trans (hH.mono HB3.out.size))⟩
    | false =>
     go_wp2_with fail
     have HH:=hid hH
     go_roundw
     case rel=>exact ⟨m+1,by have:=HML.out;omega,by go_num,HH.out,by first | exact HSN.out rfl | exact HSN.out trivial | exact HSN.out⟩
     case measure=>simp only [intOf];have:=HML.out;omega
   have HSN:Hid _:=HSN0.out (by rw [decide_eq_false h3,Bool.false_and])
   clear HHIT HSN0
   refine wp_region_held_drew (S:=(fun W'=>Below w3.heap.size w3 W')) (by kernel_rfl) (HBW.out.drew) (fun hH=>?_)
   generalize wo.drew=wz at hH ⊢
   refine tK (i:=0) (oi:=⟨some 108,.indexAddr 33 (.tmp 5) (.const (.int .i64 0)),0,"ref.go:287",#[],none⟩) (v:=.pointer (some ⟨w.heap.size+1+1,0,none⟩)) (Or.inl ⟨by rfl,fun W hS=>by go_simp⟩) hH ?_
   refine tK (i:=1) (oi:=⟨some 109,.load 3 (.tmp 108),3,"ref.go:287",#[⟨0,.data⟩],none⟩) (v:=.int .i64 b0) (Or.inl ⟨by rfl,fun W hS=>by obtain ⟨y0,y1,y2,y3,y4,y5,x0,x1,x2,x3,x4,x5,p0,p1,p2⟩:=HKP.out W hS;go_simp⟩) hH ?_
   refine tK (i:=2) (oi:=⟨some 110,.binOp .geq 3 (.tmp 109) (.const (.int .i64 3)) 3,4,"ref.go:287",#[⟨1,.data⟩],none⟩) (v:=.bool false) (Or.inl ⟨by rfl,fun W hS=>by go_simp⟩) hH ?_
   refine tK (i:=3) (oi:=⟨some 111,.move (.tmp 110),4,"ref.go:287",#[⟨2,.data⟩],none⟩) (v:=.bool false) (Or.inl ⟨by rfl,fun W hS=>by go_simp⟩) hH ?_
   refine tK (i:=4) (oi:=⟨some 112,.indexAddr 33 (.tmp 5) (.const (.int .i64 1)),0,"ref.go:287",#[⟨3,.guard⟩],some (3,true)⟩) (v:=undef) (Or.inr ⟨by rfl,rfl⟩) hH ?_
   refine tK (i:=5) (oi:=⟨some 113,.load 3 (.tmp 112),3,"ref.go:287",#[⟨4,.data⟩,⟨3,.guard⟩],some (3,true)⟩) (v:=undef) (Or.inr ⟨by rfl,rfl⟩) hH ?_
   refine tK (i:=6) (oi:=⟨some 114,.fieldAddr 69 (.tmp 4) 3,0,"ref.go:287",#[⟨3,.guard⟩],some (3,true)⟩) (v:=undef) (Or.inr ⟨by rfl,rfl⟩) hH ?_
   refine tK (i:=7) (oi:=⟨some 115,.load 67 (.tmp 114),67,"ref.go:287",#[⟨6,.data⟩,⟨3,.guard⟩],some (3,true)⟩) (v:=undef) (Or.inr ⟨by rfl,rfl⟩) hH ?_
   refine tK (i:=8) (oi:=⟨some 116,.move (.tmp 8),3,"ref.go:287",#[⟨3,.guard⟩],some (3,true)⟩) (v:=undef) (Or.inr ⟨by rfl,rfl⟩) hH ?_
   refine tK (i:=9) (oi:=⟨some 117,.indexAddr 67 (.tmp 115) (.tmp 116),0,"ref.go:287",#[⟨7,.data⟩,⟨8,.data⟩,⟨3,.guard⟩],some (3,true)⟩) (v:=undef) (Or.inr ⟨by rfl,rfl⟩) hH ?_
   refine tK (i:=10) (oi:=⟨some 118,.load 3 (.tmp 117),3,"ref.go:287",#[⟨9,.data⟩,⟨3,.guard⟩],some (3,true)⟩) (v:=undef) (Or.inr ⟨by rfl,rfl⟩) hH ?_
   refine tK (i:=11) (oi:=⟨some 119,.binOp .eql 3 (.tmp 113) (.tmp 118) 3,4,"ref.go:287",#[⟨5,.data⟩,⟨10,.data⟩,⟨3,.guard⟩],some (3,true)⟩) (v:=undef) (Or.inr ⟨by rfl,rfl⟩) hH ?_
   refine tK (i:=12) (oi:=⟨some 120,.pick (.tmp 111) (.tmp 119) (.const (.bool false)),4,"ref.go:287",#[⟨3,.data⟩,⟨11,.data⟩],none⟩) (v:=.bool false) (Or.inl ⟨by rfl,fun W hS=>by go_simp⟩) hH ?_
   refine wpAnyH_done (by kernel_rfl) ?_ _
   go_wp2_with fail
   have HH:=hid hH
   go_roundw
   case rel=>exact ⟨m+1,by have:=HML.out;omega,by go_num,HH.out,HSN.out⟩
   case measure=>simp only [intOf];have:=HML.out;omega
  obtain rfl:m=n7:=by omega
  have i1:¬(m:Int)<(m:Int):=by omega
  have hqt:qt=false:=by rw [<-HQN.out];exact any_no fun j hj=>HS.out j (by rw [HF7.out.1];exact hj) hj
  have HQT:Hid (false=q):=by show _=_;rw [<-HQ.out,hqt];rfl
  clear HS hqt
  go_wp2_with fail
  go_ret
  exact ⟨ret_bool HQT.out,(HB3.out.trans (HBW.out.mono HB3.out.size))⟩
structure LM (w:World) (base:Nat) (E:TypeId) (k:Nat) (va:Option Addr) (vc:Nat) (es:List (List D)) (vs:List (List Value)):Prop where
 own:Own w base E k va vc es.length vs.flatten
 len:vs.length=es.length
 wid:∀v∈vs,v.length=k
 widE:∀e∈es,e.length=k
 row:∀j (h1:j<es.length) (h2:j<vs.length),MemL false (fun b=>some b≠blockOf va) w es[j] vs[j]
theorem LM.nil (w:World) (base:Nat) (E:TypeId) (k:Nat):LM w base E k none 0 [] [] :=
 ⟨Own.nil w base E k,rfl,fun v h=>absurd h (by simp),fun v h=>absurd h (by simp),fun j h=>absurd h (by simp)⟩
theorem LM.below {w w':World} {base:Nat} {E:TypeId} {k vc:Nat} {va:Option Addr} {es:List (List D)} {vs:List (List Value)} (h:LM w base E k va vc es vs) (hb:Below w.heap.size w w'):LM w' base E k va vc es vs :=
 ⟨h.own.below hb (Nat.le_refl _),h.len,h.wid,h.widE,fun j h1 h2=>(h.row j h1 h2).grow hb⟩
theorem LM.app {Pr:Program} {T E:TypeId} {k bytes:Nat} {w:World} {base vc:Nat} {va:Option Addr} {es:List (List D)} {vs:List (List Value)} (hE:Elem Pr T E k bytes) (ty:TypeId) (h:LM w base E k va vc es vs) (hbase:base<=w.heap.size)
  (b off c:Nat) (ws:List Value) (e:List D) (hl:ws.length=k) (he:e.length=k) (hws:∀j u,ws[j]? = some u->w.cell? ⟨b,off+j,none⟩=some u) (h1:∀u∈ws,u.oneCell'=true)
  (hm:MemL false (fun b=>some b≠blockOf va) w e ws) (h63:es.length+1<=maxLen) (hbytes:(es.length+1)*bytes<=140737488355328) :
  ∃va' vc' w',(Builtin.append_ #[T,T] ty #[.slice va es.length vc,.slice (some ⟨b,off,none⟩) 1 c]).run Pr w=.ok (.slice va' (es++[e]).length vc') w'/\LM w' base E k va' vc' (es++[e]) (vs++[ws])/\w.grownBy w' (blockOf va):=by
 obtain ⟨g',vc',w',hrun,hO,hg,hat⟩:=own_appAt hE ty h.own hbase b off c ws hl hws h1 h63 hbytes
 have hlen:(es++[e]).length=es.length+1:=by simp
 have keep:∀ {d:List D} {us:List Value},MemL false (fun b=>some b≠blockOf va) w d us->MemL false (fun b=>some b≠blockOf (some ⟨g',0,none⟩)) w' d us:=by
  intro d us hd
  have hk1:MemL false (fun b=>some b≠blockOf (some ⟨g',0,none⟩)) w d us:=by
   rcases hat with rfl | h2
   ·exact hd
   refine hd.weak fun b hb hlt e=>?_
   have e':b=g':=Option.some.inj e
   omega
  refine ⟨hd.1,fun i d' u h3 h4=>?_⟩
  have h5:=hd.2 i d' u h3 h4
  have h6:Mem false (fun b=>some b≠blockOf va) w' d' u:=h5.kept (fun q hq hlt=>hg.block q hlt (by simpa using hq)) hg.size
  rcases hat with rfl | h2
  ·exact h6
  have h7:=hk1.2 i d' u h3 h4
  exact (show Mem false (fun b=>some b≠blockOf va/\some b≠blockOf (some ⟨g',0,none⟩)) w' d' u from by
   have h8:Mem false (fun b=>some b≠blockOf va/\some b≠blockOf (some ⟨g',0,none⟩)) w d' u:=h5.weak fun b hb hlt=>⟨hb,fun e=>by have e':b=g':=Option.some.inj e;omega⟩
   exact h8.kept (fun q hq hlt=>hg.block q hlt (by simpa using hq.1)) hg.size).weak fun b hb _=>hb.2
 refine ⟨some ⟨g',0,none⟩,vc',w',by rw [hlen];exact hrun,⟨?_,by simp [h.len],fun v hv=>?_,fun v hv=>?_,fun j h2 h3=>?_⟩,hg⟩
 ·rw [hlen,List.flatten_append]
  simpa using hO
 ·rcases List.mem_append.1 hv with hv | hv
  ·exact h.wid v hv
  rw [List.mem_singleton.1 hv];exact hl
 ·rcases List.mem_append.1 hv with hv | hv
  ·exact h.widE v hv
  rw [List.mem_singleton.1 hv];exact he
 have hvl:=h.len
 rcases Nat.lt_or_ge j es.length with h4 | h4
 ·rw [List.getElem_append_left h4,List.getElem_append_left (by omega)]
  exact keep (h.row j h4 (by omega))
 have h5:j=es.length:=by simp at h2;omega
 subst h5
 rw [List.getElem_append_right (Nat.le_refl _),List.getElem_append_right (by omega)]
 simp only [Nat.sub_self,hvl,gE0]
 exact keep hm
theorem LM.cells {w:World} {base:Nat} {E:TypeId} {k vc:Nat} {va:Option Addr} {es:List (List D)} {vs:List (List Value)} (h:LM w base E k va vc es vs) {j:Nat} (hj:j<es.length) :
  ∃g,va=some ⟨g,0,none⟩/\base<=g/\g<w.heap.size/\∃us,us.length=k/\(∀i u,us[i]? = some u->w.cell? ⟨g,j*k+i,none⟩=some u)/\MemL false (From 0) w es[j] us:=by
 have hvj:j<vs.length:=by rw [h.len];exact hj
 have hw:=h.wid _ (List.getElem_mem hvj)
 have hr:=(h.row j hj hvj).read
 rcases Nat.eq_zero_or_pos k with h0 | h0
 ·subst h0
  rcases h.own.block with ⟨_,hn,_⟩ | ⟨g,rfl,h1,h2,_⟩
  ·omega
  exact ⟨g,rfl,h1,h2,vs[j],hw,fun i u hi=>by have:=lt_of_some hi;omega,hr⟩
 obtain ⟨g,rfl,h1,h2,h3,-⟩:=h.own.cell (Nat.mul_pos (by omega) h0)
 refine ⟨g,rfl,h1,h2,vs[j],hw,fun i u hi=>h3 _ _ ?_,hr⟩
 have:=lt_of_some hi
 rw [flat_at vs h.wid j i hvj (by omega)]
 exact hi
end Go.Proofs.YtfbbkmdhnkmonaaGreatDoor
