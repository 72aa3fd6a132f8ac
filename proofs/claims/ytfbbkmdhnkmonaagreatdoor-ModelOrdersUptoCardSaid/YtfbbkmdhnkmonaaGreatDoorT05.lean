/- Proved, each under the conditions that it names: package guard: the grammar's functions all together; deep; package guard: Read, with what it defers; Guards of any shape, as data in memory; docketref17: Deep; guard.deep, at any guard. -/
import Derived.Test.YtfbbkmdhnkmonaaGreatDoorT04
import Derived.Defers
import Derived.Recover
set_option maxRecDepth 100000
set_option maxHeartbeats 32000000
namespace Go.Proofs.YtfbbkmdhnkmonaaGreatDoor
open Go.RowKit
theorem all_sub {R:Nat} {s:ByteArray} (hs:s.size<=17000):∀N,SubC R s N 80 .guard/\SubC R s N 145 .part:=by
 intro N
 induction N using Nat.strongRecOn with
 | ind N ih =>
  have hpart:=part_sub hs (sum_sub hs (product_sub hs (atom_sub hs fun N' h=>(ih N' h).1))) (fun N' h=>(ih N' h).2)
  exact ⟨guard_sub hs (side_sub hs hpart),hpart⟩
theorem deep_pos:∀t:GT,1<=t.deep
 | .leaf ..=>Nat.le_refl _
 | .one _ a=>by simp [GT.deep]
 | .two _ a b=>by simp [GT.deep]
def DP (s:ByteArray) (p:GSt->PR):Prop:=∀st g st1,GS s st->p st=some (.ok (g,st1))->GS s st1/\g.deep+st.pos<=st1.pos+1
theorem thenS_ok {r:Except Nat GSt} {k:GSt->PR} {x:GT×GSt} (h:thenS r k=some (.ok x)):∃st1,r=.ok st1/\k st1=some (.ok x):=by
 cases r with
 | error a=>simp [thenS] at h
 | ok st1=>exact ⟨st1,rfl,h⟩
theorem thenP_ok {r:PR} {k:GT->GSt->PR} {x:GT×GSt} (h:thenP r k=some (.ok x)):∃g st1,r=some (.ok (g,st1))/\k g st1=some (.ok x):=by
 rcases thenP_some h with ⟨a,_,h2⟩ | ⟨g,st,h1,h2⟩
 ·cases h2
 exact ⟨g,st,h1,h2⟩
theorem adv_pos {s:ByteArray} {st st1:GSt} (hg:GS s st) (hne:st.now.size≠0) (h:stepB s st.i=.ok st1):GS s st1/\st.pos<st1.pos:=by
 obtain ⟨h1,h2⟩:=step_gs hg.le h
 refine ⟨h1,?_⟩
 rcases hg.adv with h3 | h3
 ·exact absurd h3 hne
 omega
theorem rowL_deep {s:ByteArray} {p:GSt->PR} {kinds:ByteArray->Option Nat} (hp:DP s p) (hne:∀x k,kinds x=some k->x.size≠0):∀(f:Nat) (g:GT) (st:GSt) (q:Nat) (g1:GT) (st1:GSt),GS s st->g.deep+q<=st.pos+1->rowL s p kinds f g st=some (.ok (g1,st1))->GS s st1/\g1.deep+q<=st1.pos+1
 | 0,_,_,_,_,_,_,_,h=>by cases h
 | f+1,g,st,q,g1,st1,hg,hd,h=>by
  rw [rowL] at h
  cases hk:kinds st.now with
  | none =>
   rw [hk] at h
   injection h with h;injection h with h;injection h with h1 h2
   subst h1;subst h2
   exact ⟨hg,hd⟩
  | some k =>
   rw [hk] at h
   simp only at h
   cases hs:stepB s st.i with
   | error a=>rw [hs] at h;simp at h
   | ok st2 =>
    rw [hs] at h
    simp only at h
    obtain ⟨hg2,hlt⟩:=adv_pos hg (hne _ _ hk) hs
    cases ho:p st2 with
    | none=>rw [ho] at h;cases h
    | some y =>
     rw [ho] at h
     cases y with
     | error a=>simp at h
     | ok z =>
      obtain ⟨g3,st3⟩:=z
      simp only at h
      obtain ⟨hg3,hd3⟩:=hp _ _ _ hg2 ho
      refine rowL_deep hp hne f _ _ q _ _ hg3 ?_ h
      have h1:=deep_pos g
      have h2:=deep_pos g3
      simp only [GT.deep]
      omega
theorem kinds_ne {x:ByteArray} {k:Nat} (h:kOr x=some k\/kAnd x=some k\/kSum x=some k\/kMul x=some k\/kRel x=some k):x.size≠0:=by
 unfold kOr kAnd kSum kMul kRel at h
 rcases h with h | h | h | h | h
 all_goals
  split at h
  ·rename_i hx;subst hx;decide
  first
  | cases h;done
  | (
    split at h
    ·rename_i hx;subst hx;decide
    cases h)
theorem row_deep {s:ByteArray} {p:GSt->PR} {kinds:ByteArray->Option Nat} (hp:DP s p) (hne:∀x k,kinds x=some k->x.size≠0) (f:Nat):DP s fun st=>thenP (p st) fun g st1=>rowL s p kinds f g st1:=by
 intro st g st1 hg h
 obtain ⟨g2,st2,h1,h2⟩:=thenP_ok h
 obtain ⟨hg2,hd2⟩:=hp _ _ _ hg h1
 exact rowL_deep hp hne f _ _ _ _ _ hg2 hd2 h2
theorem pars_deep (s:ByteArray):∀(f:Nat) (nt:NT),DP s (pars s f nt)
 | 0,_=>fun _ _ _ _ h=>by cases h
 | f+1,.guard=>fun st g st1 hg h=>by
  rw [pars] at h
  exact row_deep (pars_deep s f .side) (fun x k h=>kinds_ne (.inl h)) f st g st1 hg h
 | f+1,.side=>fun st g st1 hg h=>by
  rw [pars] at h
  exact row_deep (pars_deep s f .part) (fun x k h=>kinds_ne (.inr (.inl h))) f st g st1 hg h
 | f+1,.part=>fun st g st1 hg h=>by
  rw [pars] at h
  split at h
  ·rename_i hn
   obtain ⟨st2,h1,h2⟩:=thenS_ok h
   obtain ⟨g3,st3,h3,h4⟩:=thenP_ok h2
   injection h4 with h4;injection h4 with h4;injection h4 with h5 h6
   subst h5;subst h6
   obtain ⟨hg2,hlt⟩:=adv_pos hg (by rw [hn];decide) h1
   obtain ⟨hg3,hd3⟩:=pars_deep s f .part _ _ _ hg2 h3
   exact ⟨hg3,by simp only [GT.deep];omega⟩
  obtain ⟨g2,st2,h1,h2⟩:=thenP_ok h
  obtain ⟨hg2,hd2⟩:=pars_deep s f .sum _ _ _ hg h1
  cases hk:kRel st2.now with
  | none =>
   rw [hk] at h2
   injection h2 with h2;injection h2 with h2;injection h2 with h3 h4
   subst h3;subst h4
   exact ⟨hg2,hd2⟩
  | some k =>
   rw [hk] at h2
   obtain ⟨st3,h3,h4⟩:=thenS_ok h2
   obtain ⟨g4,st4,h5,h6⟩:=thenP_ok h4
   injection h6 with h6;injection h6 with h6;injection h6 with h7 h8
   subst h7;subst h8
   obtain ⟨hg3,hlt⟩:=adv_pos hg2 (kinds_ne (.inr (.inr (.inr (.inr hk))))) h3
   obtain ⟨hg4,hd4⟩:=pars_deep s f .sum _ _ _ hg3 h5
   exact ⟨hg4,by have:=deep_pos g2;have:=deep_pos g4;simp only [GT.deep];omega⟩
 | f+1,.sum=>fun st g st1 hg h=>by
  rw [pars] at h
  exact row_deep (pars_deep s f .product) (fun x k h=>kinds_ne (.inr (.inr (.inl h)))) f st g st1 hg h
 | f+1,.product=>fun st g st1 hg h=>by
  rw [pars] at h
  exact row_deep (pars_deep s f .atom) (fun x k h=>kinds_ne (.inr (.inr (.inr (.inl h))))) f st g st1 hg h
 | f+1,.atom=>fun st g st1 hg h=>by
  have one:∀ {t:GT} {st2:GSt},t.deep=1->GS s st2->st.i<=st2.pos->GS s st2/\t.deep+st.pos<=st2.pos+1:=fun h1 h2 h3=>⟨h2,by have:=hg.pos;omega⟩
  have st1s:∀ {k:Nat} {n:Int} {x:ByteArray},thenS (stepB s st.i) (fun st1=>some (.ok (.leaf k n x,st1)))=some (.ok (g,st1))->GS s st1/\g.deep+st.pos<=st1.pos+1:=fun {k n x} h=>by
   obtain ⟨st2,h1,h2⟩:=thenS_ok h
   injection h2 with h2;injection h2 with h2;injection h2 with h3 h4
   subst h3;subst h4
   obtain ⟨hg2,hp2⟩:=step_gs hg.le h1
   exact one rfl hg2 hp2
  have hnm:∀ {k:Nat} {n:Int} {x:ByteArray},thenS (if namedG st.now=true then stepB s st.i else .error st.pos) (fun st1=>some (.ok (.leaf k n x,st1)))=some (.ok (g,st1))->GS s st1/\g.deep+st.pos<=st1.pos+1:=fun {k n x} h=>by
   obtain ⟨st2,h1,h2⟩:=thenS_ok h
   injection h2 with h2;injection h2 with h2;injection h2 with h3 h4
   subst h3;subst h4
   obtain ⟨hg2,hp2⟩:=name_gs hg.le h1
   exact one rfl hg2 hp2
  by_cases h1:st.now=trueS
  ·rw [at1 h1] at h;exact st1s h
  by_cases h2:st.now=falseS
  ·rw [at2 h1 h2] at h;exact st1s h
  by_cases h3:st.now=openS\/st.now=doneS
  ·rw [at3 h1 h2 h3] at h
   obtain ⟨sa,ha,h⟩:=thenS_ok h
   obtain ⟨sb,hb,h⟩:=thenS_ok h
   obtain ⟨sc,hc,h⟩:=thenS_ok h
   obtain ⟨sd,hd,h⟩:=thenS_ok h
   injection h with h;injection h with h;injection h with h4 h5
   subst h4;subst h5
   obtain ⟨ga,pa⟩:=step_gs hg.le ha
   obtain ⟨gb,pb⟩:=need_gs ga.le hb
   obtain ⟨gc,pc⟩:=name_gs gb.le hc
   obtain ⟨gd,pd⟩:=need_gs gc.le hd
   refine one rfl gd ?_
   have:=ga.pos;have:=gb.pos;have:=gc.pos
   omega
  by_cases h4:st.now=lparS
  ·rw [at4 h1 h2 h3 h4] at h
   obtain ⟨sa,ha,h⟩:=thenS_ok h
   obtain ⟨g2,sb,hb,h⟩:=thenP_ok h
   obtain ⟨sc,hc,h⟩:=thenS_ok h
   injection h with h;injection h with h;injection h with h5 h6
   subst h5;subst h6
   obtain ⟨ga,pa⟩:=step_gs hg.le ha
   obtain ⟨gb,db⟩:=pars_deep s f .guard _ _ _ ga hb
   obtain ⟨gc,pc⟩:=need_gs gb.le hc
   refine ⟨gc,?_⟩
   have:=hg.pos;have:=gb.pos
   omega
  by_cases h5:0<st.now.size/\digitB (st.now.data.toList.headD 0)=true
  ·rw [at5 h1 h2 h3 h4 h5] at h;exact st1s h
  by_cases h6:0<st.now.size/\st.now.data.toList.headD 0=39
  ·rw [at6 h1 h2 h3 h4 h5 h6] at h;exact st1s h
  rw [at7 h1 h2 h3 h4 h5 h6] at h
  exact hnm h
def GT.kids:GT->List GT
 | .leaf ..=>[]
 | .one _ a=>[a]
 | .two _ a b=>[a,b]
theorem deep_kids:∀t:GT,t.deep=(t.kids.map GT.deep).foldl max 0+1
 | .leaf ..=>rfl
 | .one _ a=>by simp [GT.deep,GT.kids]
 | .two _ a b=>by simp [GT.deep,GT.kids]
theorem GIs.kid {X:Nat->Prop} {w:World}:∀ {t:GT} {cs:List Value},GIs X w t cs->∃(k:Nat) (n:Int) (s:ByteArray) (a:Option Addr) (b:Nat),cs=[.int .u8 k,.int .i64 n,.string s,.slice a t.kids.length t.kids.length]/\(0<t.kids.length->a=some ⟨b,0,none⟩/\b<w.heap.size) /\
  ∀m (h:m<t.kids.length),∃c0 c1 c2 c3,w.cell? ⟨b,m*4,none⟩=some c0/\w.cell? ⟨b,m*4+1,none⟩=some c1/\w.cell? ⟨b,m*4+2,none⟩=some c2/\w.cell? ⟨b,m*4+3,none⟩=some c3/\GIs X w t.kids[m] [c0,c1,c2,c3]
 | .leaf k n s,_,h=>⟨k,n,s,none,0,h,fun h=>absurd h (Nat.not_lt_zero _),fun m h=>absurd h (by simp [GT.kids])⟩
 | .one k a,_,⟨b,da,h1,_,h3,h4⟩=>by
  refine ⟨k,0,⟨#[]⟩,_,b,h1,fun _=>⟨rfl,h3.lt⟩,fun m h=>?_⟩
  obtain rfl:m=0:=by simp [GT.kids] at h;exact h
  obtain ⟨k2,n2,s2,a2,l2,c2,rfl⟩:=h4.four
  exact ⟨_,_,_,_,h3.cell (j:=0) (by simp),h3.cell (j:=1) (by simp),h3.cell (j:=2) (by simp),h3.cell (j:=3) (by simp),h4⟩
 | .two k a a2,_,⟨b,da,db,h1,_,h3,h4,h5⟩=>by
  refine ⟨k,0,⟨#[]⟩,_,b,h1,fun _=>⟨rfl,h3.lt⟩,fun m h=>?_⟩
  obtain ⟨k2,n2,s2,a2,l2,c2,rfl⟩:=h4.four
  obtain ⟨k3,n3,s3,a3,l3,c3,rfl⟩:=h5.four
  have h:m<2:=h
  match m,h with
  | 0,_=>exact ⟨_,_,_,_,h3.cell (j:=0) (by simp),h3.cell (j:=1) (by simp),h3.cell (j:=2) (by simp),h3.cell (j:=3) (by simp),h4⟩
  | 1,_=>exact ⟨_,_,_,_,h3.cell (j:=4) (by simp),h3.cell (j:=5) (by simp),h3.cell (j:=6) (by simp),h3.cell (j:=7) (by simp),h5⟩
theorem kid_deep {t:GT} {m:Nat} (h:m<t.kids.length):t.kids[m].deep<t.deep:=by
 match t,m,h with
 | .one _ a,0,_=>simp [GT.kids,GT.deep]
 | .two _ a b,0,_=>simp only [GT.kids,GT.deep,gE0];omega
 | .two _ a b,1,_=>simp only [GT.kids,GT.deep,gE1,gE0];omega
def maxD (t:GT) (m:Nat):Nat:=((t.kids.take m).map GT.deep).foldl max 0
theorem maxD_succ {t:GT} {m:Nat} (h:m<t.kids.length):maxD t (m+1)=max (maxD t m) t.kids[m].deep:=by
 rw [maxD,List.take_succ_eq_append_getElem h,List.map_append,List.foldl_append];rfl
theorem maxD_all (t:GT) {m:Nat} (h:t.kids.length<=m):maxD t m+1=t.deep:=by
 rw [maxD,List.take_of_length_le h,deep_kids]
theorem maxD_lt {t:GT}:∀ {m:Nat},m<=t.kids.length->maxD t m<t.deep
 | 0,_=>by rw [deep_kids];exact Nat.succ_pos _
 | m+1,h=>by
  rw [maxD_succ (by omega)]
  have h1:=maxD_lt (t:=t) (m:=m) (by omega)
  have h2:=kid_deep (t:=t) (m:=m) (by omega)
  omega
theorem deep_walk {X:Nat->Prop}:∀(d:Nat) (t:GT) (cs:List Value) (w:World),t.deep<=d->d<=1000000->GIs X w t cs ->
  Calls Tryz.prog 81 #[.agg cs.toArray] w fun e w'=>e=.returned (.int .i64 (t.deep:Int))/\Below w.heap.size w w'
 | 0,t,_,_,h,_,_=>by rw [deep_kids] at h;omega
 | d+1,t,cs,w,hd,hmax,h=>by
  have HIH:=hid (fun (t:GT) (cs:List Value) (w:World) (h1:t.deep<=d) (h2:GIs X w t cs)=>deep_walk d t cs w h1 (by omega) h2)
  obtain ⟨k,n,sx,a,b,rfl,hb,hk⟩:=h.kid
  have HK:=hid hk
  obtain ⟨l,hl⟩:∃l,t.kids.length=l:=⟨_,rfl⟩
  have hl2:l<=2:=by rw [<-hl];cases t<;>simp [GT.kids]
  have HALL:=hid (fun m (h:l<=m)=>maxD_all t (m:=m) (by omega))
  have HSUC:=hid (fun m (h:m<t.kids.length)=>maxD_succ (t:=t) h)
  have HLT:=hid (fun m (h:m<=t.kids.length)=>maxD_lt (t:=t) h)
  have HKD:=hid (fun m (h:m<t.kids.length)=>kid_deep (t:=t) h)
  have h00:maxD t 0=0:=rfl
  rw [hl] at hb ⊢
  have HL:=hid hl
  clear hk hl h
  go_enter Tryz.func81,Tryz.ntmps81
  go_wp2_with fail
  go_loopw [3,9] (fun n i wr=>∃m:Nat,m<=l/\n=.int .i64 (maxD t m:Int)/\i=.int .i64 (m:Int)/\Hid (Below w.heap.size w wr)) (fun _ i _=>l-(intOf i).toNat)
  case atStart=>exact ⟨0,Nat.zero_le _,by rw [h00];rfl,rfl,(Below.refl _ _).alloc (Nat.le_refl _) _⟩
  obtain ⟨m,hm,rfl,rfl,HB⟩:=hrel
  by_cases hml:m<l
  ·obtain ⟨rfl,hbl⟩:=hb (by omega)
   have i1:(m:Int)<(l:Int):=by omega
   have i2:(0:Int)<=(m:Int):=by omega
   have hmk:m<t.kids.length:=by rw [HL.out];exact hml
   obtain ⟨c0,c1,c2,c3,y0,y1,y2,y3,hgi⟩:=HK.out m hmk
   replace y0:=(HB.out.cell (p:=⟨b,m*4,none⟩) hbl).trans y0
   replace y1:=(HB.out.cell (p:=⟨b,m*4+1,none⟩) hbl).trans y1
   replace y2:=(HB.out.cell (p:=⟨b,m*4+2,none⟩) hbl).trans y2
   replace y3:=(HB.out.cell (p:=⟨b,m*4+3,none⟩) hbl).trans y3
   obtain ⟨k2,n2,s2,a2,l2,cc2,he⟩:=hgi.four
   simp only [List.cons.injEq,and_true] at he
   obtain ⟨rfl,rfl,rfl,rfl⟩:=he
   have hkd:=HKD.out m hmk
   have hIH:=HIH.out t.kids[m] _ (wr.alloc (.cells #[.int .u8 k2,.int .i64 n2,.string s2,.slice a2 l2 cc2] 80)) (by omega) (hgi.below (HB.out.alloc HB.out.size _))
   have hsu:=HSUC.out m hmk
   obtain ⟨q,hq⟩:∃q,t.kids[m].deep=q:=⟨_,rfl⟩
   rw [hq] at hIH hsu hkd
   have HIH2:=hid hIH
   have HSU:=hid hsu
   have hlt1:=HLT.out m (by omega)
   have wr1:IntKind.i64.wrap ((m:Int)+1)=(m:Int)+1:=wrap_i64 (by omega) (by omega)
   clear hIH hsu hgi
   go_wp2_with fail
   refine HIH2.out.mono ?_
   rintro e w2 ⟨rfl,hb2⟩
   have HB2:=hid hb2
   clear hb2 HIH2
   go_wp2_with fail
   refine ⟨⟨m+1,by omega,?_,rfl,?_⟩,by simp only [intOf];omega⟩
   ·rw [HSU.out]
    simp only [Value.int.injEq,true_and]
    omega
   exact (HB.out.alloc HB.out.size _).trans (HB2.out.mono (by rw [size_alloc];have:=HB.out.size;omega))
  have hme:l<=m:=by omega
  have hfin:=HALL.out m hme
  have i1:¬(m:Int)<(l:Int):=by omega
  have wr1:IntKind.i64.wrap ((maxD t m:Int)+1)=(t.deep:Int):=by rw [wrap_i64 (by omega) (by omega),<-hfin];rfl
  clear hb hfin
  go_wp2_with fail
  go_ret
  exact ⟨rfl,HB.out⟩
theorem assert_fault (W:World) (v:Value):(Instr.typeAssert (.iface 124 v) 20 124 true).run Tryz.prog W=.ok (.tuple #[v,.bool true]) W:=by kernel_rfl
def caught (gb ab eb:Nat) (a:Int) (w:World):World:=(((((w.setCell ⟨gb,0,none⟩ (.int .u8 0)).setCell ⟨gb,1,none⟩ (.int .i64 0)).setCell ⟨gb,2,none⟩ (.string ⟨#[]⟩)).setCell ⟨gb,3,none⟩ (.slice none 0 0)).setCell ⟨ab,0,none⟩ (.int .i64 a)).setCell ⟨eb,0,none⟩ (.int .i64 170)
theorem catch_fault (gb ab eb:Nat) (a:Int) (d0 d1 d2 d3:Value) (older:List PanicEntry) (w:World) (hg:Arr w gb 80 [d0,d1,d2,d3]) (ha:Arr w ab 3 [.int .i64 0]) (he:Arr w eb 22 [.int .i64 0]) (h1:gb≠ab) (h2:gb≠eb) (h3:ab≠eb) :
  CallsD Tryz.prog 78 #[.pointer (some ⟨gb,0,none⟩),.pointer (some ⟨ab,0,none⟩),.pointer (some ⟨eb,0,none⟩)] (.panicking ({ v:=.iface 124 (.int .i64 a),recovered:=false } :: older)) w fun e u' w' =>
   e=.returned (.tuple #[])/\u'=.panicking ({ v:=.iface 124 (.int .i64 a),recovered:=true } :: older)/\w'=caught gb ab eb a w:=by
 refine callsD_of_wpS Tryz.func78 rfl fun c₀ cs hu=>?_
 apply wpS_seq
 apply wpS_region
 simp [wpOpsS,go_sem,recoverD,hu,Tryz.ntmps78,Exit.thenS]
 refine wpS_of_wp ?_
 rw [show (#[Value.pointer (some ⟨gb,0,none⟩),Value.pointer (some ⟨ab,0,none⟩),Value.pointer (some ⟨eb,0,none⟩)]++(Array.replicate 11 undef).setIfInBounds 3 (Value.iface 124 (.int .i64 a)))=#[Value.pointer (some ⟨gb,0,none⟩),Value.pointer (some ⟨ab,0,none⟩),Value.pointer (some ⟨eb,0,none⟩),undef,undef,undef,Value.iface 124 (.int .i64 a),undef,undef,undef,undef,undef,undef,undef] from rfl]
 have hta:=assert_fault
 have x0:=hg.cell (j:=0) (by simp)
 have x1:=hg.cell (j:=1) (by simp)
 have x2:=hg.cell (j:=2) (by simp)
 have x3:=hg.cell (j:=3) (by simp)
 have y0:=ha.cell (j:=0) (by simp)
 have z0:=he.cell (j:=0) (by simp)
 have f0:=hg.frozen 0
 have f1:=hg.frozen 1
 have f2:=hg.frozen 2
 have f3:=hg.frozen 3
 have g0:=ha.frozen 0
 have e0:=he.frozen 0
 simp only [gE0,gE1] at x0 x1 x2 x3 y0 z0
 clear hg ha he
 go_wp2
 exact ⟨rfl,_,rfl,.tuple #[],by simp [results,Tryz.results78],rfl,rfl,rfl⟩
theorem catch_idle (va vb vc:Value) (w:World) :
  CallsD Tryz.prog 78 #[va,vb,vc] .returning w fun e u' w'=>e=.returned (.tuple #[])/\u'=.returning/\w'=w:=by
 refine callsD_of_wpS Tryz.func78 rfl fun c₀ cs hu=>?_
 apply wpS_seq
 apply wpS_region
 simp [wpOpsS,go_sem,recoverD,hu,Tryz.ntmps78,Exit.thenS]
 refine wpS_of_wp ?_
 rw [show (#[va,vb,vc]++(Array.replicate 11 undef).setIfInBounds 3 Value.nilIface)=#[va,vb,vc,undef,undef,undef,Value.nilIface,undef,undef,undef,undef,undef,undef,undef] from rfl]
 go_wp2
 refine ⟨rfl,.returning,?_,.tuple #[],by simp [results,Tryz.results78],rfl,rfl,rfl⟩
 rw [<-hu]
abbrev errT:Nat:=3
def ReadEnd (s:ByteArray) (w:World) (e:Ending) (w':World):Prop :=
 Below w.heap.size w w' /\
  if 16384<s.size then e=.returned (.tuple #[.agg zeroG.toArray,.int .i64 0,.int .i64 3])
  else ∃fu r,readG s fu=some r/\match r with
   | .ok g=>∃cs:List Value,e=.returned (.tuple #[.agg cs.toArray,.int .i64 0,.int .i64 0])/\GIs (fun k=>k<w.heap.size) w' g cs
   | .error (a,c)=>e=.returned (.tuple #[.agg zeroG.toArray,.int .i64 (a:Int),.int .i64 c])
theorem read_results {W:World} {tmps:Array Value} {gb ab eb:Nat} {d0 d1 d2 d3:Value} {n c:Int} (h2:tmps.getD 2 undef=.pointer (some ⟨gb,0,none⟩)) (h3:tmps.getD 3 undef=.pointer (some ⟨ab,0,none⟩)) (h4:tmps.getD 4 undef=.pointer (some ⟨eb,0,none⟩))
  (hg:Arr W gb 80 [d0,d1,d2,d3]) (ha:Arr W ab 3 [.int .i64 n]) (he:Arr W eb 22 [.int .i64 c]) :
  (results Tryz.f37 tmps).run Tryz.prog W=.ok (.tuple #[.agg #[d0,d1,d2,d3],.int .i64 n,.int .i64 c]) W:=by
 have h2':tmps[2]?.getD undef=.pointer (some ⟨gb,0,none⟩):=by simpa using h2
 have h3':tmps[3]?.getD undef=.pointer (some ⟨ab,0,none⟩):=by simpa using h3
 have h4':tmps[4]?.getD undef=.pointer (some ⟨eb,0,none⟩):=by simpa using h4
 have x0:=hg.cell (j:=0) (by simp)
 have x1:=hg.cell (j:=1) (by simp)
 have x2:=hg.cell (j:=2) (by simp)
 have x3:=hg.cell (j:=3) (by simp)
 have y0:=ha.cell (j:=0) (by simp)
 have z0:=he.cell (j:=0) (by simp)
 simp only [gE0,gE1] at x0 x1 x2 x3 y0 z0
 simp [results,Tryz.results37,h2',h3',h4',go_sem,x0,x1,x2,x3,y0,z0]
theorem leave_ok {tmps:Array Value} {v:Value} {W:World} {R:Ending->World->Prop} {c0 c1 c2:Value} (hres:(results Tryz.f37 tmps).run Tryz.prog W=.ok v W) (hR:R (.returned v) W) :
  Leaves Tryz.prog Tryz.f37 tmps R [{ target:=.fn (.func 78) #[c0,c1,c2],args:=#[] }] .returning W:=by
 refine leaves_cons (f:=78) (args:=#[c0,c1,c2]) (by simp) (by simp [go_sem]) ?_
 refine (catch_idle _ _ _ _).mono ?_
 rintro e u' w'' ⟨rfl,rfl,rfl⟩
 exact ⟨v,hres,hR⟩
theorem caught_arr {gb ab eb:Nat} {a:Int} {d0 d1 d2 d3:Value} {W:World} (hg:Arr W gb 80 [d0,d1,d2,d3]) (ha:Arr W ab 3 [.int .i64 0]) (he:Arr W eb 22 [.int .i64 0]) (h1:gb≠ab) (h2:gb≠eb) (h3:ab≠eb) :
  Arr (caught gb ab eb a W) gb 80 zeroG/\Arr (caught gb ab eb a W) ab 3 [.int .i64 a]/\Arr (caught gb ab eb a W) eb 22 [.int .i64 170]:=by
 have fa:∀ {w:World} {g:Nat} {t:TypeId} {vs:List Value} (j:Nat) (v:Value),g≠gb->Arr w g t vs->Arr (w.setCell ⟨gb,j,none⟩ v) g t vs:=fun {w g t vs} j v hne h=>h.far (a:=⟨gb,j,none⟩) hne v
 refine ⟨?_,?_,?_⟩
 ·exact Arr.far (a:=⟨eb,0,none⟩) (Arr.far (a:=⟨ab,0,none⟩) ((((hg.set 0 _).set 1 _).set 2 _).set 3 _) h1 _) h2 _
 ·exact Arr.far (a:=⟨eb,0,none⟩) ((fa 3 _ (Ne.symm h1) (fa 2 _ (Ne.symm h1) (fa 1 _ (Ne.symm h1) (fa 0 _ (Ne.symm h1) ha)))).set 0 _) h3 _
 exact (Arr.far (a:=⟨ab,0,none⟩) (fa 3 _ (Ne.symm h2) (fa 2 _ (Ne.symm h2) (fa 1 _ (Ne.symm h2) (fa 0 _ (Ne.symm h2) he)))) (Ne.symm h3) _).set 0 _
def laid6 (gb ab eb:Nat) (d0 d1 d2 d3:Value) (u v:Int) (w:World):World:=(((((w.setCell ⟨gb,0,none⟩ d0).setCell ⟨gb,1,none⟩ d1).setCell ⟨gb,2,none⟩ d2).setCell ⟨gb,3,none⟩ d3).setCell ⟨ab,0,none⟩ (.int .i64 u)).setCell ⟨eb,0,none⟩ (.int .i64 v)
theorem laid6_arr {gb ab eb:Nat} {u v p q:Int} {c0 c1 c2 c3 d0 d1 d2 d3:Value} {W:World} (hg:Arr W gb 80 [c0,c1,c2,c3]) (ha:Arr W ab 3 [.int .i64 p]) (he:Arr W eb 22 [.int .i64 q]) (h1:gb≠ab) (h2:gb≠eb) (h3:ab≠eb) :
  Arr (laid6 gb ab eb d0 d1 d2 d3 u v W) gb 80 [d0,d1,d2,d3]/\Arr (laid6 gb ab eb d0 d1 d2 d3 u v W) ab 3 [.int .i64 u]/\Arr (laid6 gb ab eb d0 d1 d2 d3 u v W) eb 22 [.int .i64 v]:=by
 have fa:∀ {w:World} {g:Nat} {t:TypeId} {vs:List Value} (j:Nat) (v:Value),g≠gb->Arr w g t vs->Arr (w.setCell ⟨gb,j,none⟩ v) g t vs:=fun {w g t vs} j v hne h=>h.far (a:=⟨gb,j,none⟩) hne v
 refine ⟨?_,?_,?_⟩
 ·exact Arr.far (a:=⟨eb,0,none⟩) (Arr.far (a:=⟨ab,0,none⟩) ((((hg.set 0 _).set 1 _).set 2 _).set 3 _) h1 _) h2 _
 ·exact Arr.far (a:=⟨eb,0,none⟩) ((fa 3 _ (Ne.symm h1) (fa 2 _ (Ne.symm h1) (fa 1 _ (Ne.symm h1) (fa 0 _ (Ne.symm h1) ha)))).set 0 _) h3 _
 exact (Arr.far (a:=⟨ab,0,none⟩) (fa 3 _ (Ne.symm h2) (fa 2 _ (Ne.symm h2) (fa 1 _ (Ne.symm h2) (fa 0 _ (Ne.symm h2) he)))) (Ne.symm h3) _).set 0 _
theorem laid6_below {w W:World} {gb ab eb:Nat} {u v:Int} {d0 d1 d2 d3:Value} (h:Below w.heap.size w W) (h1:w.heap.size<=gb) (h2:w.heap.size<=ab) (h3:w.heap.size<=eb):Below w.heap.size w (laid6 gb ab eb d0 d1 d2 d3 u v W) :=
 (((((h.setCell (p:=⟨gb,0,none⟩) h1 _).setCell (p:=⟨gb,1,none⟩) h1 _).setCell (p:=⟨gb,2,none⟩) h1 _).setCell (p:=⟨gb,3,none⟩) h1 _).setCell (p:=⟨ab,0,none⟩) h2 _).setCell (p:=⟨eb,0,none⟩) h3 _
theorem laid6_gis {X:Nat->Prop} {W:World} {gb ab eb:Nat} {u v:Int} {d0 d1 d2 d3:Value} {t:GT} {cs:List Value} (h:GIs X W t cs) (h1:X gb) (h2:X ab) (h3:X eb):GIs X (laid6 gb ab eb d0 d1 d2 d3 u v W) t cs :=
 GIs.setCell (p:=⟨eb,0,none⟩) h3 _ (GIs.setCell (p:=⟨ab,0,none⟩) h2 _ (GIs.setCell (p:=⟨gb,3,none⟩) h1 _ (GIs.setCell (p:=⟨gb,2,none⟩) h1 _ (GIs.setCell (p:=⟨gb,1,none⟩) h1 _ (GIs.setCell (p:=⟨gb,0,none⟩) h1 _ h)))))
theorem caught_below {w W:World} {gb ab eb:Nat} (a:Int) (h:Below w.heap.size w W) (h1:w.heap.size<=gb) (h2:w.heap.size<=ab) (h3:w.heap.size<=eb):Below w.heap.size w (caught gb ab eb a W) :=
 (((((h.setCell (p:=⟨gb,0,none⟩) h1 _).setCell (p:=⟨gb,1,none⟩) h1 _).setCell (p:=⟨gb,2,none⟩) h1 _).setCell (p:=⟨gb,3,none⟩) h1 _).setCell (p:=⟨ab,0,none⟩) h2 _).setCell (p:=⟨eb,0,none⟩) h3 _
theorem leave_fault {tmps:Array Value} {W:World} {R:Ending->World->Prop} {gb ab eb:Nat} {a:Nat} {d0 d1 d2 d3:Value} (ht2:tmps.getD 2 undef=.pointer (some ⟨gb,0,none⟩)) (ht3:tmps.getD 3 undef=.pointer (some ⟨ab,0,none⟩)) (ht4:tmps.getD 4 undef=.pointer (some ⟨eb,0,none⟩))
  (hg:Arr W gb 80 [d0,d1,d2,d3]) (ha:Arr W ab 3 [.int .i64 0]) (he:Arr W eb 22 [.int .i64 0]) (h1:gb≠ab) (h2:gb≠eb) (h3:ab≠eb)
  (hR:R (.returned (.tuple #[.agg zeroG.toArray,.int .i64 (a:Int),.int .i64 170])) (caught gb ab eb a W)) :
  Leaves Tryz.prog Tryz.f37 tmps R [{ target:=.fn (.func 78) #[.pointer (some ⟨gb,0,none⟩),.pointer (some ⟨ab,0,none⟩),.pointer (some ⟨eb,0,none⟩)],args:=#[] }] (.panicking [{ v:=.iface 124 (.int .i64 (a:Int)),recovered:=false }]) W:=by
 refine leaves_cons (f:=78) (args:=#[.pointer (some ⟨gb,0,none⟩),.pointer (some ⟨ab,0,none⟩),.pointer (some ⟨eb,0,none⟩)]) (by simp) (by simp [go_sem]) ?_
 refine (catch_fault gb ab eb a d0 d1 d2 d3 [] W hg ha he h1 h2 h3).mono ?_
 rintro e u' w'' ⟨rfl,rfl,rfl⟩
 obtain ⟨k1,k2,k3⟩:=caught_arr (a:=a) hg ha he h1 h2 h3
 exact ⟨_,read_results ht2 ht3 ht4 k1 k2 k3,hR⟩
theorem Read_walkA (s:ByteArray) (w:World) (hv:∃t p,w.cell? ⟨2,0,none⟩=some (.iface t p)) :
  Calls Tryz.prog 37 #[.string s] w (ReadEnd s w):=by
 have hmf:∀(fn:Fn) (first cap:Array Value) (w:World),(Instr.makeFunc fn first cap).run Tryz.prog w=.ok (.func fn first cap) w:=fun _ _ _ _=>rfl
 by_cases hbig:16384<s.size
 ·have i1:(16384:Int)<(s.size:Int):=by omega
  have HE:=hid hbig
  clear hbig
  go_enter_defers Tryz.func37,Tryz.ntmps37
  go_wp2
  have hA2:Arr (((w.alloc (.cells #[.int .u8 0,.int .i64 0,.string ⟨#[]⟩,.slice none 0 0] 80)).alloc (.cells #[.int .i64 0] 3)).alloc (.cells #[.int .i64 3] 22)) w.heap.size 80 zeroG:=((Arr.new w zeroG 80).alloc _).alloc _
  have hA3:Arr (((w.alloc (.cells #[.int .u8 0,.int .i64 0,.string ⟨#[]⟩,.slice none 0 0] 80)).alloc (.cells #[.int .i64 0] 3)).alloc (.cells #[.int .i64 3] 22)) (w.heap.size+1) 3 [.int .i64 0]:=Arr.alloc ⟨alloc_at (by rw [size_alloc])⟩ _
  have hA4:Arr (((w.alloc (.cells #[.int .u8 0,.int .i64 0,.string ⟨#[]⟩,.slice none 0 0] 80)).alloc (.cells #[.int .i64 0] 3)).alloc (.cells #[.int .i64 3] 22)) (w.heap.size+1+1) 22 [.int .i64 3]:=⟨alloc_at (by rw [size_alloc,size_alloc])⟩
  refine ⟨_,read_results (gb:=w.heap.size) (ab:=w.heap.size+1) (eb:=w.heap.size+1+1) rfl rfl rfl hA2 hA3 hA4,?_,?_⟩
  ·exact (((Below.refl w.heap.size w).alloc (Nat.le_refl _) _).alloc (by rw [size_alloc];omega) _).alloc (by rw [size_alloc,size_alloc];omega) _
  rw [if_pos HE.out]
 have i1:¬(16384:Int)<(s.size:Int):=by omega
 have hs:s.size<=17000:=by omega
 obtain ⟨w1,hw1⟩:∃w1,((w.alloc (.cells #[.int .u8 0,.int .i64 0,.string ⟨#[]⟩,.slice none 0 0] 80)).alloc (.cells #[.int .i64 0] 3)).alloc (.cells #[.int .i64 0] 22)=w1:=⟨_,rfl⟩
 obtain ⟨w2,hw2⟩:∃w2,w1.alloc (.cells #[.string s,.int .i64 0,.int .i64 0,.string ⟨#[]⟩] 129)=w2:=⟨_,rfl⟩
 have hz1:w1.heap.size=w.heap.size+1+1+1:=by rw [<-hw1,size_alloc,size_alloc,size_alloc]
 have hg1:Arr w1 w.heap.size 80 zeroG:=hw1▸((Arr.new w zeroG 80).alloc _).alloc _
 have ha1:Arr w1 (w.heap.size+1) 3 [.int .i64 0]:=hw1▸Arr.alloc ⟨alloc_at (by rw [size_alloc])⟩ _
 have he1:Arr w1 (w.heap.size+1+1) 22 [.int .i64 0]:=hw1▸⟨alloc_at (by rw [size_alloc,size_alloc])⟩
 have hb1:Below w.heap.size w w1:=hw1▸(((Below.refl w.heap.size w).alloc (Nat.le_refl _) _).alloc (by rw [size_alloc];omega) _).alloc (by rw [size_alloc,size_alloc];omega) _
 have hb2:Below w.heap.size w w2:=hw2▸hb1.alloc hb1.size _
 have HGB:=hid (show Arr w2 w.heap.size 80 zeroG from hw2▸hg1.alloc _)
 have HAB:=hid (show Arr w2 (w.heap.size+1) 3 [.int .i64 0] from hw2▸ha1.alloc _)
 have HEB:=hid (show Arr w2 (w.heap.size+1+1) 22 [.int .i64 0] from hw2▸he1.alloc _)
 have hR2:RdIs (w.heap.size+1+1+1) w2 s ⟨0,0,⟨#[]⟩⟩:=hw2▸⟨alloc_at hz1.symm⟩
 have hv2:GW (w.heap.size+1+1+1) w2:=by
  obtain ⟨t,p,hc⟩:=hv
  have hl:=World.block_lt_of_cell? w _ hc
  exact ⟨⟨t,p,(World.cell?_of_block (hb2.block _ hl)).trans hc⟩,by simp only at hl;omega⟩
 have HB2:=hid hb2
 have HV2:=hid hv2
 have HBIG:=hid hbig
 obtain ⟨X,hX⟩:∃X,stepB s 0=X:=⟨_,rfl⟩
 have hST:=step_walk (w.heap.size+1+1+1) s ⟨0,0,⟨#[]⟩⟩ w2 hs (Nat.zero_le _) hR2 hv2
 rw [hX] at hST
 have HX:=hid hX
 have HST:=hid hST
 have HW1:=hid hw1
 have HW2:=hid hw2
 have HZ1:=hid hz1
 clear hg1 ha1 he1 hb1 hb2 hR2 hv2 hbig hX hST hv hw2 hz1
 go_enter_defers Tryz.func37,Tryz.ntmps37
 go_upto_region 5 with fail
 rw [HW2.out,HZ1.out]
 clear hw1
 go_wp2_with fail
 refine HST.out.mono ?_
 rintro e w3 ⟨hk3,h3⟩
 have hkb:∀(W:World),KeepR (w.heap.size+1+1+1) w2 W->Below w.heap.size w W:=fun W hk=>HB2.out.trans (hk.below (B:=w.heap.size) (by omega) HB2.out.size)
 have hkg:∀(W:World),KeepR (w.heap.size+1+1+1) w2 W->Arr W w.heap.size 80 zeroG/\Arr W (w.heap.size+1) 3 [.int .i64 0]/\Arr W (w.heap.size+1+1) 22 [.int .i64 0]:=fun W hk=>⟨HGB.out.keepR hk (by omega),HAB.out.keepR hk (by omega),HEB.out.keepR hk (by omega)⟩
 have HKB:=hid hkb
 have HKG:=hid hkg
 have HK3:=hid hk3
 clear HST hk3 hkb hkg
 cases X with
 | error a =>
  simp only at h3
  subst h3
  obtain ⟨q1,q2,q3⟩:=HKG.out _ HK3.out
  refine leave_fault (gb:=w.heap.size) (ab:=w.heap.size+1) (eb:=w.heap.size+1+1) rfl rfl rfl q1 q2 q3 (by omega) (by omega) (by omega) ⟨caught_below _ (HKB.out _ HK3.out) (Nat.le_refl _) (by omega) (by omega),?_⟩
  rw [if_neg HBIG.out]
  exact ⟨0,.error (a,170),by rw [readG,HX.out],rfl⟩
 | ok st3 =>
  obtain ⟨rfl,hr3⟩:=h3
  obtain ⟨hg3,-⟩:=step_gs (Nat.zero_le _) HX.out
  have hGD:=(all_sub (R:=w.heap.size+1+1+1) hs (s.size+1)).1 st3 w3 (by omega) hg3 hr3 (HV2.out.keep HK3.out)
  have HGD:=hid hGD
  have HG3:=hid hg3
  have HR3:=hid (Arr.lt hr3)
  clear hg3 hr3 hGD
  go_wp2_with fail
  refine HGD.out.mono ?_
  rintro e w4 ⟨hk4,fu,r4,hr4,h4⟩
  replace hr4:pars s fu .guard st3=some r4:=hr4
  have HK4:=hid (HK3.out.trans hk4)
  clear HGD
  rcases r4 with a | gs
  ·simp only at h4
   subst h4
   obtain ⟨q1,q2,q3⟩:=HKG.out _ HK4.out
   refine leave_fault (gb:=w.heap.size) (ab:=w.heap.size+1) (eb:=w.heap.size+1+1) rfl rfl rfl q1 q2 q3 (by omega) (by omega) (by omega) ⟨caught_below _ (HKB.out _ HK4.out) (Nat.le_refl _) (by omega) (by omega),?_⟩
   rw [if_neg HBIG.out]
   exact ⟨fu,.error (a,170),by rw [readG,HX.out];simp only;rw [hr4],rfl⟩
  obtain ⟨g4,st4⟩:=gs
  obtain ⟨⟨cs4,rfl,hgi4⟩,hr5,hg5,-⟩:=h4
  have hdp:=(pars_deep s fu .guard st3 g4 st4 HG3.out hr4).2
  have hz4:w.heap.size+1+1+1<w4.heap.size:=by have:=HR3.out;have:=hk4.size;omega
  obtain ⟨q1,q2,q3⟩:=HKG.out _ HK4.out
  have hX4:GIs (fun k=>k<w.heap.size+1+1+1) w4 g4 cs4:=hgi4.mono fun k hk (hy:k<w.heap.size+1+1+1)=>show k<w3.heap.size by have:=HR3.out;omega
  obtain ⟨k4,n4,s4,a4,l4,c4,rfl⟩:=hX4.four
  have x0:=q1.cell (j:=0) (by simp)
  have x1:=q1.cell (j:=1) (by simp)
  have x2:=q1.cell (j:=2) (by simp)
  have x3:=q1.cell (j:=3) (by simp)
  have f0:=q1.frozen 0
  have f1:=q1.frozen 1
  have f2:=q1.frozen 2
  have f3:=q1.frozen 3
  simp only [gE0,gE1] at x0 x1 x2 x3
  have fa:∀ {W:World} {g:Nat} {t:TypeId} {vs:List Value} (j:Nat) (v:Value),g≠w.heap.size->Arr W g t vs->Arr (W.setCell ⟨w.heap.size,j,none⟩ v) g t vs:=fun {W g t vs} j v hne h=>h.far (a:=⟨w.heap.size,j,none⟩) hne v
  obtain ⟨w5,hw5⟩:∃w5,(((w4.setCell ⟨w.heap.size,0,none⟩ (.int .u8 k4)).setCell ⟨w.heap.size,1,none⟩ (.int .i64 n4)).setCell ⟨w.heap.size,2,none⟩ (.string s4)).setCell ⟨w.heap.size,3,none⟩ (.slice a4 l4 c4)=w5:=⟨_,rfl⟩
  have HG5:Arr w5 w.heap.size 80 [.int .u8 k4,.int .i64 n4,.string s4,.slice a4 l4 c4]:=hw5▸(((q1.set 0 _).set 1 _).set 2 _).set 3 _
  have HA5:Arr w5 (w.heap.size+1) 3 [.int .i64 0]:=hw5▸fa 3 _ (by omega) (fa 2 _ (by omega) (fa 1 _ (by omega) (fa 0 _ (by omega) q2)))
  have HE5:Arr w5 (w.heap.size+1+1) 22 [.int .i64 0]:=hw5▸fa 3 _ (by omega) (fa 2 _ (by omega) (fa 1 _ (by omega) (fa 0 _ (by omega) q3)))
  have HR5:RdIs (w.heap.size+1+1+1) w5 s st4:=hw5▸fa 3 _ (by omega) (fa 2 _ (by omega) (fa 1 _ (by omega) (fa 0 _ (by omega) hr5)))
  have HB5:Below w.heap.size w w5:=hw5▸((((HKB.out _ HK4.out).setCell (p:=⟨w.heap.size,0,none⟩) (Nat.le_refl _) _).setCell (p:=⟨w.heap.size,1,none⟩) (Nat.le_refl _) _).setCell (p:=⟨w.heap.size,2,none⟩) (Nat.le_refl _) _).setCell (p:=⟨w.heap.size,3,none⟩) (Nat.le_refl _) _
  have HX5:GIs (fun k=>k<w.heap.size+1+1+1) w5 g4 [.int .u8 k4,.int .i64 n4,.string s4,.slice a4 l4 c4]:=hw5▸GIs.setCell (p:=⟨w.heap.size,3,none⟩) (show w.heap.size<w.heap.size+1+1+1 by omega) _ (GIs.setCell (p:=⟨w.heap.size,2,none⟩) (show w.heap.size<w.heap.size+1+1+1 by omega) _ (GIs.setCell (p:=⟨w.heap.size,1,none⟩) (show w.heap.size<w.heap.size+1+1+1 by omega) _ (GIs.setCell (p:=⟨w.heap.size,0,none⟩) (show w.heap.size<w.heap.size+1+1+1 by omega) _ hX4)))
  have hdle:g4.deep<=20000:=by have:=hg5.le;have:=hg5.pos;omega
  have HDP:=hid hdle
  have HP4:=hid hr4
  have HQ5:=hid HG5
  have HQA:=hid HA5
  have HQE:=hid HE5
  have HQR:=hid HR5
  have HQB:=hid HB5
  have HQX:=hid HX5
  have HW5:=hid hw5
  have HGS:=hid hg5
  clear hdle hr4 HG5 HA5 HE5 HR5 HB5 HX5 hw5 hgi4 hX4 hr5 hg5 hdp hk4 q1 q2 q3 fa
  go_upto_region 7 with fail
  rw [HW5.out]
  clear x0 x1 x2 x3 f0 f1 f2 f3
  obtain ⟨y0,y1,y2,y3⟩:=rd_cells HQR.out
  have z0:=HQ5.out.cell (j:=0) (by simp)
  have z1:=HQ5.out.cell (j:=1) (by simp)
  have z2:=HQ5.out.cell (j:=2) (by simp)
  have z3:=HQ5.out.cell (j:=3) (by simp)
  simp only [gE0,gE1] at z0 z1 z2 z3
  by_cases hn0:st4.now.size=0
  ·have e0':st4.now.toList=[]:=by rw [Go.ByteArray.toList_eq];exact List.eq_nil_of_length_eq_zero hn0
   have e0:(st4.now.toList==[])=true:=by rw [e0'];rfl
   have HN0:=hid hn0
   have HDW:=hid (deep_walk 20000 g4 _ w5 HDP.out (by omega) HQX.out)
   clear hn0
   go_wp2_with fail
   refine HDW.out.mono ?_
   rintro e w6 ⟨rfl,hb6⟩
   have HB6:=hid hb6
   have HG6:=hid (HQ5.out.below hb6 HQ5.out.lt)
   have HA6:=hid (HQA.out.below hb6 HQA.out.lt)
   have HE6:=hid (HQE.out.below hb6 HQE.out.lt)
   have HX6:=hid (HQX.out.below hb6)
   have HBW6:=hid (HQB.out.trans (hb6.mono HQB.out.size))
   clear hb6 HDW z0 z1 z2 z3 y0 y1 y2 y3
   have z0:=HG6.out.cell (j:=0) (by simp)
   have z1:=HG6.out.cell (j:=1) (by simp)
   have z2:=HG6.out.cell (j:=2) (by simp)
   have z3:=HG6.out.cell (j:=3) (by simp)
   have za:=HA6.out.cell (j:=0) (by simp)
   have ze:=HE6.out.cell (j:=0) (by simp)
   have f0:=HG6.out.frozen 0
   have f1:=HG6.out.frozen 1
   have f2:=HG6.out.frozen 2
   have f3:=HG6.out.frozen 3
   have fa:=HA6.out.frozen 0
   have fe:=HE6.out.frozen 0
   simp only [gE0,gE1] at z0 z1 z2 z3 za ze
   by_cases h32:32<g4.deep
   ·have i2:(32:Int)<(g4.deep:Int):=by omega
    have H32:=hid h32
    clear h32
    go_wp2_with fail
    obtain ⟨k1,k2,k3⟩:=laid6_arr (d0:=.int .u8 0) (d1:=.int .i64 0) (d2:=.string ⟨#[]⟩) (d3:=.slice none 0 0) (u:=0) (v:=161) HG6.out HA6.out HE6.out (by omega) (by omega) (by omega)
    refine leave_ok (read_results rfl rfl rfl k1 k2 k3) ⟨laid6_below HBW6.out (Nat.le_refl _) (by omega) (by omega),?_⟩
    rw [if_neg HBIG.out]
    exact ⟨fu,.error (0,161),by rw [readG,HX.out];simp only;rw [HP4.out];simp only;rw [if_neg (by rw [HN0.out];decide),if_pos H32.out],rfl⟩
   have i2:¬(32:Int)<(g4.deep:Int):=by omega
   have H32:=hid h32
   clear h32
   go_wp2_with fail
   obtain ⟨k1,k2,k3⟩:=laid6_arr (d0:=.int .u8 k4) (d1:=.int .i64 n4) (d2:=.string s4) (d3:=.slice a4 l4 c4) (u:=0) (v:=0) HG6.out HA6.out HE6.out (by omega) (by omega) (by omega)
   refine leave_ok (read_results rfl rfl rfl k1 k2 k3) ⟨laid6_below HBW6.out (Nat.le_refl _) (by omega) (by omega),?_⟩
   rw [if_neg HBIG.out]
   exact ⟨fu,.ok g4,by rw [readG,HX.out];simp only;rw [HP4.out];simp only;rw [if_neg (by rw [HN0.out];decide),if_neg H32.out],_,rfl,(laid6_gis HX6.out (show w.heap.size<w.heap.size+1+1+1 by omega) (show w.heap.size+1<w.heap.size+1+1+1 by omega) (show w.heap.size+1+1<w.heap.size+1+1+1 by omega)).mono fun k hk (hy:k<w.heap.size)=>show k<w.heap.size+1+1+1 by omega⟩
  have e0':¬st4.now.toList=[]:=by rw [Go.ByteArray.toList_eq];intro h;exact hn0 (by rw [<-ba_len,h];rfl)
  have e0:(st4.now.toList==[])=false:=by simpa using e0'
  have HN0:=hid hn0
  clear hn0
  go_wp2_with fail
  refine leave_fault (gb:=w.heap.size) (ab:=w.heap.size+1) (eb:=w.heap.size+1+1) rfl rfl rfl HQ5.out HQA.out HQE.out (by omega) (by omega) (by omega) ⟨caught_below _ HQB.out (Nat.le_refl _) (by omega) (by omega),?_⟩
  rw [if_neg HBIG.out]
  exact ⟨fu,.error (st4.pos,170),by rw [readG,HX.out];simp only;rw [HP4.out];simp only;rw [if_pos HN0.out],rfl⟩
end Go.Proofs.YtfbbkmdhnkmonaaGreatDoor
namespace Go.Proofs.YtfbbkmdhnkmonaaGreatDoor
open Go.RowKit
theorem cellBelow2 {w w':World} (hb:Below w.heap.size w w') {a:Addr} {v:Value} (hc:w.cell? a=some v):w'.cell? a=some v:=(hb.cell (World.block_lt_of_cell? w a hc)).trans hc
inductive GD where
 | node (k:Nat) (n:Int) (s:ByteArray) (kids:List GD)
def GD.kids:GD->List GD | .node _ _ _ l=>l
mutual
def GD.deep:GD->Nat
 | .node _ _ _ l=>GD.deeps l+1
def GD.deeps:List GD->Nat
 | []=>0
 | x :: r=>max x.deep (GD.deeps r)
end
theorem deeps_snoc (x:GD):∀l:List GD,GD.deeps (l++[x])=max (GD.deeps l) x.deep
 | []=>by simp [GD.deeps]
 | y :: r=>by rw [List.cons_append,GD.deeps,GD.deeps,deeps_snoc x r];omega
theorem GD.deep_eq (g:GD):g.deep=GD.deeps g.kids+1:=by cases g;rfl
theorem deeps_mem {x:GD}:∀ {l:List GD},x∈l->x.deep<=GD.deeps l
 | y :: r,h=>by
  rw [GD.deeps]
  rcases List.mem_cons.1 h with rfl | h
  ·omega
  have:=deeps_mem h;omega
theorem deeps_take_succ {l:List GD} {m:Nat} (h:m<l.length):GD.deeps (l.take (m+1))=max (GD.deeps (l.take m)) l[m].deep:=by
 rw [List.take_succ_eq_append_getElem h,deeps_snoc]
theorem deeps_take_le (l:List GD) (m:Nat):GD.deeps (l.take m)<=GD.deeps l:=by
 induction l generalizing m with
 | nil=>simp
 | cons y r ih =>
  cases m with
  | zero=>simp [GD.deeps]
  | succ m=>rw [List.take_succ_cons,GD.deeps,GD.deeps];have:=ih m;omega
def GT.toGD:GT->GD
 | .leaf k n s=>.node k n s []
 | .one k a=>.node k 0 ⟨#[]⟩ [a.toGD]
 | .two k a b=>.node k 0 ⟨#[]⟩ [a.toGD,b.toGD]
theorem toGD_deep:∀t:GT,t.toGD.deep=t.deep
 | .leaf ..=>rfl
 | .one _ a=>by simp [GT.toGD,GD.deep,GD.deeps,GT.deep,toGD_deep a]
 | .two _ a b=>by simp [GT.toGD,GD.deep,GD.deeps,GT.deep,toGD_deep a,toGD_deep b]
theorem toGD_inj:∀ {t u:GT},t.toGD=u.toGD->t=u
 | .leaf ..,.leaf ..,h=>by simp only [GT.toGD,GD.node.injEq] at h;obtain ⟨rfl,rfl,rfl,-⟩:=h;rfl
 | .leaf ..,.one ..,h=>by simp [GT.toGD] at h
 | .leaf ..,.two ..,h=>by simp [GT.toGD] at h
 | .one ..,.leaf ..,h=>by simp [GT.toGD] at h
 | .one ..,.one ..,h=>by
  simp only [GT.toGD,GD.node.injEq,List.cons.injEq,and_true,true_and] at h
  obtain ⟨rfl,h⟩:=h
  rw [toGD_inj h]
 | .one ..,.two ..,h=>by simp [GT.toGD] at h
 | .two ..,.leaf ..,h=>by simp [GT.toGD] at h
 | .two ..,.one ..,h=>by simp [GT.toGD] at h
 | .two ..,.two ..,h=>by
  simp only [GT.toGD,GD.node.injEq,List.cons.injEq,and_true,true_and] at h
  obtain ⟨rfl,h1,h2⟩:=h
  rw [toGD_inj h1,toGD_inj h2]
mutual
def GD.size:GD->Nat
 | .node _ _ s l=>1+s.size+GD.sizes l
def GD.sizes:List GD->Nat
 | []=>0
 | x :: r=>x.size+GD.sizes r
end
mutual
def GD.inR:GD->Prop
 | .node _ n _ l=>(-9223372036854775808<=n/\n<=9223372036854775807)/\GD.inRs l
def GD.inRs:List GD->Prop
 | []=>True
 | x :: r=>x.inR/\GD.inRs r
end
theorem sizes_mem {x:GD}:∀ {l:List GD},x∈l->x.size<=GD.sizes l
 | y :: r,h=>by
  rw [GD.sizes]
  rcases List.mem_cons.1 h with rfl | h
  ·omega
  have:=sizes_mem h;omega
theorem inRs_mem {x:GD}:∀ {l:List GD},x∈l->GD.inRs l->x.inR
 | y :: r,h,hr=>by
  rw [GD.inRs] at hr
  rcases List.mem_cons.1 h with rfl | h
  ·exact hr.1
  exact inRs_mem h hr.2
theorem size_pos:∀x:GD,1<=x.size
 | .node _ _ s l=>by rw [GD.size];omega
theorem sizes_len:∀l:List GD,l.length<=GD.sizes l
 | []=>Nat.le_refl _
 | x :: r=>by rw [GD.sizes,List.length_cons];have:=sizes_len r;have:=size_pos x;omega
inductive GIn (w:World):GD->List Value->Prop
 | mk (k:Nat) (n:Int) (s:ByteArray) (kids:List GD) (a:Option Addr) (c b off:Nat) (f:Nat->List Value) (hl:kids.length<=maxLen) (hc:kids.length<=c) (ha:0<kids.length->a=some ⟨b,off,none⟩/\b<w.heap.size)
   (h4:∀m,m<kids.length->(f m).length=4/\∀i,i<4->w.cell? ⟨b,off+m*4+i,none⟩=(f m)[i]?) (hk:∀m (h:m<kids.length),GIn w kids[m] (f m)) :
   GIn w (.node k n s kids) [.int .u8 k,.int .i64 n,.string s,.slice a kids.length c]
theorem GIn.four {w:World} {g:GD} {cs:List Value} (h:GIn w g cs):∃(k:Nat) (n:Int) (s:ByteArray) (a:Option Addr) (l c:Nat),cs=[.int .u8 k,.int .i64 n,.string s,.slice a l c]:=by
 cases h;exact ⟨_,_,_,_,_,_,rfl⟩
theorem GIn.kid {w:World} {g:GD} {cs:List Value} (h:GIn w g cs):∃(k:Nat) (n:Int) (s:ByteArray) (a:Option Addr) (c b off:Nat),g=.node k n s g.kids/\cs=[.int .u8 k,.int .i64 n,.string s,.slice a g.kids.length c]/\g.kids.length<=maxLen/\g.kids.length<=c/\(0<g.kids.length->a=some ⟨b,off,none⟩/\b<w.heap.size) /\
  ∀m (h:m<g.kids.length),∃c0 c1 c2 c3,w.cell? ⟨b,off+m*4,none⟩=some c0/\w.cell? ⟨b,off+m*4+1,none⟩=some c1/\w.cell? ⟨b,off+m*4+2,none⟩=some c2/\w.cell? ⟨b,off+m*4+3,none⟩=some c3/\GIn w g.kids[m] [c0,c1,c2,c3]:=by
 cases h with
 | mk k n s kids a c b off f hl hc ha h4 hk =>
  refine ⟨k,n,s,a,c,b,off,rfl,rfl,hl,hc,ha,fun m h=>?_⟩
  have h:=(show m<kids.length from h)
  obtain ⟨h5,h6⟩:=h4 m h
  have hg:=hk m h
  match hf:f m,h5 with
  | [c0,c1,c2,c3],_ =>
   rw [hf] at h6 hg
   exact ⟨c0,c1,c2,c3,h6 0 (by omega),h6 1 (by omega),h6 2 (by omega),h6 3 (by omega),hg⟩
theorem GIn.keepB {w w':World} (hb:Below w.heap.size w w') {g:GD} {cs:List Value} (h:GIn w g cs):GIn w' g cs:=by
 induction h with
 | mk k n s kids a c b off f hl hc ha h4 hk ih =>
  refine .mk k n s kids a c b off f hl hc (fun h=>⟨(ha h).1,Nat.lt_of_lt_of_le (ha h).2 hb.size⟩) (fun m h=>⟨(h4 m h).1,fun i hi=>?_⟩) ih
  rw [hb.cell (p:=⟨b,off+m*4+i,none⟩) (ha (by omega)).2]
  exact (h4 m h).2 i hi
theorem GIs.gin {X:Nat->Prop} {w:World}:∀ {t:GT} {cs:List Value},GIs X w t cs->GIn w t.toGD cs
 | .leaf k n s,_,h=>by
  rw [show _=_ from h]
  exact .mk k n s [] none 0 0 0 (fun _=>[]) (by simp) (Nat.le_refl _) (fun h=>absurd h (by simp)) (fun m h=>absurd h (by simp)) (fun m h=>absurd h (by simp))
 | .one k a,_,⟨b,da,h1,h2,h3,h4⟩=>by
  obtain rfl:=h1
  have hg:=h4.gin
  obtain ⟨k2,n2,s2,a2,l2,c2,rfl⟩:=hg.four
  refine .mk k 0 ⟨#[]⟩ [a.toGD] _ 1 b 0 (fun _=>[.int .u8 k2,.int .i64 n2,.string s2,.slice a2 l2 c2]) (by unfold maxLen;simp) (Nat.le_refl _) (fun _=>⟨rfl,h3.lt⟩) (fun m h=>⟨rfl,fun i hi=>?_⟩) (fun m h=>?_)
  ·obtain rfl:m=0:=by simpa using h
   rw [Nat.zero_mul,Nat.zero_add,List.getElem?_eq_getElem (by simpa using hi)]
   exact h3.cell (j:=i) (by simpa using hi)
  obtain rfl:m=0:=by simpa using h
  exact hg
 | .two k a a2,_,⟨b,da,db,h1,h2,h3,h4,h5⟩=>by
  obtain rfl:=h1
  have hg:=h4.gin
  have hg2:=h5.gin
  obtain ⟨k2,n2,s2,p2,l2,c2,rfl⟩:=hg.four
  obtain ⟨k3,n3,s3,p3,l3,c3,rfl⟩:=hg2.four
  refine .mk k 0 ⟨#[]⟩ [a.toGD,a2.toGD] _ 2 b 0 (fun m=>if m=0 then [.int .u8 k2,.int .i64 n2,.string s2,.slice p2 l2 c2] else [.int .u8 k3,.int .i64 n3,.string s3,.slice p3 l3 c3]) (by unfold maxLen;simp) (Nat.le_refl _) (fun _=>⟨rfl,h3.lt⟩) (fun m h=>⟨by split<;>rfl,fun i hi=>?_⟩) (fun m h=>?_)
  ·have h:m<2:=by simpa using h
   match m,h with
   | 0,_ =>
    rw [if_pos rfl,Nat.zero_mul,Nat.zero_add,List.getElem?_eq_getElem (by simpa using hi)]
    have:=h3.cell (j:=i) (by simp;omega)
    rw [this,List.getElem_append_left (by simpa using hi)]
   | 1,_ =>
    rw [if_neg (by decide),Nat.one_mul,Nat.zero_add,List.getElem?_eq_getElem (by simpa using hi)]
    have:=h3.cell (j:=4+i) (by simp;omega)
    rw [this,List.getElem_append_right (by simp)]
    simp
  have h:m<2:=by simpa using h
  match m,h with
  | 0,_=>exact hg
  | 1,_=>exact hg2
end Go.Proofs.YtfbbkmdhnkmonaaGreatDoor
namespace Go.Proofs.YtfbbkmdhnkmonaaGreatDoor
open Go.RowKit
theorem rfDeep_walk:∀(d:Nat) (g:GD) (cs:List Value) (w:World),g.deep<=d->d<=1000000->GIn w g cs ->
  Calls Tryz.prog 96 #[.agg cs.toArray] w fun e w'=>e=.returned (.int .i64 (g.deep:Int))/\Below w.heap.size w w'
 | 0,g,_,_,h,_,_=>by rw [g.deep_eq] at h;omega
 | d+1,g,cs,w,hd,hmax,h=>by
  have HIH:=hid (fun (g:GD) (cs:List Value) (w:World) (h1:g.deep<=d) (h2:GIn w g cs)=>rfDeep_walk d g cs w h1 (by omega) h2)
  obtain ⟨k,n,sx,a,c,b,off,-,rfl,hl,-,hb,hk⟩:=h.kid
  have HK:=hid hk
  have hde:=g.deep_eq
  have HALL:=hid (fun m (h:g.kids.length<=m)=>(show GD.deeps (g.kids.take m)+1=g.deep by rw [List.take_of_length_le h,hde]))
  have HSUC:=hid (fun m (h:m<g.kids.length)=>deeps_take_succ (l:=g.kids) h)
  have HLT:=hid (fun m=>(show GD.deeps (g.kids.take m)<g.deep by have:=deeps_take_le g.kids m;omega))
  have HKD:=hid (fun m (h:m<g.kids.length)=>(show g.kids[m].deep<g.deep by have:=deeps_mem (List.getElem_mem h);omega))
  have h00:GD.deeps (g.kids.take 0)=0:=rfl
  obtain ⟨l,hl'⟩:∃l,g.kids.length=l:=⟨_,rfl⟩
  rw [hl'] at hb hl ⊢
  have HL:=hid hl'
  unfold maxLen at hl
  obtain ⟨w1,hw1⟩:∃w1,w.alloc (.cells #[.int .u8 k,.int .i64 n,.string sx,.slice a l c] 80)=w1:=⟨_,rfl⟩
  have hb1:Below w.heap.size w w1:=hw1▸(Below.refl _ _).alloc (Nat.le_refl _) _
  have hx1:w1.cell? ⟨w.heap.size,3,none⟩=some (.slice a l c):=hw1▸(Arr.new w [.int .u8 k,.int .i64 n,.string sx,.slice a l c] _).cell (j:=3) (by simp)
  have HB1:=hid hb1
  have HX1:=hid hx1
  have HW1:=hid hw1
  clear hk hl' h hde hb1 hx1 hw1
  go_enter Tryz.func96,Tryz.ntmps96
  go_wp2_with fail
  rw [HW1.out]
  go_loopw [3,4] (fun n i wr=>∃m:Nat,m<=l/\n=.int .i64 (GD.deeps (g.kids.take m):Int)/\i=.int .i64 (m:Int)/\Hid (Below w1.heap.size w1 wr)) (fun _ i _=>l-(intOf i).toNat)
  case atStart=>exact ⟨0,Nat.zero_le _,by rw [h00];rfl,rfl,Below.refl _ _⟩
  obtain ⟨m,hm,rfl,rfl,HB⟩:=hrel
  have z3:=(HB.out.cell (p:=⟨w.heap.size,3,none⟩) (World.block_lt_of_cell? w1 _ HX1.out)).trans HX1.out
  have HBB:=hid (HB1.out.trans (HB.out.mono HB1.out.size))
  by_cases hml:m<l
  ·obtain ⟨rfl,hbl⟩:=hb (by omega)
   have i1:(m:Int)<(l:Int):=by omega
   have i2:(0:Int)<=(m:Int):=by omega
   have hmk:m<g.kids.length:=by rw [HL.out];exact hml
   obtain ⟨c0,c1,c2,c3,y0,y1,y2,y3,hgi⟩:=HK.out m hmk
   replace y0:=(HBB.out.cell (p:=⟨b,off+m*4,none⟩) hbl).trans y0
   replace y1:=(HBB.out.cell (p:=⟨b,off+m*4+1,none⟩) hbl).trans y1
   replace y2:=(HBB.out.cell (p:=⟨b,off+m*4+2,none⟩) hbl).trans y2
   replace y3:=(HBB.out.cell (p:=⟨b,off+m*4+3,none⟩) hbl).trans y3
   obtain ⟨k2,n2,s2,a2,l2,cc2,he⟩:=hgi.four
   simp only [List.cons.injEq,and_true] at he
   obtain ⟨rfl,rfl,rfl,rfl⟩:=he
   have hkd:=HKD.out m hmk
   have hIH:=fun W (hb:Below w.heap.size w W)=>HIH.out g.kids[m] _ W (by omega) (hgi.keepB hb)
   have hsu:=HSUC.out m hmk
   obtain ⟨q,hq⟩:∃q,g.kids[m].deep=q:=⟨_,rfl⟩
   rw [hq] at hIH hsu hkd
   have HIH2:=hid hIH
   have HSU:=hid hsu
   have hlt1:=HLT.out m
   have wr1:IntKind.i64.wrap ((m:Int)+1)=(m:Int)+1:=wrap_i64 (by omega) (by omega)
   clear hIH hsu hgi
   go_wp2_with fail
   refine (HIH2.out _ HBB.out).mono ?_
   rintro e w2 ⟨rfl,hb2⟩
   have HB2:=hid (HB.out.trans (hb2.mono HB.out.size))
   clear hb2 HIH2
   go_wp2_with fail
   refine ⟨⟨m+1,by omega,?_,rfl,HB2.out⟩,by simp only [intOf];omega⟩
   rw [HSU.out]
   simp only [Value.int.injEq,true_and]
   omega
  have hfin:=HALL.out m (by rw [HL.out];omega)
  have i1:¬(m:Int)<(l:Int):=by omega
  have wr1:IntKind.i64.wrap ((GD.deeps (g.kids.take m):Int)+1)=(g.deep:Int):=by rw [wrap_i64 (by omega) (by omega),<-hfin];rfl
  clear hb hfin
  go_wp2_with fail
  go_ret
  exact ⟨rfl,HBB.out⟩
abbrev zeroD:GD:=.node 0 0 ⟨#[]⟩ []
theorem zero_gin (w:World):GIn w zeroD zeroG:=.mk 0 0 ⟨#[]⟩ [] none 0 0 0 (fun _=>[]) (by simp) (Nat.le_refl _) (fun h=>absurd h (by simp)) (fun m h=>absurd h (by simp)) (fun m h=>absurd h (by simp))
def ReadA (s:ByteArray) (g:GD) (a c:Int):Prop :=
 if 16384<s.size then g=zeroD/\a=0/\c=3
 else ∃fu r,readG s fu=some r/\match r with
  | .ok t=>g=t.toGD/\a=0/\c=0
  | .error (p,q)=>g=zeroD/\a=(p:Int)/\c=q
theorem readG_deepLe {s:ByteArray} {f:Nat} {t:GT} (h:readG s f=some (.ok t)):t.deep<=32:=by
 unfold readG at h
 split at h
 ·cases h
 split at h
 ·cases h
 ·cases h
 split at h
 ·cases h
 split at h
 ·cases h
 rename_i h32
 injection h with h;injection h with h;subst h
 omega
theorem ReadA.deep {s:ByteArray} {g:GD} {a c:Int} (h:ReadA s g a c):g.deep<=32:=by
 unfold ReadA at h
 split at h
 ·obtain ⟨rfl,-⟩:=h;decide
 obtain ⟨fu,r,h1,h2⟩:=h
 cases r with
 | ok t=>obtain ⟨rfl,-⟩:=h2;rw [toGD_deep];exact readG_deepLe h1
 | error p=>obtain ⟨rfl,-⟩:=h2;decide
theorem ReadEnd.answer {s:ByteArray} {w w':World} {e:Ending} (h:ReadEnd s w e w'):Below w.heap.size w w'/\∃g a c cs,e=.returned (.tuple #[.agg (List.toArray cs),.int .i64 a,.int .i64 c])/\GIn w' g cs/\ReadA s g a c:=by
 obtain ⟨hb,h⟩:=h
 refine ⟨hb,?_⟩
 unfold ReadA
 split at h
 ·rename_i hbig
  exact ⟨zeroD,0,3,zeroG,h,zero_gin _,by rw [if_pos hbig];exact ⟨rfl,rfl,rfl⟩⟩
 rename_i hbig
 obtain ⟨fu,r,h1,h2⟩:=h
 cases r with
 | ok t =>
  obtain ⟨cs,rfl,h3⟩:=h2
  exact ⟨t.toGD,0,0,cs,rfl,h3.gin,by rw [if_neg hbig];exact ⟨fu,_,h1,rfl,rfl,rfl⟩⟩
 | error p =>
  obtain ⟨p,q⟩:=p
  exact ⟨zeroD,p,q,zeroG,h2,zero_gin _,by rw [if_neg hbig];exact ⟨fu,_,h1,rfl,rfl,rfl⟩⟩
def GT.isLeaf:GT->Bool
 | .leaf ..=>true
 | _=>false
def wrapT (l:Bool) (t:List UInt8):List UInt8:=if l then t else 40 :: (t++[41])
def opT:Nat->List UInt8
 | 9=>[97,110,100]
 | 10=>[111,114]
 | 11=>[61]
 | 12=>[60]
 | 13=>[43]
 | 14=>[45]
 | _=>[42]
def leafT (k:Nat) (n:Int) (s:ByteArray):List UInt8:=match k with
 | 1=>[116,114,117,101]
 | 2=>[102,97,108,115,101]
 | 3=>Lib.decDigits n.toNat
 | 4=>39 :: (s.data.toList++[39])
 | 6=>[111,112,101,110,40]++(s.data.toList++[41])
 | 7=>[100,111,110,101,40]++(s.data.toList++[41])
 | _=>s.data.toList
def GT.txt:GT->List UInt8
 | .leaf k n s=>leafT k n s
 | .one _ a=>[110,111,116,32]++wrapT a.isLeaf a.txt
 | .two k a b=>wrapT a.isLeaf a.txt++32 :: (opT k++32 :: wrapT b.isLeaf b.txt)
abbrev GT.kid (t:GT):List UInt8:=wrapT t.isLeaf t.txt
def GT.may:GT->Prop
 | .leaf k n s=>((k=1\/k=2)/\n=0/\s=⟨#[]⟩)\/(k=3/\0<=n/\n<=9223372036854775807/\s=⟨#[]⟩)\/(k=4/\n=0/\s.data.toList.all quotB=true)\/((k=5\/k=6\/k=7)/\n=0/\namedG s=true)
 | .one k a=>k=8/\a.may
 | .two k a b=>(9<=k/\k<=15)/\a.may/\b.may
structure AtL (s:ByteArray) (st:GSt) (l:List UInt8):Prop where
 pos:st.pos<=s.size
 drop:s.data.toList.drop st.pos=l
 i:st.i=st.pos+longB l
 now:st.now.data.toList=l.take (longB l)
 good:l=[]\/0<longB l
def Good (l:List UInt8):Prop:=l=[]\/0<longB l
def bl (l:List UInt8):List UInt8:=l.dropWhile (·==32)
theorem drop_tw (l:List UInt8):l.drop (l.takeWhile (·==32)).length=bl l:=by
 unfold bl
 induction l with
 | nil=>rfl
 | cons c r ih =>
  by_cases h:(c==32)=true
  ·rw [List.takeWhile_cons,List.dropWhile_cons,if_pos h,if_pos h,List.length_cons,List.drop_succ_cons,ih]
  rw [List.takeWhile_cons,List.dropWhile_cons,if_neg h,if_neg h];rfl
theorem from_drop (s:ByteArray) (i:Nat):s.data.toList.drop (fromB s i)=bl (s.data.toList.drop i):=by
 rw [<-drop_tw,List.drop_drop];rfl
theorem step_at {s:ByteArray} {i:Nat} (hi:i<=s.size) (hg:Good (bl (s.data.toList.drop i))):∃st,stepB s i=.ok st/\AtL s st (bl (s.data.toList.drop i)):=by
 have h1:=from_drop s i
 have h2:=fromB_le s hi
 have h3:=longB_le (bl (s.data.toList.drop i))
 have hlen:(bl (s.data.toList.drop i)).length=s.size-fromB s i:=by rw [<-h1,List.length_drop,ba_len]
 by_cases he:fromB s i=s.size
 ·have hnil:bl (s.data.toList.drop i)=[]:=List.eq_nil_of_length_eq_zero (by rw [hlen];omega)
  refine ⟨⟨fromB s i,fromB s i,⟨#[]⟩⟩,by unfold stepB;rw [if_pos he],?_⟩
  rw [hnil]
  exact ⟨h2,by rw [h1,hnil],rfl,rfl,.inl rfl⟩
 have hne:bl (s.data.toList.drop i)≠[]:=fun h=>by rw [h] at hlen;simp at hlen;omega
 have hp:0<longB (bl (s.data.toList.drop i)):=hg.resolve_left hne
 refine ⟨⟨fromB s i+longB (bl (s.data.toList.drop i)),fromB s i,s.extract (fromB s i) (fromB s i+longB (bl (s.data.toList.drop i)))⟩,by unfold stepB;rw [if_neg he,h1,if_neg (by omega)],?_⟩
 refine ⟨h2,h1,rfl,?_,.inr hp⟩
 simp only [ByteArray.data_extract,Array.toList_extract]
 show (s.data.toList.drop (fromB s i)).take (fromB s i+longB (bl (s.data.toList.drop i))-fromB s i)=_
 rw [h1,Nat.add_sub_cancel_left]
theorem AtL.le {s:ByteArray} {st:GSt} {l:List UInt8} (h:AtL s st l):st.i<=s.size:=by
 have h1:=longB_le l
 have h2:l.length=s.size-st.pos:=by rw [<-h.drop,List.length_drop,ba_len]
 have:=h.pos
 rw [h.i];omega
theorem AtL.rest {s:ByteArray} {st:GSt} {l:List UInt8} (h:AtL s st l):s.data.toList.drop st.i=l.drop (longB l):=by
 rw [h.i,<-h.drop,List.drop_drop]
structure Tk (x r:List UInt8):Prop where
 pos:0<x.length
 long:longB (x++r)=x.length
theorem AtL.now_eq {s:ByteArray} {st:GSt} {x r:List UInt8} (h:AtL s st (x++r)) (ht:Tk x r):st.now=⟨x.toArray⟩:=by
 have:=h.now
 rw [ht.long,List.take_left] at this
 exact ByteArray.ext (by rw [<-this])
theorem AtL.next {s:ByteArray} {st:GSt} {x r:List UInt8} (h:AtL s st (x++r)) (ht:Tk x r) (hg:Good (bl r)):∃st',stepB s st.i=.ok st'/\AtL s st' (bl r):=by
 have h1:=h.rest
 rw [ht.long,List.drop_left] at h1
 have h2:=step_at h.le (by rw [h1];exact hg)
 rwa [h1] at h2
theorem AtL.now_nil {s:ByteArray} {st:GSt} (h:AtL s st []):st.now=⟨#[]⟩:=by
 have:=h.now
 exact ByteArray.ext (Array.ext' (by rw [this];rfl))
def Stop (r:List UInt8):Prop:=r=[]\/∃c t,r=c :: t/\(c=32\/c=40\/c=41)
theorem Stop.tw {r:List UInt8} (h:Stop r) {p:UInt8->Bool} (h1:p 32=false) (h2:p 40=false) (h3:p 41=false) (x:List UInt8) (hx:x.all p=true):(x++r).takeWhile p=x:=by
 rw [List.takeWhile_append_of_pos (fun a ha=>List.all_eq_true.1 hx a ha)]
 rcases h with rfl | ⟨c,t,rfl,hc⟩
 ·simp
 have:p c=false:=by rcases hc with rfl | rfl | rfl<;>assumption
 rw [List.takeWhile_cons,this];simp
theorem tk_sign {c:UInt8} (h:signsB.contains c=true) (r:List UInt8):Tk [c] r:=⟨by simp,by rw [List.singleton_append,longB,if_pos h];rfl⟩
theorem word_no {c:UInt8} (h:97<=c.toNat/\c.toNat<=122):signsB.contains c=false:=by
 revert h
 refine u8_all (p:=fun c=>(97<=c.toNat/\c.toNat<=122)->signsB.contains c=false) ?_ c
 decide +kernel
theorem tk_word {c:UInt8} {x r:List UInt8} (hc:97<=c.toNat/\c.toNat<=122) (hx:x.all letterB=true) (hl:x.length<32) (hr:Stop r):Tk (c :: x) r:=by
 refine ⟨by simp,?_⟩
 have h1:=word_no hc
 have h2:(x++r).takeWhile letterB=x:=hr.tw (by decide) (by decide) (by decide) x hx
 rw [List.cons_append,longB,if_neg (by rw [h1];decide),if_neg (by omega),if_neg (by rintro rfl;exact absurd hc.1 (by decide)),if_pos hc,h2,if_pos (by omega),List.length_cons]
theorem tk_digits {c:UInt8} {x r:List UInt8} (hc:49<=c.toNat/\c.toNat<=57) (hx:x.all digitB=true) (hv:spell 0 (c :: x)<=9223372036854775807) (hr:Stop r):Tk (c :: x) r:=by
 refine ⟨by simp,?_⟩
 have h1:signsB.contains c=false:=by
  revert hc
  refine u8_all (p:=fun c=>(49<=c.toNat/\c.toNat<=57)->signsB.contains c=false) ?_ c
  decide +kernel
 have h2:(x++r).takeWhile digitB=x:=hr.tw (by decide) (by decide) (by decide) x hx
 rw [List.cons_append,longB,if_neg (by rw [h1];decide),if_pos hc,h2,if_pos hv,List.length_cons]
theorem tk_quote {x r:List UInt8} (hx:x.all quotB=true):Tk (39 :: (x++[39])) r:=by
 refine ⟨by simp,?_⟩
 have hq:∀a∈x,(a != 39)=true:=fun a ha=>by
  have:=List.all_eq_true.1 hx a ha
  simp only [quotB,Bool.and_eq_true] at this
  exact this.2
 have h2:(x++[39]++r).takeWhile (· != 39)=x:=by
  rw [List.append_assoc,List.takeWhile_append_of_pos hq];simp
 rw [List.cons_append,longB,if_neg (by decide),if_neg (by decide),if_pos rfl,h2,if_pos ⟨by simp,hx⟩]
 simp
theorem spell_ltG (l:List UInt8):∀acc:Nat,l.all digitB=true->spell acc l<(acc+1)*10 ^ l.length:=by
 induction l with
 | nil =>
  intro acc _
  show acc<(acc+1)*10 ^ 0
  rw [Nat.pow_zero]
  omega
 | cons c r ih =>
  intro acc h
  simp only [List.all_cons,Bool.and_eq_true] at h
  have hc:=h.1
  simp only [digitB,decide_eq_true_eq] at hc
  have h1:=ih (acc*10+(c.toNat-48)) h.2
  have h2:(acc*10+(c.toNat-48)+1)*10 ^ r.length<=((acc+1)*10)*10 ^ r.length:=Nat.mul_le_mul_right _ (by omega)
  have h3:((acc+1)*10)*10 ^ r.length=(acc+1)*10 ^ (r.length+1):=by rw [Nat.pow_succ,Nat.mul_comm (10 ^ r.length) 10,Nat.mul_assoc]
  have h4:spell acc (c :: r)=spell (acc*10+(c.toNat-48)) r:=rfl
  rw [h4,List.length_cons,<-h3]
  exact Nat.lt_of_lt_of_le h1 h2
theorem spell_geG (l:List UInt8):∀acc:Nat,acc*10 ^ l.length<=spell acc l:=by
 induction l with
 | nil =>
  intro acc
  show acc*10 ^ 0<=acc
  rw [Nat.pow_zero]
  omega
 | cons c r ih =>
  intro acc
  have h1:=ih (acc*10+(c.toNat-48))
  have h2:(acc*10)*10 ^ r.length<=(acc*10+(c.toNat-48))*10 ^ r.length:=Nat.mul_le_mul_right _ (by omega)
  have h3:(acc*10)*10 ^ r.length=acc*10 ^ (r.length+1):=by rw [Nat.pow_succ,Nat.mul_comm (10 ^ r.length) 10,Nat.mul_assoc]
  have h4:spell acc (c :: r)=spell (acc*10+(c.toNat-48)) r:=rfl
  rw [h4,List.length_cons,<-h3]
  exact Nat.le_trans h2 h1
theorem spell_great {l:List UInt8} (hh:49<=(l.headD 0).toNat) (hl:19<l.length):9223372036854775807<spell 0 l:=by
 cases l with
 | nil=>simp at hl
 | cons c r =>
  have hc:49<=c.toNat:=hh
  have h1:=spell_geG r (0*10+(c.toNat-48))
  have h2:10 ^ 19<=10 ^ r.length:=Nat.pow_le_pow_right (by omega) (by simp only [List.length_cons] at hl;omega)
  have h3:1*10 ^ r.length<=(0*10+(c.toNat-48))*10 ^ r.length:=Nat.mul_le_mul_right _ (by omega)
  have h4:spell 0 (c :: r)=spell (0*10+(c.toNat-48)) r:=rfl
  omega
theorem spell_small {l:List UInt8} (hd:l.all digitB=true) (hl:l.length<19):spell 0 l<=9223372036854775807:=by
 have h1:=spell_ltG l 0 hd
 have h2:10 ^ l.length<=10 ^ 18:=Nat.pow_le_pow_right (by omega) (by omega)
 omega
theorem spell_nil (a:Nat):spell a []=a:=id rfl
theorem spell_cons (a:Nat) (c:UInt8) (l:List UInt8):spell a (c :: l)=spell (a*10+(c.toNat-48)) l:=id rfl
theorem spell_up (l:List UInt8):∀(m:List UInt8) (a b:Nat),l.length=m.length->l.all digitB=true->m.all digitB=true->a<b->spell a l<spell b m:=by
 induction l with
 | nil =>
  intro m a b h _ _ hab
  cases m with
  | nil=>rw [spell_nil,spell_nil];exact hab
  | cons d m=>simp at h
 | cons c l ih =>
  intro m a b h hl hm hab
  cases m with
  | nil=>simp at h
  | cons d m =>
   simp only [List.all_cons,Bool.and_eq_true] at hl hm
   have hc:=hl.1
   have hd:=hm.1
   simp only [digitB,decide_eq_true_eq] at hc hd
   have hlen:l.length=m.length:=by simpa using h
   rw [spell_cons,spell_cons]
   exact ih m _ _ hlen hl.2 hm.2 (by omega)
theorem spell_less (l:List UInt8):∀(m:List UInt8) (a:Nat),l.length=m.length->l.all digitB=true->m.all digitB=true ->
  ((Op.bytesLess l m=true↔spell a l<spell a m)/\(l=m↔spell a l=spell a m)):=by
 induction l with
 | nil =>
  intro m a h _ _
  cases m with
  | nil =>
   have h:Op.bytesLess [] []=false:=rfl
   rw [h,spell_nil]
   exact ⟨⟨fun h=>(Bool.noConfusion h),fun h=>absurd h (Nat.lt_irrefl _)⟩,⟨fun _=>rfl,fun _=>rfl⟩⟩
  | cons d m=>simp at h
 | cons c l ih =>
  intro m a h hl hm
  cases m with
  | nil=>simp at h
  | cons d m =>
   simp only [List.all_cons,Bool.and_eq_true] at hl hm
   have hc:=hl.1
   have hd:=hm.1
   simp only [digitB,decide_eq_true_eq] at hc hd
   have hlen:l.length=m.length:=by simpa using h
   rw [spell_cons,spell_cons]
   have e:Op.bytesLess (c :: l) (d :: m)=(decide (c<d)||(c==d&&Op.bytesLess l m)):=rfl
   rw [e]
   rcases Nat.lt_trichotomy c.toNat d.toNat with hcd | hcd | hcd
   ·have h3:=spell_up l m (a*10+(c.toNat-48)) (a*10+(d.toNat-48)) hlen hl.2 hm.2 (by omega)
    have h4:c<d:=hcd
    refine ⟨⟨fun _=>h3,fun _=>(by rw [decide_eq_true h4];rfl)⟩,⟨fun he=>?_,fun he=>absurd he (Nat.ne_of_lt h3)⟩⟩
    injection he with e1 e2
    subst e1
    omega
   ·have h4:c=d:=UInt8.toNat_inj.1 hcd
    subst h4
    have h3:=ih m (a*10+(c.toNat-48)) hlen hl.2 hm.2
    have h5:¬c<c:=fun hlt=>Nat.lt_irrefl _ (show c.toNat<c.toNat from hlt)
    rw [decide_eq_false h5,Bool.false_or,beq_self_eq_true,Bool.true_and,<-h3.2]
    exact ⟨h3.1,⟨fun he=>(List.cons.inj he).2,fun he=>(by rw [he])⟩⟩
   have h3:=spell_up m l (a*10+(d.toNat-48)) (a*10+(c.toNat-48)) hlen.symm hm.2 hl.2 (by omega)
   have h4:¬c<d:=fun hlt=>(by have hlt':c.toNat<d.toNat:=hlt;omega)
   have h5:¬c=d:=fun he=>(by subst he;omega)
   rw [decide_eq_false h4,beq_eq_false_iff_ne.2 h5,Bool.false_and,Bool.false_or]
   exact ⟨⟨fun h=>(Bool.noConfusion h),fun h=>absurd h (Nat.not_lt.2 (Nat.le_of_lt h3))⟩,⟨fun he=>absurd (List.cons.inj he).1 h5,fun he=>absurd he.symm (Nat.ne_of_lt h3)⟩⟩
abbrev leastS:List UInt8:=[57,50,50,51,51,55,50,48,51,54,56,53,52,55,55,53,56,48,55]
theorem spell_least:spell 0 leastS=9223372036854775807:=by decide +kernel
theorem least_gt {l:List UInt8} (hl:l.length=19) (hd:l.all digitB=true):(Op.bytesLess l leastS||l==leastS)=decide (spell 0 l<=9223372036854775807):=by
 have h:=spell_less l leastS 0 (by rw [hl];rfl) hd (by decide +kernel)
 rw [spell_least] at h
 rw [Bool.eq_iff_iff,Bool.or_eq_true,h.1,beq_iff_eq,h.2,decide_eq_true_eq]
 omega
theorem spell_snocG {s:ByteArray} {k:Nat} (h:k<s.size):spell 0 (s.data.toList.take (k+1))=spell 0 (s.data.toList.take k)*10+(s[k].toNat-48):=by
 rw [take_snoc s k h,spell_append];rfl
theorem spell_mono (s:ByteArray) (k:Nat):spell 0 (s.data.toList.take k)<=spell 0 s.data.toList:=by
 have h:=spell_append (s.data.toList.drop k) (s.data.toList.take k) 0
 rw [List.take_append_drop] at h
 rw [h]
 exact spell_ge _ _
end Go.Proofs.YtfbbkmdhnkmonaaGreatDoor
