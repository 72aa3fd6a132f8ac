/- Proved, each under the conditions that it names: docketref17: atom; docketref17: Read; docketref17: Named and Read at texts of any length; many, May, asked at a guard that was read. -/
import Derived.Test.YtfbbkmdhnkmonaaGreatDoorT14
set_option maxRecDepth 100000
set_option maxHeartbeats 32000000
namespace Go.Proofs.YtfbbkmdhnkmonaaGreatDoor
open Go.RowKit
def nameX (s:ByteArray):Except Nat GSt->Except Nat GSt
 | .ok st=>if namedG st.now=true then stepB s st.i else .error st.pos
 | .error a=>.error a
theorem rfNameX (R:Nat) (s:ByteArray) (x:Except Nat GSt) (w:World) (hs:s.size<=17000) (hg:GSX s x) (h:RfIs R w s x) :
  Calls Tryz.prog 203 #[.pointer (some ⟨R,0,none⟩)] w fun e w'=>∃y,AdvR R s (nameX s x) (.string y) w e w'/\∀st,x=.ok st->namedG st.now=true->y=st.now:=by
 cases x with
 | ok st =>
  refine (rfName_ok R s st w hs (hg st rfl) h).mono ?_
  rintro e w' ⟨y,h1,h2⟩
  exact ⟨y,h1,fun st' he=>by injection he with he;subst he;exact h2⟩
 | error a =>
  refine (rfName_bad R s a w h).mono ?_
  rintro e w' ⟨y,h1⟩
  exact ⟨y,h1,fun _ he=>by cases he⟩
theorem GSX.need {s y:ByteArray} {x:Except Nat GSt} (h:GSX s x):GSX s (needX s y x):=by
 intro st' hst
 cases x with
 | error a=>cases hst
 | ok st=>exact (need_gs (h st rfl).le hst).1
theorem GSX.name {s:ByteArray} {x:Except Nat GSt} (h:GSX s x):GSX s (nameX s x):=by
 intro st' hst
 cases x with
 | error a=>cases hst
 | ok st=>exact (name_gs (h st rfl).le hst).1
theorem px_leaf {s:ByteArray} {st:GSt} {r:Except Nat GSt} {k:Nat} {n:Int} {y:ByteArray} (hf:pars s 1 .atom st=thenS r fun st1=>some (.ok (.leaf k n y,st1))) (hr:∀st1,r=.ok st1->GS s st1/\st.i<=st1.pos) (hp:st.pos<=st.i):PX s .atom (.ok st) r (some (.leaf k n y)):=by
 cases r with
 | error a=>exact ⟨1,.error a,hf,rfl⟩
 | ok st1 =>
  obtain ⟨h1,h2⟩:=hr st1 rfl
  exact ⟨1,.ok (.leaf k n y,st1),hf,rfl,rfl,h1,by omega⟩
theorem px_open {s:ByteArray} {st:GSt} {k:Nat} {y:ByteArray} (hg:GS s st)
  (hf:pars s 1 .atom st=thenS (stepB s st.i) fun st1=>thenS (needB s lparS st1) fun st2=>thenS (if namedG st2.now=true then stepB s st2.i else .error st2.pos) fun st3=>thenS (needB s rparS st3) fun st4=>some (.ok (.leaf k 0 st2.now,st4)))
  (hy:∀st2,needX s lparS (stepB s st.i)=.ok st2->namedG st2.now=true->y=st2.now):PX s .atom (.ok st) (needX s rparS (nameX s (needX s lparS (stepB s st.i)))) (some (.leaf k 0 y)):=by
 have hpos:=hg.pos
 cases h1:stepB s st.i with
 | error a=>exact ⟨1,.error a,by rw [hf,h1];rfl,rfl⟩
 | ok st1 =>
  rw [h1] at hy hf
  obtain ⟨g1,p1⟩:=step_gs hg.le h1
  replace hf:pars s 1 .atom st=thenS (needB s lparS st1) _:=hf
  replace hy:∀st2,needB s lparS st1=.ok st2->namedG st2.now=true->y=st2.now:=hy
  show PX s .atom (.ok st) (needX s rparS (nameX s (needB s lparS st1))) _
  cases h2:needB s lparS st1 with
  | error a=>exact ⟨1,.error a,by rw [hf,h2];rfl,rfl⟩
  | ok st2 =>
   rw [h2] at hf
   replace hf:pars s 1 .atom st=thenS (if namedG st2.now=true then stepB s st2.i else .error st2.pos) _:=hf
   obtain ⟨g2,p2⟩:=need_gs g1.le h2
   show PX s .atom (.ok st) (needX s rparS (if namedG st2.now=true then stepB s st2.i else .error st2.pos)) _
   cases h3:(if namedG st2.now=true then stepB s st2.i else .error st2.pos) with
   | error a=>exact ⟨1,.error a,by rw [hf,h3];rfl,rfl⟩
   | ok st3 =>
    rw [h3] at hf
    replace hf:pars s 1 .atom st=thenS (needB s rparS st3) _:=hf
    obtain ⟨g3,p3⟩:=name_gs g2.le h3
    have hn:namedG st2.now=true:=by
     split at h3
     ·assumption
     cases h3
    obtain rfl:=hy st2 h2 hn
    show PX s .atom (.ok st) (needB s rparS st3) _
    cases h4:needB s rparS st3 with
    | error a=>exact ⟨1,.error a,by rw [hf,h4];rfl,rfl⟩
    | ok st4 =>
     rw [h4] at hf
     obtain ⟨g4,p4⟩:=need_gs g3.le h4
     have q1:=g1.pos
     have q2:=g2.pos
     have q3:=g3.pos
     exact ⟨1,_,hf,rfl,rfl,g4,by omega⟩
theorem px_paren {s:ByteArray} {st:GSt} {x2:Except Nat GSt} {t2:Option GT} (hg:GS s st)
  (hf:∀f,pars s (f+1) .atom st=thenS (stepB s st.i) fun st1=>thenP (pars s f .guard st1) fun g st2=>thenS (needB s rparS st2) fun st3=>some (.ok (g,st3)))
  (hp:PX s .guard (stepB s st.i) x2 t2):PX s .atom (.ok st) (needX s rparS x2) t2:=by
 have hpos:=hg.pos
 cases h1:stepB s st.i with
 | error a =>
  rw [h1] at hp
  obtain rfl:x2=.error a:=hp
  exact ⟨1,.error a,by rw [hf 0,h1];rfl,rfl⟩
 | ok st1 =>
  rw [h1] at hp
  obtain ⟨fu,r,hp,hr⟩:=hp
  have hf':pars s (fu+1) .atom st=thenP (some r) fun g st2=>thenS (needB s rparS st2) fun st3=>some (.ok (g,st3)):=by
   rw [hf fu,h1]
   show thenP (pars s fu .guard st1) _=_
   rw [hp]
  obtain ⟨g1,p1⟩:=step_gs hg.le h1
  cases r with
  | error a =>
   obtain rfl:x2=.error a:=hr
   exact ⟨fu+1,.error a,hf',rfl⟩
  | ok gs =>
   obtain ⟨g2,st2⟩:=gs
   obtain ⟨rfl,rfl,gg,pp⟩:=hr
   replace hf':pars s (fu+1) .atom st=thenS (needB s rparS st2) _:=hf'
   show PX s .atom (.ok st) (needB s rparS st2) _
   cases h4:needB s rparS st2 with
   | error a=>exact ⟨fu+1,.error a,by rw [hf',h4];rfl,rfl⟩
   | ok st4 =>
    rw [h4] at hf'
    obtain ⟨g4,p4⟩:=need_gs gg.le h4
    have q1:=g1.pos
    have q2:=gg.pos
    exact ⟨fu+1,_,hf',rfl,rfl,g4,by omega⟩
def AtEnd (R:Nat) (s:ByteArray) (x0:Except Nat GSt) (w:World) (e:Ending) (w':World):Prop :=
 KeepR R w w'/\∃x' t cs,e=.returned (.agg (List.toArray cs))/\GX (fun k=>k<w.heap.size) w' t cs/\RfIs R w' s x'/\PX s .atom x0 x' t
theorem rf_ret {R:Nat} {w W:World} {s:ByteArray} {x0 x':Except Nat GSt} {t:Option GT} {a:Act} {c0 c1 c2 c3 d0 d1 d2 d3:Value} (h2:a.tmps.getD 2 undef=.pointer (some ⟨w.heap.size,0,none⟩)) (hd:a.defers=[]) (hk:KeepR R w W) (hRw:R<w.heap.size)
  (hr:RfIs R W s x') (ho:Arr W w.heap.size 80 [c0,c1,c2,c3]) (hx:GX (fun k=>k<w.heap.size+1) W t [d0,d1,d2,d3]) (hp:PX s .atom x0 x' t) :
  bodyPost Tryz.prog Tryz.f198 (AtEnd R s x0 w) .ret a ((((W.setCell ⟨w.heap.size,0,none⟩ d0).setCell ⟨w.heap.size,1,none⟩ d1).setCell ⟨w.heap.size,2,none⟩ d2).setCell ⟨w.heap.size,3,none⟩ d3):=by
 obtain ⟨k1,k2,k3,k4⟩:=storeO (d0:=d0) (d1:=d1) (d2:=d2) (d3:=d3) hk hr ho hx hRw
 refine ret_guard (fn:=Tryz.f198) rfl (g:=w.heap.size) (cs:=[d0,d1,d2,d3]) h2 hd rfl k3 ?_
 exact ⟨k1,_,_,_,rfl,k4,k2,hp⟩
theorem rf_atom {R:Nat} {s:ByteArray} {N:Nat} (hs:s.size<=17000) (hguard:∀M,M<N->SubX R s M 94 .guard):SubX R s N 198 .atom:=by
 intro x0 w hN hg h
 show Calls Tryz.prog 198 _ w (AtEnd R s x0 w)
 have hRw:R<w.heap.size:=h.lt
 obtain ⟨w1,hw1⟩:∃w1,w.alloc (.cells #[.int .u8 0,.int .i64 0,.string ⟨#[]⟩,.slice none 0 0] 80)=w1:=⟨_,rfl⟩
 have HA1:Hid (Arr w1 w.heap.size 80 zeroG):=hw1▸Arr.new w zeroG 80
 have HB1:Below w.heap.size w w1:=hw1▸(Below.refl w.heap.size w).alloc (Nat.le_refl _) _
 have HK1:Hid (KeepR R w w1):=.of HB1
 have HR1:Hid (RfIs R w1 s x0):=h.below HB1
 have HGU:=hid hguard
 have HN:=hid hN
 clear hguard h hN HB1
 cases x0 with
 | error a =>
  have HF:=hid (fun v=>rfFail_bad R s a v w1 HR1.out)
  have hbad:=HR1.out
  obtain ⟨i',p',hbad⟩:=hbad
  obtain ⟨x0,x1,x2,x3,x4,x5⟩:=rf_cells hbad
  clear hbad hg
  go_enter Tryz.func198,Tryz.ntmps198
  go_wp2_with fail
  clear hw1
  refine (HF.out _).mono ?_
  rintro e w2 ⟨hk2,rfl,hr2⟩
  have HK2:=hid (HK1.out.trans hk2)
  have HA2:=hid (HA1.out.keepR hk2 (by omega))
  have HR2:=hid hr2
  clear HF hk2 hr2 x0 x1 x2 x3 x4 x5
  have o0:=HA2.out.cell (j:=0) (by simp)
  have o1:=HA2.out.cell (j:=1) (by simp)
  have o2:=HA2.out.cell (j:=2) (by simp)
  have o3:=HA2.out.cell (j:=3) (by simp)
  simp only [gE0,gE1] at o0 o1 o2 o3
  have f0:=HA2.out.frozen 0
  have f1:=HA2.out.frozen 1
  have f2:=HA2.out.frozen 2
  have f3:=HA2.out.frozen 3
  go_wp2_with fail
  exact rf_ret (t:=none) rfl rfl HK2.out hRw HR2.out HA2.out ⟨0,_,_,_,_,_,rfl⟩ rfl
 | ok st =>
  have HG0:=hid (hg st rfl)
  have HN0:=hid (HN.out st rfl)
  have hgood:Arr w1 R 155 [.string s,.int .i64 (st.i:Int),.int .i64 (st.pos:Int),.string st.now,.bool false,.int .i64 0]:=HR1.out
  obtain ⟨-,-,x2,x3,x4,-⟩:=rf_cells hgood
  have HGD:=hid hgood
  clear hgood hg
  have HST:=hid (fun st' (h:stepB s st.i=.ok st')=>step_gs HG0.out.le h)
  have HSG:=hid (GSX.step HG0.out)
  by_cases h1:st.now=trueS
  ·have hIS:=rfIs_yes R s st w1 hs HG0.out.le HR1.out
   rw [h1] at hIS x3
   have HIS:=hid hIS
   have H1:=hid h1
   clear hIS h1
   go_enter Tryz.func198,Tryz.ntmps198
   go_wp2_with fail
   clear hw1
   refine HIS.out.mono ?_
   rintro e w2 ⟨hk2,rfl,hr2⟩
   have HK2:=hid (HK1.out.trans hk2)
   have HA2:=hid (HA1.out.keepR hk2 (by omega))
   have HR2:=hid hr2
   have hsz2:w.heap.size<w2.heap.size:=HA2.out.lt
   clear HIS hk2 hr2 x3 x4
   have o0:=HA2.out.cell (j:=0) (by simp)
   have o1:=HA2.out.cell (j:=1) (by simp)
   have o2:=HA2.out.cell (j:=2) (by simp)
   have o3:=HA2.out.cell (j:=3) (by simp)
   simp only [gE0,gE1] at o0 o1 o2 o3
   have f0:=HA2.out.frozen 0
   have f1:=HA2.out.frozen 1
   have f2:=HA2.out.frozen 2
   have f3:=HA2.out.frozen 3
   go_wp2_with fail
   exact rf_ret (t:=some (.leaf 1 0 ⟨#[]⟩)) rfl rfl HK2.out hRw HR2.out HA2.out rfl (px_leaf (at1 H1.out) HST.out HG0.out.pos)
  by_cases h2:st.now=falseS
  ·have hIS:=rfIs_yes R s st w1 hs HG0.out.le HR1.out
   have HN1:=hid (rfIs_no R s st trueS w1 h1 HR1.out)
   rw [h2] at hIS x3
   have HIS:=hid hIS
   have H1:=hid h1
   have H2:=hid h2
   clear hIS h1 h2
   go_enter Tryz.func198,Tryz.ntmps198
   go_wp2_with fail
   clear hw1
   refine HN1.out.mono ?_
   rintro e w2 ⟨rfl,rfl⟩
   clear HN1
   go_wp2_with fail
   refine HIS.out.mono ?_
   rintro e w2 ⟨hk2,rfl,hr2⟩
   have HK2:=hid (HK1.out.trans hk2)
   have HA2:=hid (HA1.out.keepR hk2 (by omega))
   have HR2:=hid hr2
   have hsz2:w.heap.size<w2.heap.size:=HA2.out.lt
   clear HIS hk2 hr2 x3 x4
   have o0:=HA2.out.cell (j:=0) (by simp)
   have o1:=HA2.out.cell (j:=1) (by simp)
   have o2:=HA2.out.cell (j:=2) (by simp)
   have o3:=HA2.out.cell (j:=3) (by simp)
   simp only [gE0,gE1] at o0 o1 o2 o3
   have f0:=HA2.out.frozen 0
   have f1:=HA2.out.frozen 1
   have f2:=HA2.out.frozen 2
   have f3:=HA2.out.frozen 3
   go_wp2_with fail
   exact rf_ret (t:=some (.leaf 2 0 ⟨#[]⟩)) rfl rfl HK2.out hRw HR2.out HA2.out rfl (px_leaf (at2 H1.out H2.out) HST.out HG0.out.pos)
  by_cases h3:st.now=openS
  ·have hIS:=rfIs_yes R s st w1 hs HG0.out.le HR1.out
   have HN1:=hid (rfIs_no R s st trueS w1 h1 HR1.out)
   have HN2:=hid (rfIs_no R s st falseS w1 h2 HR1.out)
   rw [h3] at hIS x3
   have HIS:=hid hIS
   have H1:=hid h1
   have H2:=hid h2
   have H3:=hid h3
   clear hIS h1 h2 h3
   go_enter Tryz.func198,Tryz.ntmps198
   go_wp2_with fail
   clear hw1
   refine HN1.out.mono ?_
   rintro e w2 ⟨rfl,rfl⟩
   clear HN1
   go_wp2_with fail
   refine HN2.out.mono ?_
   rintro e w2 ⟨rfl,rfl⟩
   clear HN2
   go_wp2_with fail
   refine HIS.out.mono ?_
   rintro e w2 ⟨hk2,rfl,hr2⟩
   have HK2:=hid (HK1.out.trans hk2)
   have HA2:=hid (HA1.out.keepR hk2 (by omega))
   have HR2:=hid hr2
   have hsz2:w.heap.size<w2.heap.size:=HA2.out.lt
   clear HIS hk2 hr2 x3 x4
   have HND:=hid (rfNeed R s _ lparS w2 hs HSG.out.le HR2.out)
   go_wp2_with fail
   refine HND.out.mono ?_
   rintro e w3 ⟨hk3,rfl,hr3⟩
   have HK3:=hid (HK2.out.trans hk3)
   have HA3:=hid (HA2.out.keepR hk3 (by omega))
   have HG3:=hid (GSX.need (y:=lparS) HSG.out)
   have HR3:=hid hr3
   have HNM:=hid (rfNameX R s _ w3 hs HG3.out HR3.out)
   clear HND hk3 hr3 HK2 HA2 HR2
   go_wp2_with fail
   refine HNM.out.mono ?_
   rintro e w4 ⟨y,⟨hk4,rfl,hr4⟩,hy⟩
   have HY:=hid hy
   have HA4:=hid ((HA3.out.keepR hk4 (by omega)).alloc (.cells #[.int .u8 6,.int .i64 0,.string y,.slice none 0 0] 80))
   have hgb4:w.heap.size<w4.heap.size:=(HA3.out.keepR hk4 (by omega)).lt
   have HG4:=hid (GSX.name HG3.out)
   have hb4:=(Below.refl w4.heap.size w4).alloc (Nat.le_refl _) (.cells #[.int .u8 6,.int .i64 0,.string y,.slice none 0 0] 80)
   have HK4:=hid ((HK3.out.trans hk4).next hb4)
   have HR4:=hid (hr4.below hb4)
   have HB4:=hid (Arr.new w4 [.int .u8 6,.int .i64 0,.string y,.slice none 0 0] 80)
   have HND:=hid (rfNeed R s _ rparS _ hs HG4.out.le HR4.out)
   clear HNM hk4 hr4 HK3 HA3 HR3 hy hb4
   go_wp2_with fail
   refine HND.out.mono ?_
   rintro e w5 ⟨hk5,rfl,hr5⟩
   have HK5:=hid (HK4.out.trans hk5)
   have HA5:=hid (HA4.out.keepR hk5 (by omega))
   have HB5:=hid (HB4.out.keepR hk5 (by omega))
   have HR5:=hid hr5
   clear HND hk5 hr5 HK4 HA4 HR4 HB4
   have o0:=HA5.out.cell (j:=0) (by simp)
   have o1:=HA5.out.cell (j:=1) (by simp)
   have o2:=HA5.out.cell (j:=2) (by simp)
   have o3:=HA5.out.cell (j:=3) (by simp)
   simp only [gE0,gE1] at o0 o1 o2 o3
   have f0:=HA5.out.frozen 0
   have f1:=HA5.out.frozen 1
   have f2:=HA5.out.frozen 2
   have f3:=HA5.out.frozen 3
   have y0:=HB5.out.cell (j:=0) (by simp)
   have y1:=HB5.out.cell (j:=1) (by simp)
   have y2:=HB5.out.cell (j:=2) (by simp)
   have y3:=HB5.out.cell (j:=3) (by simp)
   simp only [gE0,gE1] at y0 y1 y2 y3
   have hif:(if st.now=doneS then 7 else 6)=6:=by rw [if_neg (by rw [H3.out];decide)]
   have hat:=at3 H1.out H2.out (.inl H3.out) (s:=s) (f:=0)
   rw [hif] at hat
   have HAT:=hid hat
   clear hif hat
   go_wp2_with fail
   exact rf_ret (t:=some (.leaf 6 0 y)) rfl rfl HK5.out hRw HR5.out HA5.out rfl (px_open HG0.out HAT.out HY.out)
  by_cases h4:st.now=doneS
  ·have hIS:=rfIs_yes R s st w1 hs HG0.out.le HR1.out
   have HN1:=hid (rfIs_no R s st trueS w1 h1 HR1.out)
   have HN2:=hid (rfIs_no R s st falseS w1 h2 HR1.out)
   have HN3:=hid (rfIs_no R s st openS w1 h3 HR1.out)
   rw [h4] at hIS x3
   have HIS:=hid hIS
   have H1:=hid h1
   have H2:=hid h2
   have H3:=hid h3
   have H4:=hid h4
   clear hIS h1 h2 h3 h4
   go_enter Tryz.func198,Tryz.ntmps198
   go_wp2_with fail
   clear hw1
   refine HN1.out.mono ?_
   rintro e w2 ⟨rfl,rfl⟩
   clear HN1
   go_wp2_with fail
   refine HN2.out.mono ?_
   rintro e w2 ⟨rfl,rfl⟩
   clear HN2
   go_wp2_with fail
   refine HN3.out.mono ?_
   rintro e w2 ⟨rfl,rfl⟩
   clear HN3
   go_wp2_with fail
   refine HIS.out.mono ?_
   rintro e w2 ⟨hk2,rfl,hr2⟩
   have HK2:=hid (HK1.out.trans hk2)
   have HA2:=hid (HA1.out.keepR hk2 (by omega))
   have HR2:=hid hr2
   have hsz2:w.heap.size<w2.heap.size:=HA2.out.lt
   clear HIS hk2 hr2 x3 x4
   have HND:=hid (rfNeed R s _ lparS w2 hs HSG.out.le HR2.out)
   go_wp2_with fail
   refine HND.out.mono ?_
   rintro e w3 ⟨hk3,rfl,hr3⟩
   have HK3:=hid (HK2.out.trans hk3)
   have HA3:=hid (HA2.out.keepR hk3 (by omega))
   have HG3:=hid (GSX.need (y:=lparS) HSG.out)
   have HR3:=hid hr3
   have HNM:=hid (rfNameX R s _ w3 hs HG3.out HR3.out)
   clear HND hk3 hr3 HK2 HA2 HR2
   go_wp2_with fail
   refine HNM.out.mono ?_
   rintro e w4 ⟨y,⟨hk4,rfl,hr4⟩,hy⟩
   have HY:=hid hy
   have HA4:=hid ((HA3.out.keepR hk4 (by omega)).alloc (.cells #[.int .u8 7,.int .i64 0,.string y,.slice none 0 0] 80))
   have hgb4:w.heap.size<w4.heap.size:=(HA3.out.keepR hk4 (by omega)).lt
   have HG4:=hid (GSX.name HG3.out)
   have hb4:=(Below.refl w4.heap.size w4).alloc (Nat.le_refl _) (.cells #[.int .u8 7,.int .i64 0,.string y,.slice none 0 0] 80)
   have HK4:=hid ((HK3.out.trans hk4).next hb4)
   have HR4:=hid (hr4.below hb4)
   have HB4:=hid (Arr.new w4 [.int .u8 7,.int .i64 0,.string y,.slice none 0 0] 80)
   have HND:=hid (rfNeed R s _ rparS _ hs HG4.out.le HR4.out)
   clear HNM hk4 hr4 HK3 HA3 HR3 hy hb4
   go_wp2_with fail
   refine HND.out.mono ?_
   rintro e w5 ⟨hk5,rfl,hr5⟩
   have HK5:=hid (HK4.out.trans hk5)
   have HA5:=hid (HA4.out.keepR hk5 (by omega))
   have HB5:=hid (HB4.out.keepR hk5 (by omega))
   have HR5:=hid hr5
   clear HND hk5 hr5 HK4 HA4 HR4 HB4
   have o0:=HA5.out.cell (j:=0) (by simp)
   have o1:=HA5.out.cell (j:=1) (by simp)
   have o2:=HA5.out.cell (j:=2) (by simp)
   have o3:=HA5.out.cell (j:=3) (by simp)
   simp only [gE0,gE1] at o0 o1 o2 o3
   have f0:=HA5.out.frozen 0
   have f1:=HA5.out.frozen 1
   have f2:=HA5.out.frozen 2
   have f3:=HA5.out.frozen 3
   have y0:=HB5.out.cell (j:=0) (by simp)
   have y1:=HB5.out.cell (j:=1) (by simp)
   have y2:=HB5.out.cell (j:=2) (by simp)
   have y3:=HB5.out.cell (j:=3) (by simp)
   simp only [gE0,gE1] at y0 y1 y2 y3
   have hif:(if st.now=doneS then 7 else 6)=7:=by rw [if_pos H4.out]
   have hat:=at3 H1.out H2.out (.inr H4.out) (s:=s) (f:=0)
   rw [hif] at hat
   have HAT:=hid hat
   clear hif hat
   go_wp2_with fail
   exact rf_ret (t:=some (.leaf 7 0 y)) rfl rfl HK5.out hRw HR5.out HA5.out rfl (px_open HG0.out HAT.out HY.out)
  by_cases h5:st.now=lparS
  ·have hIS:=rfIs_yes R s st w1 hs HG0.out.le HR1.out
   have HN1:=hid (rfIs_no R s st trueS w1 h1 HR1.out)
   have HN2:=hid (rfIs_no R s st falseS w1 h2 HR1.out)
   have HN3:=hid (rfIs_no R s st openS w1 h3 HR1.out)
   have HN4:=hid (rfIs_no R s st doneS w1 h4 HR1.out)
   rw [h5] at hIS x3
   have HIS:=hid hIS
   have H1:=hid h1
   have H2:=hid h2
   have H3:=hid h3
   have H4:=hid h4
   have H5:=hid h5
   clear hIS h1 h2 h3 h4 h5
   go_enter Tryz.func198,Tryz.ntmps198
   go_wp2_with fail
   clear hw1
   refine HN1.out.mono ?_
   rintro e w2 ⟨rfl,rfl⟩
   clear HN1
   go_wp2_with fail
   refine HN2.out.mono ?_
   rintro e w2 ⟨rfl,rfl⟩
   clear HN2
   go_wp2_with fail
   refine HN3.out.mono ?_
   rintro e w2 ⟨rfl,rfl⟩
   clear HN3
   go_wp2_with fail
   refine HN4.out.mono ?_
   rintro e w2 ⟨rfl,rfl⟩
   clear HN4
   go_wp2_with fail
   refine HIS.out.mono ?_
   rintro e w2 ⟨hk2,rfl,hr2⟩
   have HK2:=hid (HK1.out.trans hk2)
   have HA2:=hid (HA1.out.keepR hk2 (by omega))
   have HR2:=hid hr2
   have hsz2:w.heap.size<w2.heap.size:=HA2.out.lt
   clear HIS hk2 hr2 x3 x4
   have hn3:∀st',stepB s st.i=.ok st'->s.size-st'.pos<N-1:=fun st' hst=>by
    have h1:=(HST.out st' hst).2
    have h2:=HG0.out.le
    have h3:st.pos<st.i:=by rcases HG0.out.adv with h | h;exact absurd h (by rw [H5.out];decide);exact h
    have h4:=HN0.out
    omega
   have HN3:=hid hn3
   have hN1:N-1<N:=by have:=HN0.out;omega
   clear hn3
   go_wp2_with fail
   refine (HGU.out (N-1) hN1 _ w2 HN3.out HSG.out HR2.out).mono ?_
   rintro e w3 ⟨hk3,x5,t5,cs5,rfl,hx5,hr5,hp5⟩
   have HP5:=hid hp5
   obtain ⟨q1,m1,z1,b1,l1,c1,rfl⟩:=hx5.four
   have HA4:=hid ((HA2.out.keepR hk3 (by omega)).alloc (.cells #[.int .u8 q1,.int .i64 m1,.string z1,.slice b1 l1 c1] 80))
   have hgb4:w.heap.size<w3.heap.size:=(HA2.out.keepR hk3 (by omega)).lt
   have HG4:=hid (PX.gsx hp5)
   have hb4:=(Below.refl w3.heap.size w3).alloc (Nat.le_refl _) (.cells #[.int .u8 q1,.int .i64 m1,.string z1,.slice b1 l1 c1] 80)
   have HK4:=hid ((HK2.out.trans hk3).next hb4)
   have HR4:=hid (hr5.below hb4)
   have HB4:=hid (Arr.new w3 [.int .u8 q1,.int .i64 m1,.string z1,.slice b1 l1 c1] 80)
   have HX4:Hid (GX (fun k=>k<w.heap.size+1) (w3.alloc (.cells #[.int .u8 q1,.int .i64 m1,.string z1,.slice b1 l1 c1] 80)) t5 [.int .u8 q1,.int .i64 m1,.string z1,.slice b1 l1 c1]):=(hx5.mono (fun k _ h=>show k<w2.heap.size by omega)).below hb4
   have HND:=hid (rfNeed R s _ rparS _ hs HG4.out.le HR4.out)
   clear hk3 hx5 hr5 hp5 hb4 HK2 HA2 HR2
   go_wp2_with fail
   refine HND.out.mono ?_
   rintro e w5 ⟨hk5,rfl,hr5⟩
   have HK5:=hid (HK4.out.trans hk5)
   have HA5:=hid (HA4.out.keepR hk5 (by omega))
   have HB5:=hid (HB4.out.keepR hk5 (by omega))
   have HX5:=hid (GX.keepR (X:=fun k=>k<w.heap.size+1) (show R<w.heap.size+1 by omega) hk5 HX4.out)
   have HR5:=hid hr5
   clear HND hk5 hr5 HK4 HA4 HR4 HB4 HX4
   have o0:=HA5.out.cell (j:=0) (by simp)
   have o1:=HA5.out.cell (j:=1) (by simp)
   have o2:=HA5.out.cell (j:=2) (by simp)
   have o3:=HA5.out.cell (j:=3) (by simp)
   simp only [gE0,gE1] at o0 o1 o2 o3
   have f0:=HA5.out.frozen 0
   have f1:=HA5.out.frozen 1
   have f2:=HA5.out.frozen 2
   have f3:=HA5.out.frozen 3
   have y0:=HB5.out.cell (j:=0) (by simp)
   have y1:=HB5.out.cell (j:=1) (by simp)
   have y2:=HB5.out.cell (j:=2) (by simp)
   have y3:=HB5.out.cell (j:=3) (by simp)
   simp only [gE0,gE1] at y0 y1 y2 y3
   go_wp2_with fail
   exact rf_ret rfl rfl HK5.out hRw HR5.out HA5.out HX5.out (px_paren HG0.out (fun f=>at4 H1.out H2.out (by rintro (h | h);exact H3.out h;exact H4.out h) H5.out) HP5.out)
  have h34:¬(st.now=openS\/st.now=doneS):=by rintro (h | h);exact h3 h;exact h4 h
  by_cases hz:st.now.size=0
  ·have hnow:st.now=⟨#[]⟩:=ByteArray.ext (Array.eq_empty_of_size_eq_zero hz)
   have HP:Hid (PX s .atom (.ok st) (.error st.pos) none):=⟨1,.error st.pos,by
    have hat:=at7 (s:=s) (f:=0) h1 h2 h34 h5 (fun h=>by omega) (fun h=>by omega)
    rw [hnow] at hat
    exact hat,rfl⟩
   have HF:=hid (rfFail_ok R s st.i st.pos st.pos st.now w1 HGD.out)
   rw [hnow] at x3
   clear h1 h2 h3 h4 h5 h34 hz hnow
   go_enter Tryz.func198,Tryz.ntmps198
   go_wp2_with fail
   clear hw1
   refine HF.out.mono ?_
   rintro e w2 ⟨hk2,rfl,hr2⟩
   have HK2:=hid (HK1.out.trans hk2)
   have HA2:=hid (HA1.out.keepR hk2 (by omega))
   have HR2:=hid hr2
   clear HF hk2 hr2 x2 x3 x4
   have o0:=HA2.out.cell (j:=0) (by simp)
   have o1:=HA2.out.cell (j:=1) (by simp)
   have o2:=HA2.out.cell (j:=2) (by simp)
   have o3:=HA2.out.cell (j:=3) (by simp)
   simp only [gE0,gE1] at o0 o1 o2 o3
   have f0:=HA2.out.frozen 0
   have f1:=HA2.out.frozen 1
   have f2:=HA2.out.frozen 2
   have f3:=HA2.out.frozen 3
   go_wp2_with fail
   exact rf_ret (t:=none) rfl rfl HK2.out hRw HR2.out HA2.out ⟨0,_,_,_,_,_,rfl⟩ HP.out
  have e0':¬st.now.toList=[]:=tol_ne (x:=⟨#[]⟩) (fun h=>hz (by rw [h];rfl)) rfl
  have e0:(st.now.toList==[])=false:=by simpa using e0'
  have e0'':st.now.toList.isEmpty=false:=by simpa using e0'
  have h0:0<st.now.size:=by omega
  have i0:(0:Int)<(st.now.size:Int):=by omega
  obtain ⟨c,hc⟩:∃c,st.now[0]'h0=c:=⟨_,rfl⟩
  have hhd:st.now.data.toList.headD 0=c:=by
   rw [<-List.drop_zero (l:=st.now.data.toList),drop_cons st.now 0 h0,hc];rfl
  have HN1:=hid (rfIs_no R s st trueS w1 h1 HR1.out)
  have HN2:=hid (rfIs_no R s st falseS w1 h2 HR1.out)
  have HN3:=hid (rfIs_no R s st openS w1 h3 HR1.out)
  have HN4:=hid (rfIs_no R s st doneS w1 h4 HR1.out)
  have HN5:=hid (rfIs_no R s st lparS w1 h5 HR1.out)
  have hc2:((st.now[0]'h0).toNat:Int)=(c.toNat:Int):=by rw [hc]
  by_cases hd:digitB c=true
  ·obtain ⟨hne,hall,hle⟩:=tok_digits HG0.out.tok h0 (by rw [hhd];exact hd)
   have hd':48<=c.toNat/\c.toNat<=57:=by simpa [digitB] using hd
   have d1:48<=((st.now[0]'h0).toNat:Int):=by omega
   have d2:((st.now[0]'h0).toNat:Int)<=57:=by omega
   have HAT:=hid (at5 (s:=s) (f:=0) h1 h2 h34 h5 ⟨h0,by rw [hhd];exact hd⟩)
   have hgt:19<st.now.size->9223372036854775807<spell 0 st.now.data.toList:=fun h=>by
    by_cases h48:c.toNat=48
    ·exfalso
     rcases HG0.out.tok with ht | ⟨l,hl,hlo⟩
     ·omega
     match l,hl,hlo with
     | [],_,hlo=>exact absurd hlo (by decide)
     | c' :: r,hl,hlo =>
      have hcc:c'=c:=by
       rw [hl] at hhd
       obtain ⟨m,hm⟩:∃m,longB (c' :: r)=m+1:=⟨longB (c' :: r)-1,by omega⟩
       rw [hm] at hhd
       exact hhd
      subst hcc
      have h48':c'=48:=UInt8.toNat_inj.1 h48
      subst h48'
      have hlen:=congrArg List.length hl
      rw [ba_len,List.length_take] at hlen
      have h1:longB (48 :: r)=1:=by rw [longB,if_pos (by decide)]
      omega
    exact spell_great (by rw [hhd];omega) (by rw [ba_len];exact h)
   have HINT:=hid (fun W=>rfInt_walk st.now W (by have:=HG0.out.short;omega) hne hall hgt)
   have HLE:=hid hle
   have HSP:=hid (rfStep_ok R s st w1 hs HG0.out.le HR1.out)
   clear h1 h2 h3 h4 h5 h34 hz hne hall hle hgt hd hd' hhd hc hc2
   go_enter Tryz.func198,Tryz.ntmps198
   go_wp2_with fail
   clear hw1
   refine HN1.out.mono ?_
   rintro e w2 ⟨rfl,rfl⟩
   clear HN1
   go_wp2_with fail
   refine HN2.out.mono ?_
   rintro e w2 ⟨rfl,rfl⟩
   clear HN2
   go_wp2_with fail
   refine HN3.out.mono ?_
   rintro e w2 ⟨rfl,rfl⟩
   clear HN3
   go_wp2_with fail
   refine HN4.out.mono ?_
   rintro e w2 ⟨rfl,rfl⟩
   clear HN4
   go_wp2_with fail
   refine HN5.out.mono ?_
   rintro e w2 ⟨rfl,rfl⟩
   clear HN5
   go_wp2_with fail
   refine (HINT.out _).mono ?_
   rintro e w2 ⟨⟨n,b,rfl,rfl,hn⟩,rfl⟩
   obtain rfl:=hn (decide_eq_true HLE.out)
   rw [decide_eq_true HLE.out]
   clear HINT hn
   go_wp2_with fail
   refine HSP.out.mono ?_
   rintro e w2 ⟨hk2,rfl,hr2⟩
   have HK2:=hid (HK1.out.trans hk2)
   have HA2:=hid (HA1.out.keepR hk2 (by omega))
   have HR2:=hid hr2
   clear HSP hk2 hr2 x2 x3 x4
   have o0:=HA2.out.cell (j:=0) (by simp)
   have o1:=HA2.out.cell (j:=1) (by simp)
   have o2:=HA2.out.cell (j:=2) (by simp)
   have o3:=HA2.out.cell (j:=3) (by simp)
   simp only [gE0,gE1] at o0 o1 o2 o3
   have f0:=HA2.out.frozen 0
   have f1:=HA2.out.frozen 1
   have f2:=HA2.out.frozen 2
   have f3:=HA2.out.frozen 3
   go_wp2_with fail
   exact rf_ret (t:=some (.leaf 3 (spell 0 st.now.data.toList) ⟨#[]⟩)) rfl rfl HK2.out hRw HR2.out HA2.out rfl (px_leaf HAT.out HST.out HG0.out.pos)
  have hd':¬(48<=c.toNat/\c.toNat<=57):=by simpa [digitB] using hd
  have h5':¬(0<st.now.size/\digitB (st.now.data.toList.headD 0)=true):=fun h=>hd (by rw [<-hhd];exact h.2)
  by_cases hq:c=39
  ·have h2s:=tok_quote HG0.out.tok h0 (by rw [hhd];exact hq)
   have HAT:=hid (at6 (s:=s) (f:=0) h1 h2 h34 h5 h5' ⟨h0,by rw [hhd];exact hq⟩)
   have hcq:c.toNat=39:=by rw [hq];rfl
   have d1:¬48<=((st.now[0]'h0).toNat:Int):=by omega
   have d39:(((st.now[0]'h0).toNat:Int)==39)=true:=by rw [hc2,hcq];rfl
   have hsh:=HG0.out.short
   have wr1:IntKind.i64.wrap ((st.now.size:Int)-1)=((st.now.size-1:Nat):Int):=by rw [wrap_i64 (by omega) (by omega)];omega
   have i4:(1:Int)<=(st.now.size:Int)-1:=by omega
   have i5:(st.now.size:Int)-1<=(st.now.size:Int):=by omega
   have HSP:=hid (rfStep_ok R s st w1 hs HG0.out.le HR1.out)
   clear h1 h2 h3 h4 h5 h34 hz hd hd' hhd hc hc2 hq hcq h5' h2s hsh
   go_enter Tryz.func198,Tryz.ntmps198
   go_wp2_with fail
   clear hw1
   refine HN1.out.mono ?_
   rintro e w2 ⟨rfl,rfl⟩
   clear HN1
   go_wp2_with fail
   refine HN2.out.mono ?_
   rintro e w2 ⟨rfl,rfl⟩
   clear HN2
   go_wp2_with fail
   refine HN3.out.mono ?_
   rintro e w2 ⟨rfl,rfl⟩
   clear HN3
   go_wp2_with fail
   refine HN4.out.mono ?_
   rintro e w2 ⟨rfl,rfl⟩
   clear HN4
   go_wp2_with fail
   refine HN5.out.mono ?_
   rintro e w2 ⟨rfl,rfl⟩
   clear HN5
   go_wp2_with fail
   refine HSP.out.mono ?_
   rintro e w2 ⟨hk2,rfl,hr2⟩
   have HK2:=hid (HK1.out.trans hk2)
   have HA2:=hid (HA1.out.keepR hk2 (by omega))
   have HR2:=hid hr2
   clear HSP hk2 hr2 x2 x3 x4
   have o0:=HA2.out.cell (j:=0) (by simp)
   have o1:=HA2.out.cell (j:=1) (by simp)
   have o2:=HA2.out.cell (j:=2) (by simp)
   have o3:=HA2.out.cell (j:=3) (by simp)
   simp only [gE0,gE1] at o0 o1 o2 o3
   have f0:=HA2.out.frozen 0
   have f1:=HA2.out.frozen 1
   have f2:=HA2.out.frozen 2
   have f3:=HA2.out.frozen 3
   go_wp2_with fail
   exact rf_ret (t:=some (.leaf 4 0 (st.now.extract 1 (st.now.size-1)))) rfl rfl HK2.out hRw HR2.out HA2.out rfl (px_leaf HAT.out HST.out HG0.out.pos)
  have h6':¬(0<st.now.size/\st.now.data.toList.headD 0=39):=fun h=>hq (by rw [<-hhd];exact h.2)
  have HAT:=hid (at7 (s:=s) (f:=0) h1 h2 h34 h5 h5' h6')
  have d39:(((st.now[0]'h0).toNat:Int)==39)=false:=by
   rw [beq_eq_false_iff_ne]
   intro h
   exact hq (UInt8.toNat_inj.1 (by have:(39:UInt8).toNat=39:=rfl;omega))
  have hdd:(¬48<=((st.now[0]'h0).toNat:Int))\/(48<=((st.now[0]'h0).toNat:Int)/\¬((st.now[0]'h0).toNat:Int)<=57):=by omega
  have HNM:=hid (rfName_ok R s st w1 hs HG0.out HR1.out)
  clear h1 h2 h3 h4 h5 h34 hz hd hd' hhd hc hc2 hq h5' h6'
  rcases hdd with d1 | ⟨d1,d2⟩
  all_goals
   go_enter Tryz.func198,Tryz.ntmps198
   go_wp2_with fail
   clear hw1
   refine HN1.out.mono ?_
   rintro e w2 ⟨rfl,rfl⟩
   clear HN1
   go_wp2_with fail
   refine HN2.out.mono ?_
   rintro e w2 ⟨rfl,rfl⟩
   clear HN2
   go_wp2_with fail
   refine HN3.out.mono ?_
   rintro e w2 ⟨rfl,rfl⟩
   clear HN3
   go_wp2_with fail
   refine HN4.out.mono ?_
   rintro e w2 ⟨rfl,rfl⟩
   clear HN4
   go_wp2_with fail
   refine HN5.out.mono ?_
   rintro e w2 ⟨rfl,rfl⟩
   clear HN5
   go_wp2_with fail
   refine HNM.out.mono ?_
   rintro e w2 ⟨y,⟨hk2,rfl,hr2⟩,hy⟩
   have HK2:=hid (HK1.out.trans hk2)
   have HA2:=hid (HA1.out.keepR hk2 (by omega))
   have HR2:=hid hr2
   have HY:=hid hy
   clear HNM hk2 hr2 x2 x3 x4 hy
   have o0:=HA2.out.cell (j:=0) (by simp)
   have o1:=HA2.out.cell (j:=1) (by simp)
   have o2:=HA2.out.cell (j:=2) (by simp)
   have o3:=HA2.out.cell (j:=3) (by simp)
   simp only [gE0,gE1] at o0 o1 o2 o3
   have f0:=HA2.out.frozen 0
   have f1:=HA2.out.frozen 1
   have f2:=HA2.out.frozen 2
   have f3:=HA2.out.frozen 3
   go_wp2_with fail
   refine rf_ret (t:=some (.leaf 5 0 y)) rfl rfl HK2.out hRw HR2.out HA2.out rfl ?_
   have hat:=HAT.out
   by_cases hnm:namedG st.now=true
   ·obtain rfl:=HY.out hnm
    exact px_leaf hat (fun st1 h=>by rw [if_pos hnm] at h;exact HST.out st1 h) HG0.out.pos
   rw [if_neg hnm] at hat ⊢
   exact ⟨1,_,hat,rfl⟩
theorem rf_all {R:Nat} {s:ByteArray} (hs:s.size<=17000):∀N,SubX R s N 94 .guard/\SubX R s N 159 .part:=by
 intro N
 induction N using Nat.strongRecOn with
 | ind N ih =>
  have hpart:=rf_part hs (rf_sum hs (rf_product hs (rf_atom hs fun M h=>(ih M h).1))) (fun M h=>(ih M h).2)
  exact ⟨rf_guard hs (rf_side hs hpart),hpart⟩
theorem rf_end {W:World} {a:Act} {g:Nat} {cs:List Value} {n c:Int} {R:Ending->World->Prop} (h2:a.tmps.getD 2 undef=.pointer (some ⟨g,0,none⟩)) (h3:a.tmps.getD 3 undef=.int .i64 n) (h4:a.tmps.getD 4 undef=.int .i64 c) (hd:a.defers=[]) (hF:Four cs)
  (hg:Arr W g 80 cs) (hR:R (.returned (.tuple #[.agg cs.toArray,.int .i64 n,.int .i64 c])) W):bodyPost Tryz.prog Tryz.f63 R .ret a W:=by
 obtain ⟨k0,n0,s0,a0,l0,c0,rfl⟩:=hF
 refine bodyPost_ret ?_ hd hR
 have h2':a.tmps[2]?.getD undef=.pointer (some ⟨g,0,none⟩):=by simpa using h2
 have h3':a.tmps[3]?.getD undef=.int .i64 n:=by simpa using h3
 have h4':a.tmps[4]?.getD undef=.int .i64 c:=by simpa using h4
 have x0:=hg.cell (j:=0) (by simp)
 have x1:=hg.cell (j:=1) (by simp)
 have x2:=hg.cell (j:=2) (by simp)
 have x3:=hg.cell (j:=3) (by simp)
 simp only [gE0,gE1] at x0 x1 x2 x3
 simp [results,Tryz.results63,h2',h3',h4',go_sem,x0,x1,x2,x3]
theorem zero_four:Four zeroG:=⟨0,0,⟨#[]⟩,none,0,0,rfl⟩
theorem readG_err1 {s:ByteArray} {a:Nat} (h:stepB s 0=.error a):readG s 0=some (.error (a,170)):=by rw [readG,h]
theorem readG_err2 {s:ByteArray} {a fu:Nat} {st:GSt} (h:stepB s 0=.ok st) (hp:pars s fu .guard st=some (.error a)):readG s fu=some (.error (a,170)):=by rw [readG,h];simp only;rw [hp]
theorem readG_more {s:ByteArray} {fu:Nat} {st st1:GSt} {g:GT} (h:stepB s 0=.ok st) (hp:pars s fu .guard st=some (.ok (g,st1))) (hn:st1.now.size≠0):readG s fu=some (.error (st1.pos,170)):=by rw [readG,h];simp only;rw [hp];simp only;rw [if_pos hn]
theorem readG_deep {s:ByteArray} {fu:Nat} {st st1:GSt} {g:GT} (h:stepB s 0=.ok st) (hp:pars s fu .guard st=some (.ok (g,st1))) (hn:¬st1.now.size≠0) (hd:32<g.deep):readG s fu=some (.error (0,161)):=by rw [readG,h];simp only;rw [hp];simp only;rw [if_neg hn,if_pos hd]
theorem readG_ok {s:ByteArray} {fu:Nat} {st st1:GSt} {g:GT} (h:stepB s 0=.ok st) (hp:pars s fu .guard st=some (.ok (g,st1))) (hn:¬st1.now.size≠0) (hd:¬32<g.deep):readG s fu=some (.ok g):=by rw [readG,h];simp only;rw [hp];simp only;rw [if_neg hn,if_neg hd]
def PxRead (s:ByteArray) (t:Option GT):Except Nat GSt->Prop
 | .error a=>∃fu,readG s fu=some (.error (a,170))
 | .ok st=>∃g,t=some g/\GS s st/\g.deep<=20000+s.size/\∃fu st0,stepB s 0=.ok st0/\pars s fu .guard st0=some (.ok (g,st))
theorem px_read {s:ByteArray} {x:Except Nat GSt} {t:Option GT} (h:PX s .guard (stepB s 0) x t):PxRead s t x:=by
 cases hs:stepB s 0 with
 | error a =>
  rw [hs] at h
  obtain rfl:x=.error a:=h
  exact ⟨0,readG_err1 hs⟩
 | ok st0 =>
  rw [hs] at h
  obtain ⟨fu,r,hp,hr⟩:=h
  cases r with
  | error a =>
   obtain rfl:x=.error a:=hr
   exact ⟨fu,readG_err2 hs hp⟩
  | ok gs =>
   obtain ⟨g,st1⟩:=gs
   obtain ⟨rfl,rfl,h1,h2⟩:=hr
   have hg0:=(step_gs (Nat.zero_le _) hs).1
   have hd:=(pars_deep s fu .guard st0 g st1 hg0 hp).2
   exact ⟨g,rfl,h1,by have:=h1.le;have:=h1.pos;omega,fu,st0,hs,hp⟩
theorem rfRead_walk (s:ByteArray) (w:World) (hs:s.size<=17000):Calls Tryz.prog 63 #[.string s] w (ReadEnd s w):=by
 by_cases hbig:16384<s.size
 ·have i1:(16384:Int)<(s.size:Int):=by omega
  have HE:=hid hbig
  clear hbig
  have hA:=Arr.new w zeroG 80
  go_enter Tryz.func63,Tryz.ntmps63
  go_wp2_with fail
  refine rf_end rfl rfl rfl rfl zero_four (g:=w.heap.size) hA ?_
  refine ⟨(Below.refl w.heap.size w).alloc (Nat.le_refl _) _,?_⟩
  rw [if_pos HE.out]
 have i1:¬(16384:Int)<(s.size:Int):=by omega
 have HBIG:=hid hbig
 clear hbig
 obtain ⟨w2,hw2⟩:∃w2,(w.alloc (.cells zeroG.toArray 80)).alloc (.cells #[.string s,.int .i64 0,.int .i64 0,.string ⟨#[]⟩,.bool false,.int .i64 0] 155)=w2:=⟨_,rfl⟩
 have hA2:Arr w2 w.heap.size 80 zeroG:=hw2▸(Arr.new w zeroG _).alloc _
 have hB2:Below w.heap.size w w2:=hw2▸((Below.refl w.heap.size w).alloc (Nat.le_refl _) _).alloc (by rw [size_alloc];omega) _
 have hR2:RfIs (w.heap.size+1) w2 s (.ok ⟨0,0,⟨#[]⟩⟩):=hw2▸⟨alloc_at (by rw [size_alloc])⟩
 have HS:=hid (rfStep (w.heap.size+1) s (.ok ⟨0,0,⟨#[]⟩⟩) w2 hs (fun st h=>by cases h;exact Nat.zero_le _) hR2)
 have HA2:=hid hA2
 have HB2:=hid hB2
 have HW2:=hid hw2
 have HZ2:=hid hR2.lt
 clear hA2 hB2 hR2 hw2
 go_enter Tryz.func63,Tryz.ntmps63
 go_upto_region 4 with fail
 rw [HW2.out]
 go_wp2_with fail
 refine HS.out.mono ?_
 rintro e w3 ⟨hk3,rfl,hr3⟩
 have hx1:GSX s (stepB s 0):=fun st h=>(step_gs (Nat.zero_le _) h).1
 have HG:=hid ((rf_all (R:=w.heap.size+1) hs (s.size+1)).1 (stepB s 0) w3 (fun st _=>by omega) hx1 hr3)
 have HA3:=hid (HA2.out.keepR hk3 (by omega))
 have HB3:=hid (HB2.out.trans (hk3.below (B:=w.heap.size) (by omega) HB2.out.size))
 have hz3:w.heap.size+1<w3.heap.size:=hr3.lt
 clear HS hk3 hr3 hx1
 go_wp2_with fail
 refine HG.out.mono ?_
 rintro e w4 ⟨hk4,x4,t4,cs4,rfl,hx4,hr4,hp4⟩
 obtain ⟨k4,n4,s4,a4,l4,c4,rfl⟩:=hx4.four
 have hz4:w.heap.size+1<w4.heap.size:=hr4.lt
 have HP:=hid (px_read hp4)
 have HA5:=hid ((HA3.out.keepR hk4 (by omega)).alloc (.cells #[.int .u8 k4,.int .i64 n4,.string s4,.slice a4 l4 c4] 80))
 have hb5:=(Below.refl w4.heap.size w4).alloc (Nat.le_refl _) (.cells #[.int .u8 k4,.int .i64 n4,.string s4,.slice a4 l4 c4] 80)
 have HB5:=hid ((HB3.out.trans (hk4.below (B:=w.heap.size) (by omega) HB3.out.size)).trans (hb5.mono (by omega)))
 have HG5:=hid (Arr.new w4 [.int .u8 k4,.int .i64 n4,.string s4,.slice a4 l4 c4] 80)
 have HX5:=hid (hx4.below hb5)
 have HR5:=hid (hr4.below hb5)
 clear HG hk4 hx4 hr4 hp4 hb5
 cases x4 with
 | error a =>
  have HR:=HR5.out
  obtain ⟨i',p',HR⟩:=HR
  obtain ⟨x0,x1,x2,x3,x4,x5⟩:=rf_cells HR
  have f0:=HA5.out.frozen 0
  have f1:=HA5.out.frozen 1
  have f2:=HA5.out.frozen 2
  have f3:=HA5.out.frozen 3
  have o0:=HA5.out.cell (j:=0) (by simp)
  have o1:=HA5.out.cell (j:=1) (by simp)
  have o2:=HA5.out.cell (j:=2) (by simp)
  have o3:=HA5.out.cell (j:=3) (by simp)
  simp only [gE0,gE1] at o0 o1 o2 o3
  clear HR
  go_wp2_with fail
  go_region_held3 (fun w'=>w'.cell? ⟨w.heap.size+1,5,none⟩=some (.int .i64 (a:Int))) (first | exact x5 | go_keep) (fail)
  go_wp2_with fail
  refine rf_end rfl rfl rfl rfl zero_four (g:=w.heap.size) ((((HA5.out.set 0 _).set 1 _).set 2 _).set 3 _).drew ?_
  refine ⟨((((HB5.out.setCell (p:=⟨w.heap.size,0,none⟩) (Nat.le_refl _) _).setCell (p:=⟨w.heap.size,1,none⟩) (Nat.le_refl _) _).setCell (p:=⟨w.heap.size,2,none⟩) (Nat.le_refl _) _).setCell (p:=⟨w.heap.size,3,none⟩) (Nat.le_refl _) _).drew,?_⟩
  rw [if_neg HBIG.out]
  obtain ⟨fu,hfu⟩:=HP.out
  exact ⟨fu,_,hfu,rfl⟩
 | ok st =>
  obtain ⟨g,rfl,hg,hd,hfu⟩:=HP.out
  have HR:=HR5.out
  replace HR:Arr (w4.alloc (.cells #[.int .u8 k4,.int .i64 n4,.string s4,.slice a4 l4 c4] 80)) (w.heap.size+1) 155 [.string s,.int .i64 (st.i:Int),.int .i64 (st.pos:Int),.string st.now,.bool false,.int .i64 0]:=HR
  obtain ⟨x0,x1,x2,x3,x4,x5⟩:=rf_cells HR
  have HFU:=hid hfu
  have HG:=hid hg
  clear HP hfu hg
  by_cases hn0:st.now.size=0
  ·have e0':st.now.toList=[]:=by rw [Go.ByteArray.toList_eq];exact List.eq_nil_of_length_eq_zero hn0
   have e0:(st.now.toList==[])=true:=by rw [e0'];rfl
   have HN0:=hid hn0
   have HIN:=hid (GIs.gin (show GIs _ _ g _ from HX5.out))
   have HDW:=hid (rfDeep_walk 100000 g.toGD _ _ (by rw [toGD_deep];omega) (by omega) HIN.out)
   have y0:=HG5.out.cell (j:=0) (by simp)
   have y1:=HG5.out.cell (j:=1) (by simp)
   have y2:=HG5.out.cell (j:=2) (by simp)
   have y3:=HG5.out.cell (j:=3) (by simp)
   simp only [gE0,gE1] at y0 y1 y2 y3
   clear hn0 HR
   go_wp2_with fail
   refine HDW.out.mono ?_
   rintro e w6 ⟨rfl,hb6⟩
   rw [toGD_deep]
   have HA6:=hid (Arr.below HA5.out hb6 HA5.out.lt)
   have HB6:=hid (HB5.out.trans (hb6.mono HB5.out.size))
   have HX6:=hid (GX.below hb6 HX5.out)
   have HG6:=hid (Arr.below HG5.out hb6 HG5.out.lt)
   clear hb6 HDW HIN x0 x1 x2 x3 x4 x5 y0 y1 y2 y3
   have y0:=HG6.out.cell (j:=0) (by simp)
   have y1:=HG6.out.cell (j:=1) (by simp)
   have y2:=HG6.out.cell (j:=2) (by simp)
   have y3:=HG6.out.cell (j:=3) (by simp)
   have o0:=HA6.out.cell (j:=0) (by simp)
   have o1:=HA6.out.cell (j:=1) (by simp)
   have o2:=HA6.out.cell (j:=2) (by simp)
   have o3:=HA6.out.cell (j:=3) (by simp)
   have f0:=HA6.out.frozen 0
   have f1:=HA6.out.frozen 1
   have f2:=HA6.out.frozen 2
   have f3:=HA6.out.frozen 3
   simp only [gE0,gE1] at y0 y1 y2 y3 o0 o1 o2 o3
   by_cases h32:32<g.deep
   ·have i2:(32:Int)<(g.deep:Int):=by omega
    have H32:=hid h32
    clear h32
    go_wp2_with fail
    refine rf_end rfl rfl rfl rfl zero_four (g:=w.heap.size) ((((HA6.out.set 0 _).set 1 _).set 2 _).set 3 _) ?_
    refine ⟨(((HB6.out.setCell (p:=⟨w.heap.size,0,none⟩) (Nat.le_refl _) _).setCell (p:=⟨w.heap.size,1,none⟩) (Nat.le_refl _) _).setCell (p:=⟨w.heap.size,2,none⟩) (Nat.le_refl _) _).setCell (p:=⟨w.heap.size,3,none⟩) (Nat.le_refl _) _,?_⟩
    rw [if_neg HBIG.out]
    obtain ⟨fu,st0,h1,h2⟩:=HFU.out
    exact ⟨fu,_,readG_deep h1 h2 (by rw [HN0.out];decide) H32.out,rfl⟩
   have i2:¬(32:Int)<(g.deep:Int):=by omega
   have H32:=hid h32
   clear h32
   go_wp2_with fail
   refine rf_end rfl rfl rfl rfl ⟨k4,n4,s4,a4,l4,c4,rfl⟩ (g:=w.heap.size) ((((HA6.out.set 0 _).set 1 _).set 2 _).set 3 _) ?_
   refine ⟨(((HB6.out.setCell (p:=⟨w.heap.size,0,none⟩) (Nat.le_refl _) _).setCell (p:=⟨w.heap.size,1,none⟩) (Nat.le_refl _) _).setCell (p:=⟨w.heap.size,2,none⟩) (Nat.le_refl _) _).setCell (p:=⟨w.heap.size,3,none⟩) (Nat.le_refl _) _,?_⟩
   rw [if_neg HBIG.out]
   obtain ⟨fu,st0,h1,h2⟩:=HFU.out
   refine ⟨fu,_,readG_ok h1 h2 (by rw [HN0.out];decide) H32.out,_,rfl,?_⟩
   have hx:GIs (fun k=>k<w3.heap.size) w6 g [.int .u8 k4,.int .i64 n4,.string s4,.slice a4 l4 c4]:=HX6.out
   exact (GIs.setCell (p:=⟨w.heap.size,3,none⟩) (show w.heap.size<w3.heap.size by omega) _ (GIs.setCell (p:=⟨w.heap.size,2,none⟩) (show w.heap.size<w3.heap.size by omega) _ (GIs.setCell (p:=⟨w.heap.size,1,none⟩) (show w.heap.size<w3.heap.size by omega) _ (GIs.setCell (p:=⟨w.heap.size,0,none⟩) (show w.heap.size<w3.heap.size by omega) _ hx)))).mono fun k _ (hy:k<w.heap.size)=>show k<w3.heap.size by omega
  have e0':¬st.now.toList=[]:=by rw [Go.ByteArray.toList_eq];intro h;exact hn0 (by rw [<-ba_len,h];rfl)
  have e0:(st.now.toList==[])=false:=by simpa using e0'
  have HFL:=hid (rfFail_ok (w.heap.size+1) s st.i st.pos st.pos st.now _ HR)
  have HN0:=hid hn0
  clear hn0 HR
  go_wp2_with fail
  refine HFL.out.mono ?_
  rintro e w6 ⟨hk6,rfl,hr6⟩
  have HA6:=hid (HA5.out.keepR hk6 (by omega))
  have HB6:=hid (HB5.out.trans (hk6.below (B:=w.heap.size) (by omega) HB5.out.size))
  obtain ⟨i',p',hr6⟩:=hr6
  clear hk6 x0 x1 x2 x3 x4 x5 HFL
  obtain ⟨x0,x1,x2,x3,x4,x5⟩:=rf_cells hr6
  have f0:=HA6.out.frozen 0
  have f1:=HA6.out.frozen 1
  have f2:=HA6.out.frozen 2
  have f3:=HA6.out.frozen 3
  have o0:=HA6.out.cell (j:=0) (by simp)
  have o1:=HA6.out.cell (j:=1) (by simp)
  have o2:=HA6.out.cell (j:=2) (by simp)
  have o3:=HA6.out.cell (j:=3) (by simp)
  simp only [gE0,gE1] at o0 o1 o2 o3
  clear hr6
  go_wp2_with fail
  go_region_held3 (fun w'=>w'.cell? ⟨w.heap.size+1,5,none⟩=some (.int .i64 (st.pos:Int))) (first | exact x5 | go_keep) (fail)
  go_wp2_with fail
  refine rf_end rfl rfl rfl rfl zero_four (g:=w.heap.size) ((((HA6.out.set 0 _).set 1 _).set 2 _).set 3 _).drew ?_
  refine ⟨((((HB6.out.setCell (p:=⟨w.heap.size,0,none⟩) (Nat.le_refl _) _).setCell (p:=⟨w.heap.size,1,none⟩) (Nat.le_refl _) _).setCell (p:=⟨w.heap.size,2,none⟩) (Nat.le_refl _) _).setCell (p:=⟨w.heap.size,3,none⟩) (Nat.le_refl _) _).drew,?_⟩
  rw [if_neg HBIG.out]
  obtain ⟨fu,st0,h1,h2⟩:=HFU.out
  exact ⟨fu,_,readG_more h1 h2 HN0.out,rfl⟩
theorem rfNamed_walkA (s:ByteArray) (w:World) :
  Calls Tryz.prog 27 #[.string s] w fun e w'=>e=.returned (.bool (namedG s))/\Below w.heap.size w w':=by
 by_cases hs:s.size<=maxLen
 ·refine (rfNamed_walk s w hs).mono ?_
  rintro e w' ⟨rfl,rfl⟩
  exact ⟨rfl,Below.refl _ _⟩
 unfold maxLen at hs
 obtain ⟨R,hR⟩:∃R,namedG s=R:=⟨_,rfl⟩
 rw [hR]
 have HR:Hid (R=false):=by
  show _=_
  rw [<-hR,namedG,decide_eq_false (show ¬s.size<=32 by omega)]
  simp
 have hne:¬s.toList=[]:=fun h=>by
  rw [Go.ByteArray.toList_eq] at h
  have:s.size=0:=by rw [<-ba_len,h];rfl
  omega
 have hz:s.toList.isEmpty=false:=by simpa using hne
 have i0:(0:Int)<(s.size:Int):=by omega
 have hl:32<(s.size:Int):=by omega
 clear hR
 go_enter Tryz.func27,Tryz.ntmps27
 go_wp2
 go_ret
 exact ⟨ret_bool HR.out.symm,Below.refl _ _⟩
theorem rfRead_walkA (s:ByteArray) (w:World):Calls Tryz.prog 63 #[.string s] w (ReadEnd s w):=by
 by_cases hbig:16384<s.size
 ·have i1:(16384:Int)<(s.size:Int):=by omega
  have HE:=hid hbig
  clear hbig
  have hA:=Arr.new w zeroG 80
  go_enter Tryz.func63,Tryz.ntmps63
  go_wp2_with fail
  refine rf_end rfl rfl rfl rfl zero_four (g:=w.heap.size) hA ?_
  refine ⟨(Below.refl w.heap.size w).alloc (Nat.le_refl _) _,?_⟩
  rw [if_pos HE.out]
 exact rfRead_walk s w (by omega)
def kidsK (K:Nat):Nat:=if K<=7 then 0 else if K=8 then 1 else 2
theorem rfMany_walk (K:Nat) (hK:1<=K/\K<=15) (w:World):Calls Tryz.prog 160 #[.int .u8 (K:Int)] w fun e w'=>e=.returned (.int .i64 (kidsK K:Int))/\Below w.heap.size w w':=by
 obtain ⟨q,hq⟩:∃q,kidsK K=q:=⟨_,rfl⟩
 rw [hq]
 have h1:(1:Int)<=(K:Int):=by omega
 unfold kidsK at hq
 by_cases h7:K<=7
 ·have h2:(K:Int)<=7:=by omega
  have HQ:Hid ((0:Int)=(q:Int)):=by show _=_;rw [<-hq,if_pos h7];rfl
  clear hq h7 hK
  go_enter Tryz.func160,Tryz.ntmps160
  go_wp2
  go_ret
  exact ⟨ret_int HQ.out,Below.refl _ _⟩
 have h2:¬(K:Int)<=7:=by omega
 by_cases h8:K=8
 ·have HQ:Hid ((1:Int)=(q:Int)):=by show _=_;rw [<-hq,if_neg h7,if_pos h8];rfl
  have e8:((K:Int)==8)=true:=by subst h8;rfl
  clear hq h7 hK h8
  go_enter Tryz.func160,Tryz.ntmps160
  go_wp2
  go_ret
  exact ⟨ret_int HQ.out,Below.refl _ _⟩
 have HQ:Hid ((2:Int)=(q:Int)):=by show _=_;rw [<-hq,if_neg h7,if_neg h8];rfl
 have e8:((K:Int)==8)=false:=by simp;omega
 have h9:(9:Int)<=(K:Int):=by omega
 have h15:(K:Int)<=15:=by omega
 clear hq h7 hK h8
 go_enter Tryz.func160,Tryz.ntmps160
 go_wp2
 go_ret
 exact ⟨ret_int HQ.out,Below.refl _ _⟩
def OwnOk (K:Nat) (n:Int) (tx:ByteArray):Prop:=(1<=K/\K<=15)/\(n=0\/(0<n/\K=3))/\(((K=5\/K=6\/K=7)/\namedG tx=true)\/(K=4/\tx.data.toList.all quotB=true)\/((K<=3\/8<=K)/\tx=⟨#[]⟩))
theorem rfMay_gen (K:Nat) (n:Int) (tx:ByteArray) (g:GD) (cs:List Value) (w:World) (hO:OwnOk K n tx) (hg:g=.node K n tx g.kids) (hL:g.kids.length=kidsK K) (hz:g.size<=1000000) (h:GIn w g cs)
  (ih:∀m (hm:m<g.kids.length) (cs:List Value) (W:World),GIn W g.kids[m] cs->Calls Tryz.prog 127 #[.agg cs.toArray] W fun e w'=>e=.returned (.bool true)/\Below W.heap.size W w') :
  Calls Tryz.prog 127 #[.agg cs.toArray] w fun e w'=>e=.returned (.bool true)/\Below w.heap.size w w':=by
 obtain ⟨k,n',sx,a,c,b,off,heg,rfl,hl,-,hb,hk⟩:=h.kid
 rw [hg] at heg
 simp only [GD.node.injEq] at heg
 obtain ⟨rfl,rfl,rfl,-⟩:=heg
 have HK:=hid hk
 have HIH:=hid ih
 have htx:tx.size<=1000000:=by rw [hg] at hz;simp only [GD.size] at hz;omega
 have HMY:=hid (fun W=>rfMany_walk K hO.1 W)
 obtain ⟨l,hl'⟩:∃l,g.kids.length=l:=⟨_,rfl⟩
 rw [<-hL] at HMY
 rw [hl'] at hb hl HMY ⊢
 have HL:=hid hl'
 unfold maxLen at hl
 have hl2:l<=2:=by rw [<-hl',hL];unfold kidsK;split<;>(try split)<;>omega
 obtain ⟨w1,hw1⟩:∃w1,w.alloc (.cells #[.int .u8 K,.int .i64 n,.string tx,.slice a l c] 80)=w1:=⟨_,rfl⟩
 have hb1:Below w.heap.size w w1:=hw1▸(Below.refl _ _).alloc (Nat.le_refl _) _
 have hx1:Arr w1 w.heap.size 80 [.int .u8 K,.int .i64 n,.string tx,.slice a l c]:=hw1▸Arr.new w [.int .u8 K,.int .i64 n,.string tx,.slice a l c] _
 have HB1:=hid hb1
 have HX1:=hid hx1
 have HW1:=hid hw1
 have HSW:Hid (∀W',Below w1.heap.size w1 W'->(Below w1.heap.size w1 W'/\W'.cell? ⟨w.heap.size,0,none⟩=some (.int .u8 K)/\W'.cell? ⟨w.heap.size,1,none⟩=some (.int .i64 n)/\W'.cell? ⟨w.heap.size,2,none⟩=some (.string tx)/\W'.cell? ⟨w.heap.size,3,none⟩=some (.slice a l c))):=fun W' hb=>⟨hb,box4 hx1 hb⟩
 have HO:=hid hO
 have e0:((l:Int) != (l:Int))=false:=by simp
 have hq0:=(Below.refl w1.heap.size w1).drew
 clear hk hl' h hb1 hx1 hw1 hg hL hz ih hO
 go_enter Tryz.func127,Tryz.ntmps127
 go_upto_region 1 with fail
 rw [HW1.out]
 go_cut [10] (fun t wx=>t=.bool false/\Hid (Below w1.heap.size w1 wx))
 case first =>
  go_region_held3 (fun W'=>Below w1.heap.size w1 W'/\W'.cell? ⟨w.heap.size,0,none⟩=some (.int .u8 K)/\W'.cell? ⟨w.heap.size,1,none⟩=some (.int .i64 n)/\W'.cell? ⟨w.heap.size,2,none⟩=some (.string tx)/\W'.cell? ⟨w.heap.size,3,none⟩=some (.slice a l c))
   (first | exact HSW.out _ (Below.refl _ _) | exact HSW.out _ hq0 | exact HSW.out _ hq1)
   (first
    | (go_at_call 160;refine (HMY.out _).mono ?_;rintro e W1 ⟨rfl,hb⟩;have hq1:=hq0.trans (hb.mono hq0.size);clear hb))
  have HQ:=hid hq1
  clear hq0 hq1
  go_wp2_with fail
  go_meet
  exact ⟨rfl,HQ.out⟩
 obtain ⟨rfl,HBc⟩:=hcut
 rename World=>wc
 obtain ⟨-,z0,z1,z2,z3⟩:=HSW.out wc HBc.out
 go_upto_region 3 with fail
 go_cut [23] (fun t wx=>t=.bool false/\wx=wc)
 case first =>
  rcases HO.out.2.1 with h0 | ⟨h0,h3⟩
  ·subst h0
   go_wp2_with fail
   go_meet
   exact ⟨rfl,rfl⟩
  have i1:¬n<0:=by omega
  have i2:(n != 0)=true:=by simp;omega
  have i3:((K:Int) != 3)=false:=by subst h3;rfl
  clear h0 h3
  go_wp2_with fail
  go_meet
  exact ⟨rfl,rfl⟩
 obtain ⟨rfl,rfl⟩:=hcut
 rename World=>wc
 have HNM:=hid (fun W=>rfNamed_walkA tx W)
 have HQT:=hid (fun W=>rfQuot_walk tx W (by unfold maxLen;omega))
 obtain ⟨bn,hbn⟩:∃bn,namedG tx=bn:=⟨_,rfl⟩
 obtain ⟨bq,hbq⟩:∃bq,tx.data.toList.all quotB=bq:=⟨_,rfl⟩
 have ht:=HO.out.2.2
 rw [hbn,hbq] at ht
 rw [hbn] at HNM
 rw [hbq] at HQT
 clear hbn hbq htx
 go_upto_block 0 with fail
 go_cut [] (fun wx=>Hid (Below w1.heap.size w1 wx))
 case first =>
  rcases ht with ⟨hK,rfl⟩ | ⟨hK,rfl⟩ | ⟨hK,rfl⟩
  ·by_cases h5:K=5
   ·have e5:((K:Int)==5)=true:=by subst h5;rfl
    clear hK h5
    go_wp2_with (go_at_call 27;refine (HNM.out _).mono ?_;rintro e w2 ⟨rfl,hb2⟩;have HB2:=hid (HBc.out.trans (hb2.mono HBc.out.size));clear hb2)
    go_meet
    exact HB2.out
   have e5:((K:Int)==5)=false:=by simp;omega
   by_cases h6:K=6
   ·have e6:((K:Int)==6)=true:=by subst h6;rfl
    clear hK h5 h6
    go_wp2_with (go_at_call 27;refine (HNM.out _).mono ?_;rintro e w2 ⟨rfl,hb2⟩;have HB2:=hid (HBc.out.trans (hb2.mono HBc.out.size));clear hb2)
    go_meet
    exact HB2.out
   have e6:((K:Int)==6)=false:=by simp;omega
   have e7:((K:Int)==7)=true:=by
    have:K=7:=by omega
    subst this;rfl
   clear hK h5 h6
   go_wp2_with (go_at_call 27;refine (HNM.out _).mono ?_;rintro e w2 ⟨rfl,hb2⟩;have HB2:=hid (HBc.out.trans (hb2.mono HBc.out.size));clear hb2)
   go_meet
   exact HB2.out
  ·have e5:((K:Int)==5)=false:=by simp;omega
   have e6:((K:Int)==6)=false:=by simp;omega
   have e7:((K:Int)==7)=false:=by simp;omega
   have e4:((K:Int)==4)=true:=by subst hK;rfl
   clear hK
   go_wp2_with (go_at_call 158;refine (HQT.out _).mono ?_;rintro e w2 ⟨rfl,rfl⟩)
   go_meet
   exact HBc.out
  have e5:((K:Int)==5)=false:=by simp;omega
  have e6:((K:Int)==6)=false:=by simp;omega
  have e7:((K:Int)==7)=false:=by simp;omega
  have e4:((K:Int)==4)=false:=by simp;omega
  clear hK
  go_wp2_with fail
  go_meet
  exact HBc.out
 have HBd:=hcut
 clear ht HNM HQT z0 z1 z2 z3
 rename World=>wd
 obtain ⟨-,z0,z1,z2,z3⟩:=HSW.out wd HBd.out
 go_wp2_with fail
 go_loopw [3] (fun i wr=>∃m:Nat,m<=l/\i=.int .i64 (m:Int)/\Hid (Below w1.heap.size w1 wr)) (fun i _=>l-(intOf i).toNat)
 case atStart=>exact ⟨0,Nat.zero_le _,rfl,HBd.out⟩
 obtain ⟨m,hml,rfl,HB⟩:=hrel
 clear z0 z1 z2 z3
 obtain ⟨-,z0,z1,z2,z3⟩:=HSW.out wr HB.out
 have HBB:=hid (HB1.out.trans (HB.out.mono HB1.out.size))
 by_cases hlt:m<l
 ·obtain ⟨rfl,hbl⟩:=hb (by omega)
  have i1:(m:Int)<(l:Int):=by omega
  have i2:(0:Int)<=(m:Int):=by omega
  have hmk:m<g.kids.length:=by rw [HL.out];exact hlt
  obtain ⟨c0,c1,c2,c3,y0,y1,y2,y3,hgi⟩:=HK.out m hmk
  replace y0:=(HBB.out.cell (p:=⟨b,off+m*4,none⟩) hbl).trans y0
  replace y1:=(HBB.out.cell (p:=⟨b,off+m*4+1,none⟩) hbl).trans y1
  replace y2:=(HBB.out.cell (p:=⟨b,off+m*4+2,none⟩) hbl).trans y2
  replace y3:=(HBB.out.cell (p:=⟨b,off+m*4+3,none⟩) hbl).trans y3
  obtain ⟨k2,n2,s2,a2,l2,cc2,he⟩:=hgi.four
  simp only [List.cons.injEq,and_true] at he
  obtain ⟨rfl,rfl,rfl,rfl⟩:=he
  have HIH2:=hid (fun W (hb:Below w.heap.size w W)=>HIH.out m hmk _ W (hgi.keepB hb))
  have wr1:IntKind.i64.wrap ((m:Int)+1)=(m:Int)+1:=wrap_i64 (by omega) (by omega)
  clear hgi
  go_wp2_with fail
  refine (HIH2.out _ HBB.out).mono ?_
  rintro e w2 ⟨rfl,hb2⟩
  have HB2:=hid (HB.out.trans (hb2.mono HB.out.size))
  clear hb2 HIH2
  go_wp2_with fail
  refine ⟨⟨m+1,by omega,by go_num,HB2.out⟩,by simp only [intOf];omega⟩
 have i1:¬(m:Int)<(l:Int):=by omega
 go_wp2_with fail
 go_ret
 exact ⟨rfl,HBB.out⟩
theorem rfMay_walk:∀(t:GT) (cs:List Value) (w:World),t.may->t.toGD.size<=1000000->GIn w t.toGD cs->Calls Tryz.prog 127 #[.agg cs.toArray] w fun e w'=>e=.returned (.bool true)/\Below w.heap.size w w'
 | .leaf k n s,cs,w,hm,hz,h=>by
  refine rfMay_gen k n s _ cs w ?_ rfl ?_ hz h (fun m hm'=>absurd hm' (Nat.not_lt_zero _))
  ·rcases hm with ⟨h1,rfl,rfl⟩ | ⟨h1,h2,-,rfl⟩ | ⟨h1,rfl,h3⟩ | ⟨h1,rfl,h3⟩
   ·exact ⟨by omega,.inl rfl,.inr (.inr ⟨by omega,rfl⟩)⟩
   ·exact ⟨by omega,by omega,.inr (.inr ⟨by omega,rfl⟩)⟩
   ·exact ⟨by omega,.inl rfl,.inr (.inl ⟨h1,h3⟩)⟩
   exact ⟨by omega,.inl rfl,.inl ⟨h1,h3⟩⟩
  have:k<=7:=by rcases hm with ⟨h1,-⟩ | ⟨h1,-⟩ | ⟨h1,-⟩ | ⟨h1,-⟩<;>omega
  show 0=kidsK k
  unfold kidsK
  rw [if_pos this]
 | .one k x,cs,w,hm,hz,h=>by
  obtain ⟨rfl,hx⟩:=hm
  have hzx:x.toGD.size<=1000000:=by simp only [GT.toGD,GD.size,GD.sizes] at hz;omega
  refine rfMay_gen 8 0 ⟨#[]⟩ _ cs w ⟨by omega,.inl rfl,.inr (.inr ⟨by omega,rfl⟩)⟩ rfl rfl hz h (fun m hm' cs W hg=>?_)
  have hm0:m=0:=by
   have:m<1:=hm'
   omega
  subst hm0
  exact rfMay_walk x cs W hx hzx hg
 | .two k x y,cs,w,hm,hz,h=>by
  obtain ⟨hk,hx,hy⟩:=hm
  have hzx:x.toGD.size<=1000000:=by simp only [GT.toGD,GD.size,GD.sizes] at hz;omega
  have hzy:y.toGD.size<=1000000:=by simp only [GT.toGD,GD.size,GD.sizes] at hz;omega
  refine rfMay_gen k 0 ⟨#[]⟩ _ cs w ⟨by omega,.inl rfl,.inr (.inr ⟨by omega,rfl⟩)⟩ rfl ?_ hz h (fun m hm' cs W hg=>?_)
  ·show 2=kidsK k
   unfold kidsK
   rw [if_neg (by omega),if_neg (by omega)]
  have:m<2:=hm'
  rcases (show m=0\/m=1 by omega) with rfl | rfl
  ·exact rfMay_walk x cs W hx hzx hg
  exact rfMay_walk y cs W hy hzy hg
theorem rfAsked_walk (t:GT) (cs:List Value) (w:World) (hm:t.may) (hd:t.deep<=32) (hz:t.toGD.size<=60000) (h:GIn w t.toGD cs) :
  Calls Tryz.prog 97 #[.agg cs.toArray] w fun e w'=>e=.returned (.int .i64 0)/\Below w.heap.size w w':=by
 obtain ⟨k,n,sx,a,l,c,rfl⟩:=h.four
 obtain ⟨w1,hw1⟩:∃w1,w.alloc (.cells #[.int .u8 k,.int .i64 n,.string sx,.slice a l c] 80)=w1:=⟨_,rfl⟩
 have hb1:Below w.heap.size w w1:=hw1▸(Below.refl _ _).alloc (Nat.le_refl _) _
 have hx1:Arr w1 w.heap.size 80 [.int .u8 k,.int .i64 n,.string sx,.slice a l c]:=hw1▸Arr.new w [.int .u8 k,.int .i64 n,.string sx,.slice a l c] _
 have HMA:=hid (rfMay_walk t _ w1 hm (by omega) (h.keepB hb1))
 have HDE:=hid (fun W (hb:Below w.heap.size w W)=>rfDeep_walk 100 t.toGD _ W (by rw [toGD_deep];omega) (by omega) (h.keepB hb))
 simp only [toGD_deep] at HDE
 have i1:¬(32:Int)<(t.deep:Int):=by omega
 have HB1:=hid hb1
 have HX1:=hid hx1
 have HW1:=hid hw1
 obtain ⟨z0,z1,z2,z3⟩:=box4 hx1 (Below.refl _ _)
 clear h hm hd hz hb1 hx1 hw1
 go_enter Tryz.func97,Tryz.ntmps97
 go_upto_region 1 with fail
 rw [HW1.out]
 go_wp2_with fail
 refine HMA.out.mono ?_
 rintro e w2 ⟨rfl,hb2⟩
 have HB2:=hid (HB1.out.trans (hb2.mono HB1.out.size))
 clear z0 z1 z2 z3
 obtain ⟨z0,z1,z2,z3⟩:=box4 HX1.out hb2
 have HD2:=hid (HDE.out w2 HB2.out)
 clear hb2 HMA HDE
 go_wp2_with fail
 refine HD2.out.mono ?_
 rintro e w3 ⟨rfl,hb3⟩
 have HB3:=hid (HB2.out.trans (hb3.mono HB2.out.size))
 clear hb3 HD2 z0 z1 z2 z3
 go_wp2_with fail
 go_ret
 exact ⟨rfl,HB3.out⟩
theorem ixOf_hit {α:Type} {q:α->Bool} {l:List α} {m:Nat} (hm:m<l.length) (h:∀j (hj:j<m),q (l[j]'(by omega))=false) (hq:q l[m]=true):ixOf q l=m:=by
 unfold ixOf
 have e:l.findIdx? q=some m:=List.findIdx?_eq_some_iff_getElem.2 ⟨hm,hq,fun j hj=>by rw [h j hj];simp⟩
 rw [e]
theorem ixOf_miss {α:Type} {q:α->Bool} {l:List α} (h:∀j (hj:j<l.length),q l[j]=false):ixOf q l = -1:=by
 unfold ixOf
 have e:l.findIdx? q=none:=List.findIdx?_eq_none_iff.2 fun x hx=>by
  obtain ⟨j,hj,rfl⟩:=List.mem_iff_getElem.1 hx
  exact h j hj
 rw [e]
theorem any_hit {α:Type} {q:α->Bool} {l:List α} {m:Nat} (hm:m<l.length) (hq:q l[m]=true):l.any q=true:=List.any_eq_true.2 ⟨_,List.getElem_mem hm,hq⟩
theorem any_miss {α:Type} {q:α->Bool} {l:List α} (h:∀j (hj:j<l.length),q l[j]=false):l.any q=false:=by
 rw [List.any_eq_false]
 intro x hx
 obtain ⟨j,hj,rfl⟩:=List.mem_iff_getElem.1 hx
 rw [h j hj];simp
def rowN (k n i:Nat):List Pl:=(List.range i).map fun (j:Nat)=>((k:Int),(n:Int),(j:Int))
def fullN (md:ModelD) (k n:Nat):List Pl:=rowN k n (senL md k n).length
def upN (md:ModelD) (k n:Nat):List Pl:=(List.range n).flatMap fun j=>fullN md k j
def maxN (md:ModelD):Nat:=max md.stages.length md.stones.length
def upK (md:ModelD) (k:Nat):List Pl:=(List.range k).flatMap fun j=>upN md (j+1) (maxN md)
theorem rowN_succ (k n i:Nat):rowN k n (i+1)=rowN k n i++[((k:Int),(n:Int),(i:Int))]:=by
 unfold rowN
 rw [List.range_succ,List.map_append];rfl
theorem upN_succ (md:ModelD) (k n:Nat):upN md k (n+1)=upN md k n++fullN md k n:=by
 unfold upN
 rw [List.range_succ,List.flatMap_append];simp
theorem upK_succ (md:ModelD) (k:Nat):upK md (k+1)=upK md k++upN md (k+1) (maxN md):=by
 unfold upK
 rw [List.range_succ,List.flatMap_append];simp
theorem upN_zero (md:ModelD) (k:Nat):upN md k 0=[]:=rfl
theorem upK_zero (md:ModelD):upK md 0=[]:=rfl
theorem rowN_zero (k n:Nat):rowN k n 0=[]:=rfl
theorem upK_all (md:ModelD):upK md 4=placesL md:=by
 have h:∀k:Nat,upN md k (maxN md)=(List.range (max md.stages.length md.stones.length)).flatMap fun (n:Nat)=>(List.range (senL md k (n:Int)).length).map fun (i:Nat)=>(((k:Nat):Int),(n:Int),(i:Int)):=fun k=>rfl
 unfold placesL
 simp only [upK_succ,upK_zero,h,List.flatMap_cons,List.flatMap_nil,List.nil_append,List.append_nil,List.append_assoc]
 rfl
theorem range_len_le {β:Type} (f:Nat->List β):∀ {a b:Nat},a<=b->((List.range a).flatMap f).length<=((List.range b).flatMap f).length
 | a,0,h=>by
  obtain rfl:a=0:=by omega
  exact Nat.le_refl _
 | a,b+1,h=>by
  rcases Nat.lt_or_ge a (b+1) with h1 | h1
  ·have:=range_len_le f (a:=a) (b:=b) (by omega)
   rw [List.range_succ,List.flatMap_append,List.length_append]
   omega
  obtain rfl:a=b+1:=by omega
  exact Nat.le_refl _
theorem up_len (md:ModelD) {k n i:Nat} (hk:k<4) (hn:n<maxN md) (hi:i<=(senL md ((k+1:Nat):Int) n).length):(upK md k++(upN md (k+1) n++rowN (k+1) n i)).length<=manyN md:=by
 rw [<-length_placesL,<-upK_all]
 have h1:(upK md (k+1)).length<=(upK md 4).length:=range_len_le _ (by omega)
 have h2:(upN md (k+1) (n+1)).length<=(upN md (k+1) (maxN md)).length:=range_len_le _ (by omega)
 rw [upK_succ,List.length_append] at h1
 rw [upN_succ,List.length_append] at h2
 have h3:(fullN md (k+1) n).length=(senL md ((k+1:Nat):Int) n).length:=by simp [fullN,rowN]
 have h4:(rowN (k+1) n i).length=i:=by simp [rowN]
 rw [List.length_append,List.length_append]
 omega
def isL (md:ModelD) (k n:Int):Bool:=decide (0<=n/\(((k=1\/k=2)/\n<md.stages.length)\/((k=3\/k=4)/\n<md.stones.length)))
theorem senL_no {md:ModelD} {k n:Int} (h:isL md k n=false):senL md k n=[]:=by
 unfold isL at h
 simp only [decide_eq_false_iff_not] at h
 unfold senL
 split
 ·rfl
 rename_i hn
 have hS:∀f:StageD->List SentryD,¬n<md.stages.length->((md.stages[n.toNat]?).map f).getD []=[]:=fun f h=>by
  rw [List.getElem?_eq_none (by omega)];rfl
 have hT:∀f:StoneD->List SentryD,¬n<md.stones.length->((md.stones[n.toNat]?).map f).getD []=[]:=fun f h=>by
  rw [List.getElem?_eq_none (by omega)];rfl
 split
 ·exact hS _ (by omega)
 split
 ·exact hS _ (by omega)
 split
 ·exact hT _ (by omega)
 split
 ·exact hT _ (by omega)
 rfl
theorem senL_1 {md:ModelD} {n:Nat} (h:n<md.stages.length):senL md 1 n=md.stages[n].opens:=by
 unfold senL;rw [if_neg (by omega),if_pos rfl,Int.toNat_natCast,List.getElem?_eq_getElem h];rfl
theorem senL_2 {md:ModelD} {n:Nat} (h:n<md.stages.length):senL md 2 n=md.stages[n].closes:=by
 unfold senL;rw [if_neg (by omega),if_neg (by decide),if_pos rfl,Int.toNat_natCast,List.getElem?_eq_getElem h];rfl
theorem senL_3 {md:ModelD} {n:Nat} (h:n<md.stones.length):senL md 3 n=md.stones[n].done:=by
 unfold senL;rw [if_neg (by omega),if_neg (by decide),if_neg (by decide),if_pos rfl,Int.toNat_natCast,List.getElem?_eq_getElem h];rfl
theorem senL_4 {md:ModelD} {n:Nat} (h:n<md.stones.length):senL md 4 n=md.stones[n].undo:=by
 unfold senL;rw [if_neg (by omega),if_neg (by decide),if_neg (by decide),if_neg (by decide),if_pos rfl,Int.toNat_natCast,List.getElem?_eq_getElem h];rfl
theorem rowB_snoc {l:List ByteArray} {s:ByteArray} (h:rowB l=true) (hs:namedB s=true) (hn:s∉l):rowB (l++[s])=true:=by
 unfold rowB at h ⊢
 simp only [Bool.and_eq_true,decide_eq_true_eq] at h ⊢
 refine ⟨?_,by rw [List.all_append,h.2];simp [hs]⟩
 rw [List.nodup_append]
 refine ⟨h.1,by simp,fun a ha b hb=>?_⟩
 rw [List.mem_singleton.1 hb]
 exact fun e=>hn (e▸ha)
theorem rowB_bad {l:List ByteArray} {m:Nat} (hm:m<l.length) (h:namedB l[m]=false):rowB l=false:=by
 unfold rowB
 have:l.all namedB=false:=by
  rw [Bool.eq_false_iff]
  intro ha
  have:=List.all_eq_true.1 ha _ (List.getElem_mem hm)
  rw [h] at this;cases this
 rw [this,Bool.and_false]
theorem rowB_twice {l:List ByteArray} {k m:Nat} (hk:k<m) (hm:m<l.length) (h:l[k]'(by omega)=l[m]):rowB l=false:=by
 unfold rowB
 have:¬l.Nodup:=fun hn=>by
  have:=(List.getElem_inj hn).1 h
  omega
 rw [decide_eq_false this,Bool.false_and]
end Go.Proofs.YtfbbkmdhnkmonaaGreatDoor
