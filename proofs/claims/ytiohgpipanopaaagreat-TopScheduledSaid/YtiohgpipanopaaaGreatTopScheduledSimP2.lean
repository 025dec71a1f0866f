/- The functions compute what the shallow ones say: printed by program. -/
import Derived.Test.YtiohgpipanopaaaGreatTopScheduledSimP1
namespace Go.Am
open Go.Proofs
open Go.Proofs.Tryz
set_option maxRecDepth 100000
set_option maxHeartbeats 40000000

theorem bBl(e:aF)(j:List aB)(a:List Int){Q:((Option aP)×(List Int)×Int)->Prop}(h:sV e j a Q):dX Tryz.prog 54 [.agg (aV e),.d (Z7 j),.d (Z15 a)] [] (λr' o'=>∃(r:(Option aP)×(List Int)×Int),Q r/\r'=.tup [cQ aS r.1,.d (.sl 1 (r.2.1.map aD)),.i r.2.2]/\o'=[]):=by
 unfold sV at h;refine kF func54 rfl (rs:=[.tmp 6,.tmp 7,.tmp 8]) results54 ntmps54 (Nat.le_of_ble_eq_true rfl) ?_;refine bT (bQ ?_);refine bO rfl (lC (v:=.agg (aV e)) (aE rfl) rfl rfl rfl) ?_;rintro _ ⟨b1,rfl⟩;refine ta (cQ aS (none:Option aP)) (to (sR 3 1 (.inl rfl) (aE rfl)) ?_);refine au 4 ?_;refine to (sla 0 (aV e) rfl rfl tG) (tm (.d (Z7 j)) ?_);refine bO rfl (vV (aE rfl) (.func _ _ call53) rfl rfl (tO _ _ h)) ?_;rintro _ ⟨_,_,⟨r3,h,rfl,rfl⟩,rfl⟩;refine au 3 ?_;refine ta (cQ aS r3.1) (au 8 ?_);refine tip h (λc4 h=>?_) (λc4 h=>?_)
 ·refine au 3 ?_;refine ta (cQ aS (none:Option aP)) (to (sR 3 1 (.inl rfl) (aE rfl)) ?_);refine au 2 ?_;exact cG ⟨rfl,_,[],[.box b1 0 (aV e),.arr (.slice none 0 0) 3 1 (([]:List Int).map aD),.arr (.slice none 0 0) 3 1 (([]:List Int).map aD)],_,.three (.tmp 6 (v:=cQ aS (none:Option aP)) rfl) (.tmp 7 (v:=.d Z43) rfl) (.tmp 8 (v:=.i r3.2) rfl),.refl _,xE (.cons (.same _) (.cons (.d (pE 2 rfl (dT (f:=aD) λ_=>rfl))) (.cons (.same _) .nil))),((none:Option aP),([]:List Int),r3.2),h,rfl,rfl⟩
 ·refine au 9 ?_;refine yK [20,21] (λ(s6:(Option aP)×Int×(List Int)×Value)=>[(6,cQ aS s6.1),(7,.d (.lit s6.2.2.2)),(22,.i s6.2.1)]) (λ(s6:(Option aP)×Int×(List Int)×Value)=>[.arr s6.2.2.2 3 1 (s6.2.2.1.map aD)]) (λ(k:Nat) (s6:(Option aP)×Int×(List Int)×Value)=>oE Q a (a.length:Int) k s6.1 s6.2.1 s6.2.2.1) (λ_ h=>h) (r3.1,0,([]:List Int),(.slice none 0 0)) h (aO [1] rfl rfl (aL rfl (aL rfl (aL rfl (aR (ae rfl)))))) ?_;rintro k8 ⟨c,g,b,w7⟩ h;simp only[oE] at h;refine au 5 ?_;refine tip h (λc9 h=>?_) (λc9 h=>?_)
  ·refine au 5 ?_;obtain⟨x,m,h⟩:=dN h;refine to (six rfl rfl cR.of (cF aD m)) (au 7 ?_);obtain⟨y,n,h⟩:=dN h;refine to (scr call116 (gS _ _ _ n)) (to (sn rfl) (bN ?_));refine tip h (λo h=>?_) (λo h=>?_)
   ·refine bT (bQ (ta (cQ aS (none:Option aP)) (to (sR 3 1 (.inl rfl) (aE rfl)) ?_)));refine au 2 ?_;exact cG ⟨rfl,_,[],[.arr w7 3 1 (b.map aD),.arr (.slice none 0 0) 3 1 (([]:List Int).map aD)],_,.three (.tmp 6 (v:=cQ aS (none:Option aP)) rfl) (.tmp 7 (v:=.d Z43) rfl) (.tmp 8 (v:=.i 1) rfl),.refl _,xE (.cons (.same _) (.cons (.d (pE 1 rfl (dT (f:=aD) λ_=>rfl))) (.cons (.same _) .nil))),((none:Option aP),([]:List Int),1),h,rfl,rfl⟩
   ·refine au 3 ?_;refine tm (cQ aS c) ?_;obtain⟨p,q,h⟩:=dN h;refine to (zN (enc:=aS) (aE rfl) rfl q) ?_;refine to (sfc [.sl 1 (p.players.map aD)] rfl uI) (au 2 ?_);obtain⟨s,t,h⟩:=dN h;refine to (scr call117 (yJ _ _ t)) (to (qG (aE rfl) cR rfl rfl (rows:=([s]).map aD) rfl (dT (f:=aD) λ_=>rfl) rfl (by decide)) ?_);obtain⟨u,w,h⟩:=dN h;refine bO rfl (pM (i:=0) (aE rfl) cR rfl rfl rfl (λ_=>rfl) w rfl) ?_;rintro _ ⟨l,rfl⟩;refine ta (.d (.lit l)) ?_;refine kK ?_;refine au 4 ?_;exact⟨(c,w64 (g+1),u,l),h,aO [0] rfl rfl (aL rfl (aL rfl (aL rfl (aR (ae rfl)))))⟩
  ·refine cZ ?_;refine .inl ⟨rfl,?_⟩;simp only[aCo] at h;refine bT (bQ (tm (cQ aS c) (tm (.d (.lit w7)) (ta (cQ aS c) (au 3 ?_)))));exact cG ⟨rfl,_,[],[.arr w7 3 1 (b.map aD)],_,.three (.tmp 6 (v:=cQ aS c) rfl) (.tmp 7 (v:=.d (.lit w7)) rfl) (.tmp 8 (v:=.i 0) rfl),.refl _,xE (.cons (.same _) (.cons (.d (pE 0 rfl (dT (f:=aD) λ_=>rfl))) (.cons (.same _) .nil))),(c,b,0),h,rfl,rfl⟩

theorem aUb(c:List Int){r:Int}(h:uG c=some r):Fn Tryz.prog 55 [.d (Z15 c)] (.i r):=by
 unfold uG at h;refine fnx xT {} [.tmp 2] func55 results55 ntmps55 ?_;refine ol ?_;refine br h (λh=>?_) λh=>?_
 ·cases h
 ·refine oi h λx1 h=>?_;refine xlp [0] [] (λ((a,b):Int×Int)=>([(3,.i a),(4,.i b)],[])) (λk ((a,b):Int×Int)=>lI c k a b) (x1,1) h (lev []) ?_;rintro k4 ⟨a,b⟩ h;simp only[lI] at h;refine ol ?_;refine br h (λh=>?_) λh=>?_
  ·refine oi h λx5 h=>?_;refine bLf ?_;exact⟨(min a x5,w64 (b+1)),h,lev []⟩
  ·simp only[zC] at h;cases h;exact⟨rfl,rfl,rfl⟩

theorem aDw(c:aP)(e:Int){r:Int}(h:oC c e=some r):Fn Tryz.prog 57 [.cp (aS c),.i e] (.i r):=by
 unfold oC at h;refine oT [.tmp 4] func57 results57 ntmps57 ?_;refine au 8 ?_;refine to (eI (aE rfl) rfl) ?_;refine to (sfc [.j c.Tree.Rounds,.sl 1 (Z18 c)] rfl xU) (to (sfc [.j c.Tree.Rounds] rfl xW) (au 4 ?_));refine eV (S:=Int) [0,1,12] (λs1=>[(13,.i s1)]) (λs1=>[]) (λk s1=>jY c e c.Tree.Rounds k s1) (λ_=>rfl) (0) h (aO [] rfl rfl (aL rfl (aR (ae rfl)))) ?_;rintro k2 f h;simp only[jY] at h;refine au 5 ?_;refine tih h (λc3 h=>?_) (λc3 h=>?_)
 ·refine au 9 ?_;obtain⟨r4,h5,h⟩:=bns h;refine fQ mix 12 [0,1,5,12,13] [(6,.i (bR r4 0 c.won)),(26,.b (eB r4 c.won))] ?_ ?_
  ·refine⟨[(17,0,.cp [.j c.Tree.Rounds,.sl 1 (Z18 c),.sl 1 (Z28 c),.mp false (c.won.map λp:aA×Int=>((λa:aA=>Value.agg ((aC a).map bA).toArray) p.1,aD p.2))]),(18,1,.cp [.j c.Tree.Rounds,.sl 1 (Z18 c),.sl 1 (Z28 c),.mp false (c.won.map λp:aA×Int=>((λa:aA=>Value.agg ((aC a).map bA).toArray) p.1,aD p.2))]),(19,2,.cp [.mp false (c.won.map λp:aA×Int=>((λa:aA=>Value.agg ((aC a).map bA).toArray) p.1,aD p.2))]),(20,3,.d (.mp false (c.won.map λp:aA×Int=>((λa:aA=>Value.agg ((aC a).map bA).toArray) p.1,aD p.2)))),(21,4,.i f),(22,5,.i e),(23,6,.agg (aC r4)),(24,7,.tup [.i (bR r4 0 c.won),.b (eB r4 c.won)]),(16,8,.tup [.i (bR r4 0 c.won),.b (eB r4 c.won)]),(25,9,.i (bR r4 0 c.won)),(26,10,.b (eB r4 c.won)),(6,11,.i (bR r4 0 c.won))],?_,?_⟩
   · exact dk [0,1,2,3,0,0,506,407,8,9,9,10] ⟨go (zm (Z5 c)),
 go λS hS=>eI (aE rfl) (aU hS rfl),
 go (zfc [.mp false (c.won.map λp:aA×Int=>((λa:aA=>Value.agg ((aC a).map bA).toArray) p.1,aD p.2))] rfl aAj),
 go (zlc rfl aGc),
 go (zm (.i f)),
 go (zm (.i e)),
 go λS hS=>nH (aE rfl) (.func _ _ call56) (ev2 (aU hS rfl) (ev2 (aU hS rfl) evn)) rfl (tN _ _ h5),
 go λS hS=>aEy (enc:=aD) (agg:=false) (l:=c.won) (z:=0) (a:=r4) (aE rfl) aCu underlying139 zeroValue3 (λ_ _=>.d (.lit _ rfl)) (aU hS rfl) rfl rfl (aU hS rfl) (mF (enc:=aC) r4 rfl),
 go (zm (.tup [.i (bR r4 0 c.won),.b (eB r4 c.won)])),
 go (zex rfl rfl),
 go (zex rfl rfl),
 go (za (.i (bR r4 0 c.won))),trivial⟩
   · exact cP (aL rfl (aL rfl (aR (ae rfl))))
  ·refine au 6 ?_;obtain⟨b6,h7,h⟩:=bns h;refine lJ 10 [0,1,5,12,13] 38 b6 ?_ ?_
   ·refine bch h7 (λc9 h7=>?_) (λc9 h7=>?_)
    ·refine au 2 ?_;refine tk c9 (eI (aE rfl) rfl) ?_;refine tk c9 (sfc [.sl 1 (Z28 c)] rfl uI) (au 2 ?_);obtain⟨j,g,h7⟩:=bns h7;refine tk c9 (six rfl rfl cR.of (cF aD g)) (au 3 ?_);obtain rfl:=sIn h7;refine bN (dQ rfl (ae rfl) rfl)
    ·refine au 10 ?_;obtain rfl:=sIn h7;refine bN (dQ rfl (ae rfl) rfl)
   ·refine bN ?_;refine tih h (λc8 h=>?_) (λc8 h=>?_)
    ·refine au 5 ?_;obtain rfl:=sIn h;exact rt
    ·refine iO ?_;refine au 4 ?_;exact⟨(w64 (f+1)),h,aO [] rfl rfl (aL rfl (aR (ae rfl)))⟩
 ·refine cZ ?_;refine .inl ⟨rfl,?_⟩;simp only[vX] at h;refine au 3 ?_;refine to (eI (aE rfl) rfl) ?_;refine to (sfc [.j c.Tree.Rounds,.sl 1 (Z18 c)] rfl xU) (to (sfc [.j c.Tree.Rounds] rfl xW) (au 3 ?_));obtain rfl:=sIn h;exact rt

theorem aXr(g:aF)(t:List aB)(l:Int)(m:Int){Q:(Int×Int)->Prop}(h:xD g t l m Q):dX Tryz.prog 15 (Z25 g t l m) [] (λr' o'=>∃(r:Int×Int),Q r/\r'=.tup [.i r.1,.i r.2]/\o'=[]):=by
 unfold xD at h;refine kF func15 rfl (rs:=[.tmp 8,.tmp 9]) results15 ntmps15 (Nat.le_of_ble_eq_true rfl) ?_;refine bT (bQ ?_);refine bO rfl (lC (v:=.agg (aV g)) (aE rfl) rfl rfl rfl) ?_;rintro _ ⟨b1,rfl⟩;refine au 5 ?_;refine to (sla 0 (aV g) rfl rfl tG) (au 3 ?_);refine to (qG (aE rfl) cR rfl rfl (rows:=([l,m]).map aD) rfl (dT (f:=aD) λ_=>rfl) rfl (by decide)) ?_;refine bO rfl (vV (aE rfl) (.func _ _ call54) rfl rfl (bBl _ _ _ h)) ?_;rintro _ ⟨_,_,⟨r2,h,rfl,rfl⟩,rfl⟩;refine au 4 ?_;refine ta (cQ aS r2.1) (au 11 ?_);refine tip h (λc3 h=>?_) (λc3 h=>?_)
 ·refine au 6 ?_;exact cG ⟨rfl,_,[],[.box b1 0 (aV g)],_,.two (.tmp 8 (v:=.i 0) rfl) (.tmp 9 (v:=.i r2.2.2) rfl),.refl _,.same _,(0,r2.2.2),h,rfl,rfl⟩
 ·refine au 7 ?_;refine tip h (λc4 h=>?_) (λc4 h=>?_)
  ·refine au 5 ?_;exact cG ⟨rfl,_,[],[.box b1 0 (aV g)],_,.two (.tmp 8 (v:=.i 0) rfl) (.tmp 9 (v:=.i 1) rfl),.refl _,.same _,(0,1),h,rfl,rfl⟩
  ·refine au 3 ?_;obtain⟨r5,h6,h⟩:=dN h;refine to (scr call55 (aUb _ h6)) (au 3 ?_);refine tip h (λc7 h=>?_) (λc7 h=>?_)
   ·refine au 5 ?_;exact cG ⟨rfl,_,[],[.box b1 0 (aV g)],_,.two (.tmp 8 (v:=.i 0) rfl) (.tmp 9 (v:=.i 3) rfl),.refl _,.same _,(0,3),h,rfl,rfl⟩
   ·refine iO ?_;refine au 3 ?_;refine tm (cQ aS r2.1) ?_;obtain⟨x8,h9,h⟩:=dN h;refine to (zN (enc:=aS) (aE rfl) rfl h9) ?_;refine to (sfc [.j x8.Tree.Rounds,.sl 1 (x8.Tree.Slots.map aD)] rfl xU) (to (sfc [.j x8.Tree.Rounds] rfl xW) (au 4 ?_));refine yK [10,11,40] (λ(j:Int)=>[(41,.i j)]) (λ(j:Int)=>[]) (λ(k:Nat) (j:Int)=>mL Q r2.1 r2.2.1 x8.Tree.Rounds k j) (λ_ h=>h) (0) h (aO [] rfl rfl (aL rfl (aR (ae rfl)))) ?_;rintro N c h;simp only[mL] at h;refine au 5 ?_;refine tip h (λy h=>?_) (λy h=>?_)
    ·refine au 9 ?_;obtain⟨u,z,h⟩:=dN h;obtain⟨n,A,h⟩:=dN h;obtain⟨o,B,h⟩:=dN h;refine fQ mix 9 [10,11,13,40,41] [(48,.agg (aC n)),(49,.i c),(52,.i o)] ?_ ?_
     ·refine⟨[(44,0,.i c),(45,1,.d (.sl 1 (r2.2.1.map aD))),(46,2,.cp [.j u]),(47,3,.i u),(48,4,.agg (aC n)),(49,5,.i c),(50,6,.d (.sl 1 (r2.2.1.map aD))),(51,7,.cp [.j o]),(52,8,.i o)],?_,?_⟩
      · exact dk [0,0,2,3,104,0,0,7,8] ⟨go (zm (.i c)),
 go (zm (.d (.sl 1 (r2.2.1.map aD)))),
 go (zix rfl rfl cR.of (cF aD z)),
 go (zlc rfl dI),
 go λS hS=>nH (aE rfl) (.func _ _ call56) (ev2 (aU hS rfl) (ev2 (aU hS rfl) evn)) rfl (tN _ _ A),
 go (zm (.i c)),
 go (zm (.d (.sl 1 (r2.2.1.map aD)))),
 go (zix rfl rfl cR.of (cF aD B)),
 go (zlc rfl dI),trivial⟩
      · exact cP (aL rfl (aL rfl (aL rfl (aR (ae rfl)))))
     ·obtain⟨C,E,h⟩:=dN h;refine to (nH (aE rfl) (.func _ _ call56) rfl rfl (tN _ _ E)) ?_;refine to (bUn (a:=n) (b:=C) (aE rfl) rfl rfl rfl rfl Tryz.eqGuardType143 aQo) ?_;refine bN ?_;refine tip h (λF h=>?_) (λF h=>?_)
      ·refine bT (bT ?_);obtain⟨e,G,h⟩:=dN h;refine eW (bIe (enc:=aS) (k:=10) rfl G) ?_;obtain⟨w,H,h⟩:=dN h;obtain⟨q,I,h⟩:=dN h;obtain⟨x,K,h⟩:=dN h;obtain⟨s,L,h⟩:=dN h;refine fQ mix 12 [13] [(65,.i (min q s)),(66,.i c)] ?_ ?_
       ·refine⟨[(55,0,.cp [.j e.Tree.Rounds,.sl 1 (e.Tree.Slots.map aD),.sl 1 (e.players.map aD),.mp false (e.won.map λp:aA×Int=>((λa:aA=>Value.agg ((aC a).map bA).toArray) p.1,aD p.2))]),(56,1,.d (.sl 1 (r2.2.1.map aD))),(57,2,.cp [.j w]),(58,3,.i w),(59,4,.i q),(60,5,.cp [.j e.Tree.Rounds,.sl 1 (e.Tree.Slots.map aD),.sl 1 (e.players.map aD),.mp false (e.won.map λp:aA×Int=>((λa:aA=>Value.agg ((aC a).map bA).toArray) p.1,aD p.2))]),(61,6,.d (.sl 1 (r2.2.1.map aD))),(62,7,.cp [.j x]),(63,8,.i x),(64,9,.i s),(65,10,.i (min q s)),(66,11,.i c)],?_,?_⟩
        · exact dk [0,0,2,3,104,0,0,7,8,609,510,0] ⟨go (zm (.cp [.j e.Tree.Rounds,.sl 1 (e.Tree.Slots.map aD),.sl 1 (e.players.map aD),.mp false (e.won.map λp:aA×Int=>((λa:aA=>Value.agg ((aC a).map bA).toArray) p.1,aD p.2))])),
 go (zm (.d (.sl 1 (r2.2.1.map aD)))),
 go (zix rfl rfl cR.of (cF aD H)),
 go (zlc rfl dI),
 go λS hS=>fZ (aE rfl) (.func _ _ call57) (ev2 (aU hS rfl) (ev2 (aU hS rfl) evn)) rfl (BVs.refl _ _) (aDw _ _ I) rfl,
 go (zm (.cp [.j e.Tree.Rounds,.sl 1 (e.Tree.Slots.map aD),.sl 1 (e.players.map aD),.mp false (e.won.map λp:aA×Int=>((λa:aA=>Value.agg ((aC a).map bA).toArray) p.1,aD p.2))])),
 go (zm (.d (.sl 1 (r2.2.1.map aD)))),
 go (zix rfl rfl cR.of (cF aD K)),
 go (zlc rfl dI),
 go λS hS=>fZ (aE rfl) (.func _ _ call57) (ev2 (aU hS rfl) (ev2 (aU hS rfl) evn)) rfl (BVs.refl _ _) (aDw _ _ L) rfl,
 go λS hS=>bUp (aE rfl) (aU hS rfl) (aU hS rfl),
 go (zm (.i c)),trivial⟩
        · exact cP (aL rfl (aL rfl (aR (ae rfl))))
       ·refine au 2 ?_;refine tip h (λM h=>?_) (λM h=>?_)
        ·refine au 5 ?_;exact cG ⟨rfl,_,[],[],_,.two (.tmp 8 (v:=.i 0) rfl) (.tmp 9 (v:=.i 3) rfl),.refl _,.same _,(0,3),h,rfl,rfl⟩
        ·refine au 7 ?_;exact cG ⟨rfl,_,[],[],_,.two (.tmp 8 (v:=.i c) rfl) (.tmp 9 (v:=.i 0) rfl),.refl _,.same _,(c,0),h,rfl,rfl⟩
      ·refine iO ?_;refine au 4 ?_;exact⟨(w64 (c+1)),h,aO [] rfl rfl (aL rfl (aR (ae rfl)))⟩
    ·refine cZ ?_;refine .inl ⟨rfl,?_⟩;simp only[aIe] at h;refine au 5 ?_;exact cG ⟨rfl,_,[],[],_,.two (.tmp 8 (v:=.i 0) rfl) (.tmp 9 (v:=.i 3) rfl),.refl _,.same _,(0,3),h,rfl,rfl⟩

theorem aCi(f:aP)(e:aA)(c:Int){r:Int}(h:nD f e c=some r):Fn Tryz.prog 142 [.cp (aS f),.agg (aC e),.i c] (.i r):=by
 unfold nD at h;refine oT [.tmp 6] func142 results142 ntmps142 ?_;refine bT (bQ ?_);refine bO rfl (lC (v:=.agg (aC e)) (aE rfl) rfl rfl rfl) ?_;rintro _ ⟨b1,rfl⟩;refine au 18 ?_;refine tih h (λc2 h=>?_) (λc2 h=>?_)
 ·refine au 3 ?_;refine to (eI (aE rfl) rfl) ?_;refine to (sfc [.sl 1 (Z28 f)] rfl uI) (au 2 ?_);obtain⟨x3,h4,h⟩:=bns h;refine to (six rfl rfl cR.of (cF aD h4)) (au 3 ?_);obtain rfl:=sIn h;refine eW (mS (oB (l:=[6]) (ae rfl))) ?_;exact rt
 ·refine au 3 ?_;refine fQ mix 14 [] [(8,.i (bR (Z3 e c) 0 f.won)),(37,.b (eB (Z3 e c) f.won))] ?_ ?_
  ·refine⟨[(26,0,.cp [.j f.Tree.Rounds,.sl 1 (Z18 f),.sl 1 (Z28 f),.mp false (f.won.map λp:aA×Int=>((λa:aA=>Value.agg ((aC a).map bA).toArray) p.1,aD p.2))]),(27,1,.cp [.j f.Tree.Rounds,.sl 1 (Z18 f),.sl 1 (Z28 f),.mp false (f.won.map λp:aA×Int=>((λa:aA=>Value.agg ((aC a).map bA).toArray) p.1,aD p.2))]),(28,2,.cp [.mp false (f.won.map λp:aA×Int=>((λa:aA=>Value.agg ((aC a).map bA).toArray) p.1,aD p.2))]),(29,3,.d (.mp false (f.won.map λp:aA×Int=>((λa:aA=>Value.agg ((aC a).map bA).toArray) p.1,aD p.2)))),(30,4,.bp b1 0 0),(31,5,.i e.round),(32,6,.i (w64 (e.round-1))),(33,7,.i (w64 ((w64 (2*e.place))+c))),(34,8,.agg (aC (Z3 e c))),(35,9,.tup [.i (bR (Z3 e c) 0 f.won),.b (eB (Z3 e c) f.won)]),(25,10,.tup [.i (bR (Z3 e c) 0 f.won),.b (eB (Z3 e c) f.won)]),(36,11,.i (bR (Z3 e c) 0 f.won)),(37,12,.b (eB (Z3 e c) f.won)),(8,13,.i (bR (Z3 e c) 0 f.won))],?_,?_⟩
   · exact dk [0,1,2,3,0,5,6,0,708,409,10,11,11,12] ⟨go (zm (Z5 f)),
 go λS hS=>eI (aE rfl) (aU hS rfl),
 go (zfc [.mp false (f.won.map λp:aA×Int=>((λa:aA=>Value.agg ((aC a).map bA).toArray) p.1,aD p.2))] rfl aAj),
 go (zlc rfl aGc),
 go (zf rfl aAk),
 go (zl 0 rfl rfl rfl dI),
 go (zar rfl rfl rfl),
 go (zm (.i (w64 ((w64 (2*e.place))+c)))),
 go λS hS=>jT (aE rfl) aRd (zs:=[.j 0,.j 0]) rfl rfl rfl (pa2 (aU hS rfl) (pa2 (aU hS rfl) pan)) (es:=[.j (w64 (e.round-1)),.j (w64 ((w64 (2*e.place))+c))]) rfl,
 go λS hS=>aEy (enc:=aD) (agg:=false) (l:=f.won) (z:=0) (a:=(Z3 e c)) (aE rfl) aCu underlying139 zeroValue3 (λ_ _=>.d (.lit _ rfl)) (aU hS rfl) rfl rfl (aU hS rfl) (mF (enc:=aC) (Z3 e c) rfl),
 go (zm (.tup [.i (bR (Z3 e c) 0 f.won),.b (eB (Z3 e c) f.won)])),
 go (zex rfl rfl),
 go (zex rfl rfl),
 go (za (.i (bR (Z3 e c) 0 f.won))),trivial⟩
   · exact cP (aL rfl (aL rfl (aR trivial)))
  ·refine au 6 ?_;refine tih h (λc5 h=>?_) (λc5 h=>?_)
   ·refine au 5 ?_;obtain rfl:=sIn h;refine eW (mS (oB (l:=[6]) (ae rfl))) ?_;exact rt
   ·refine au 5 ?_;obtain rfl:=sIn h;refine eW (mS (oB (l:=[6]) (ae rfl))) ?_;exact rt

theorem aJc{S:Type}(J:S->MO->Prop)(ly:Nat)(f:S->aA->aN->Option S)(hy:∀(s:S) (m:MO) (x0:aA) (x1:aN) (s':S),J s m->f s x0 x1=some s'->aOe Tryz.prog ly [.agg (aC x0),.agg (cY x1)] m (J s'))(e:aP)(sy:S)(m0:MO)(hj:J sy m0){r:S}(h:mM e f sy=some r):dX Tryz.prog 82 [.cp (aS e),.d (.lit (yv ly))] [m0] (λ_ o'=>∃m',J r m'/\o'=[m']):=by
 unfold mM at h;refine aJa func82 rfl (rs:=[]) results82 ntmps82 (Nat.le_of_ble_eq_true rfl) ?_;refine au 3 ?_;refine to (eI (aE rfl) rfl) ?_;refine to (sfc [.j e.Tree.Rounds,.sl 1 (Z18 e)] rfl xU) (to (sfc [.j e.Tree.Rounds] rfl xW) (au 4 ?_));refine eV (S:=Int×({x:S×MO // J x.1 x.2})) [0,1,11] (λs1=>[(12,.i s1.1)]) (λs1=>[s1.2.1.2]) (λk s1=>dA f e e.Tree.Rounds k s1.1 s1.2.1.1) (λ_=>rfl) (0,⟨(sy,m0),hj⟩) h (aO [0] rfl rfl (aL rfl (aR (ae rfl)))) ?_;rintro k3 ⟨b,y2⟩ h;simp only[dA] at h;refine au 5 ?_;refine tih h (λc4 h=>?_) (λc4 h=>?_)
 ·refine au 11 ?_;refine to (eI (aE rfl) rfl) ?_;refine to (sfc [.j e.Tree.Rounds,.sl 1 (Z18 e)] rfl xU) (to (sfc [.sl 1 (Z18 e)] rfl aGs) (au 4 ?_));obtain⟨u5,h6,h⟩:=bns h;refine to (bCd (aE rfl) rfl rfl (aIm h6)) ?_;refine au 2 ?_;refine aGe ?_;refine eV (S:=Int×({x:S×MO // J x.1 x.2})) [0,1,4,11,12,23] (λs7=>[(24,.i s7.1)]) (λs7=>[s7.2.1.2]) (λk s7=>fK f (dA f e e.Tree.Rounds k3) e b e.Tree.Rounds b ((e.Tree.Slots.length:Int).fdiv (2^(min (w64 (b+1)).toNat 64))) k s7.1 s7.2.1.1) (λ_=>rfl) (0,⟨(y2.1.1,y2.1.2),y2.2⟩) h (aO [0] rfl rfl (aL rfl (aR (ae rfl)))) ?_;rintro k9 ⟨c,y8⟩ h;simp only[fK] at h;refine au 5 ?_;refine tih h (λo h=>?_) (λo h=>?_)
  ·refine au 12 ?_;refine to (jT (aE rfl) aRd (zs:=[.j 0,.j 0]) rfl rfl rfl rfl (es:=[.j b,.j c]) rfl) ?_;refine bO rfl (dG (zs:=[.j 0,.j 0]) (aE rfl) zeroValue143 rfl rfl) ?_;rintro _ ⟨y,rfl⟩;refine to (sst 1 rfl rfl sizeOf143 (aC (aA.mk b c))) (bN (bT ?_));obtain⟨g,q,h⟩:=bns h;obtain⟨j,t,h⟩:=bns h;refine fQ mix 11 [0,1,4,11,12,23,24] [(30,.d (.lit (yv ly))),(31,.agg (aC (aA.mk b c))),(40,.agg (cY (aN.mk b c g j)))] ?_ ?_
   ·refine⟨[(30,0,.d (.lit (yv ly))),(31,1,.agg (aC (aA.mk b c))),(32,2,.i b),(33,3,.i c),(34,4,.cp [.j e.Tree.Rounds,.sl 1 (Z18 e),.sl 1 (Z28 e),.mp false (e.won.map λp:aA×Int=>((λa:aA=>Value.agg ((aC a).map bA).toArray) p.1,aD p.2))]),(35,5,.agg (aC (aA.mk b c))),(36,6,.i g),(37,7,.cp [.j e.Tree.Rounds,.sl 1 (Z18 e),.sl 1 (Z28 e),.mp false (e.won.map λp:aA×Int=>((λa:aA=>Value.agg ((aC a).map bA).toArray) p.1,aD p.2))]),(38,8,.agg (aC (aA.mk b c))),(39,9,.i j),(40,10,.agg (cY (aN.mk b c g j)))],?_,?_⟩
    · exact dk [0,0,0,0,0,0,506,0,0,809,3040710] ⟨go (zm (.d (.lit (yv ly)))),
 go (zla 1 (aC (aA.mk b c)) rfl rfl oA),
 go (zm (.i b)),
 go (zm (.i c)),
 go (zm (Z5 e)),
 go (zla 1 (aC (aA.mk b c)) rfl rfl oA),
 go λS hS=>fZ (aE rfl) (.func _ _ call142) (ev2 (aU hS rfl) (ev2 (aU hS rfl) (ev2 rfl evn))) rfl (BVs.refl _ _) (aCi _ _ _ q) rfl,
 go (zm (Z5 e)),
 go (zla 1 (aC (aA.mk b c)) rfl rfl oA),
 go λS hS=>fZ (aE rfl) (.func _ _ call142) (ev2 (aU hS rfl) (ev2 (aU hS rfl) (ev2 rfl evn))) rfl (BVs.refl _ _) (aCi _ _ _ t) rfl,
 go λS hS=>jT (aE rfl) bZb (zs:=[.j 0,.j 0,.j 0,.j 0]) rfl rfl rfl (pa2 (aU hS rfl) (pa2 (aU hS rfl) (pa2 (aU hS rfl) (pa2 (aU hS rfl) pan)))) (es:=[.j b,.j c,.j g,.j j]) rfl,trivial⟩
    · exact cP (aL rfl (aL rfl (aL rfl (aR (ae rfl)))))
   ·obtain⟨u,v,h⟩:=bns h;refine bGh rfl (bWk (aE rfl) rfl rfl rfl rfl (hy _ _ _ _ _ y8.2 v)) ?_;rintro _ ⟨w,n,rfl⟩;refine to (sn rfl) (bN ?_);refine aDt rfl (λl=>?_) (λl=>?_)
    ·exact absurd l (by decide)
    ·refine iO ?_;refine au 4 ?_;exact⟨(w64 (c+1),⟨(u,w),n⟩),h,aO [0] rfl rfl (aL rfl (aR (ae rfl)))⟩
  ·refine cZ ?_;refine .inl ⟨rfl,?_⟩;simp only[lF] at h;simp only[rX] at h;refine au 4 ?_;exact⟨(w64 (b+1),⟨(y8.1.1,y8.1.2),y8.2⟩),h,aO [0] rfl rfl (aL rfl (aR (ae rfl)))⟩
 ·refine cZ ?_;refine .inl ⟨rfl,?_⟩;simp only[rW] at h;obtain rfl:=sIn h;exact⟨_,[y2.1.2],[],_,.none,.refl _,.same _,y2.1.2,y2.2,rfl⟩

theorem aUq(a:aF)(g:List aB){Q:((List aN)×Int)->Prop}(h:vK a g Q):dX Tryz.prog 36 (Z17 a g) [] (λr' o'=>∃(r:(List aN)×Int),Q r/\r'=.tup [.d (.sl 4 (r.1.map cY)),.i r.2]/\o'=[]):=by
 unfold vK at h;refine kF func36 rfl (rs:=[.tmp 4,.tmp 5]) results36 ntmps36 (Nat.le_of_ble_eq_true rfl) ?_;refine bT (bQ ?_);refine bO rfl (lC (v:=.agg (aV a)) (aE rfl) rfl rfl rfl) ?_;rintro _ ⟨b1,rfl⟩;refine to (aFu 4 (aE rfl)) ?_;refine au 4 ?_;refine to (sla 0 (aV a) rfl rfl tG) (tm (.d (Z7 g)) ?_);refine bO rfl (vV (aE rfl) (.func _ _ call53) rfl rfl (tO _ _ h)) ?_;rintro _ ⟨_,_,⟨r2,h,rfl,rfl⟩,rfl⟩;refine au 3 ?_;refine ta (cQ aS r2.1) (au 8 ?_);refine tip h (λc3 h=>?_) (λc3 h=>?_)
 ·refine au 3 ?_;refine to (aFu 4 (aE rfl)) ?_;refine au 2 ?_;exact cG ⟨rfl,_,[],[.box b1 0 (aV a)],_,.two (.tmp 4 (v:=.d (.sl 4 ((([]:List aN)).map cY))) rfl) (.tmp 5 (v:=.i r2.2) rfl),.refl _,.same _,(([]:List aN),r2.2),h,rfl,rfl⟩
 ·refine au 3 ?_;refine bO rfl (dG (zs:=Z30) (aE rfl) zeroValue45 rfl rfl) ?_;rintro _ ⟨b4,rfl⟩;refine gW (aBf 49 4) ?_;refine au 4 ?_;refine tm (cQ aS r2.1) ?_;obtain⟨x5,h6,h⟩:=dN h;refine gW (bIe (enc:=aS) (k:=20) rfl h6) ?_;refine to (bYy (aE rfl) rfl rfl) ?_;refine bN (aKw ?_);obtain⟨s7,h8,h⟩:=dN h;refine pY ?_ bYm;refine bTj (S:=(List aN)×Value) (S0:=(List aN)) (f:=82) (ps:=[22,23]) (λb=>b.1) (λb=>[.box b1 0 (aV a),.box b4 0 [.lit b.2],.arr b.2 49 4 (b.1.map cY)]) (cAm (λj:aA=>.agg (aC j)) (λc:aN=>.agg (cY c)) _) (([]:List aN),(.slice none 0 0)) ([]:List aN) s7 (aO [0,1,2] rfl rfl (le_refl _)) rfl call82 rfl (by decide) rfl rfl (λl J hy m0 h0=>aJc (S:=(List aN)) J l _ (λ_ _ _ _ _ hJ hq=>hy _ _ _ _ hJ ⟨_,_,rfl,hq⟩) x5 _ m0 h0 h8) ?_ ?_
  ·rintro⟨e9,e⟩ _ _ ⟨j,c,rfl,h⟩;refine⟨rfl,?_⟩;refine bQ ?_;refine bO rfl (dG (zs:=[.j 0,.j 0,.j 0,.j 0]) (aE rfl) zeroValue49 rfl rfl) ?_;rintro _ ⟨q,rfl⟩;refine to (sst 3 rfl rfl sizeOf49 (cY c)) (au 4 ?_);refine to (sla 3 (cY c) rfl rfl bXm) (to (qG (aE rfl) bUs rfl rfl (rows:=([c]).map cY) rfl (dT (f:=cY) λ_=>rfl) rfl (by decide)) ?_);obtain⟨n,o,h⟩:=bns h;refine bO rfl (pM (i:=2) (aE rfl) bUs rfl rfl rfl (λ_=>rfl) o rfl) ?_;rintro _ ⟨m,rfl⟩;refine to (sst 1 rfl rfl sizeOf45 [.lit m]) ?_;refine kK ?_;obtain rfl:=sIn h;exact⟨(n,m),rfl,aO [0,1,2] rfl rfl aVu⟩
  ·rintro⟨e9,e⟩ p;subst p;refine au 6 ?_;exact cG ⟨rfl,_,[],[.box b1 0 (aV a),.box b4 0 [.lit e],.arr e 49 4 (e9.map cY)],_,.two (.tmp 4 (v:=.d (.lit e)) rfl) (.tmp 5 (v:=.i 0) rfl),.refl _,xE (.cons (.d (pE 2 rfl (dT (f:=cY) λ_=>rfl))) (.cons (.same _) .nil)),(e9,0),h,rfl,rfl⟩

theorem aDg(e:List bU)(f:bU->Option Bool){r:Int}(a:Nat)(c:List AV)(j:∀args w,(callFunc a args).run Tryz.prog w=.ok (.enter a args) w)(l:∀(x0:bU) r,f x0=some r->Fn Tryz.prog a ([.agg (kZ x0)]++c) (.b r))(h:jR e f=some r):Fn Tryz.prog 118 [.d (.sl 3 (e.map kZ)),.fn a c] (.i r):=by
 unfold jR at h;refine oT [.tmp 4] func118 results118 ntmps118 ?_;refine au 12 ?_;refine eV (S:=Int) [0,1,7] (λs1=>[(8,.i s1)]) (λs1=>[]) (λk s1=>eO e f (e.length:Int) k s1) (λ_=>rfl) (0) h (aO [] rfl rfl (aL rfl (aR (ae rfl)))) ?_;rintro k2 g h;simp only[eO] at h;refine au 5 ?_;refine tih h (λc3 h=>?_) (λc3 h=>?_)
 ·refine au 10 ?_;refine tm (.fn a c) (au 2 ?_);obtain⟨x4,h5,h⟩:=bns h;refine to (six rfl rfl bUr.of (cF kZ h5)) (to (aDe (kZ x4) rfl bUx) ?_);obtain⟨r6,h7,h⟩:=bns h;refine to (fZ (aE rfl) (.clo _ _ _ _ j rfl) (aLv rfl) rfl (BVs.refl _ _) (l _ _ h7) rfl) ?_;refine bN ?_;refine tih h (λc8 h=>?_) (λc8 h=>?_)
  ·refine au 5 ?_;obtain rfl:=sIn h;exact rt
  ·refine iO ?_;refine au 4 ?_;exact⟨(w64 (g+1)),h,aO [] rfl rfl (aL rfl (aR (ae rfl)))⟩
 ·refine cZ ?_;refine .inl ⟨rfl,?_⟩;simp only[nL] at h;refine au 4 ?_;obtain rfl:=sIn h;exact rt

theorem aAq(g:List bU)(i:bU->Option Bool){r:Bool}(a:Nat)(c:List AV)(e:∀args w,(callFunc a args).run Tryz.prog w=.ok (.enter a args) w)(f:∀(x0:bU) r,i x0=some r->Fn Tryz.prog a ([.agg (kZ x0)]++c) (.b r))(h:gX g i=some r):Fn Tryz.prog 58 [.d (.sl 3 (g.map kZ)),.fn a c] (.b r):=by
 unfold gX at h;refine oT [.tmp 4] func58 results58 ntmps58 ?_;refine au 7 ?_;refine tm (.fn a c) ?_;obtain⟨r1,h2,h⟩:=bns h;refine to (scr call118 (aDg _ _ a c e f h2)) (au 3 ?_);obtain rfl:=sIn h;exact rt

theorem bBs(a:bU){r:Bool}(h:zL a=some r):Fn Tryz.prog 59 [.agg (kZ a)] (.b r):=by
 unfold zL at h;refine fnx xT {} [.tmp 2] func59 results59 ntmps59 ?_;refine cl call60 (λ_=>aKn _ _) h λr2 h=>?_;cases h;exact⟨rfl,rfl,rfl⟩

theorem bCz(c:aF)(f:List aB)(a:Int)(b:Int){Q:((Option aP)×aA×Int)->Prop}(h:uT c f a b Q):dX Tryz.prog 84 (Z25 c f a b) [] (λr' o'=>∃(r:(Option aP)×aA×Int),Q r/\r'=.tup [cQ aS r.1,.agg (aC r.2.1),.i r.2.2]/\o'=[]):=by
 unfold uT at h;refine kF func84 rfl (rs:=[.tmp 8,.cell 9 143,.tmp 10]) results84 ntmps84 (Nat.le_of_ble_eq_true rfl) ?_;refine bT (bQ ?_);refine bO rfl (lC (v:=.agg (aV c)) (aE rfl) rfl rfl rfl) ?_;rintro _ ⟨b1,rfl⟩;refine ta (cQ aS (none:Option aP)) ?_;refine bO rfl (dG (zs:=[.j 0,.j 0]) (aE rfl) zeroValue143 rfl rfl) ?_;rintro _ ⟨b2,rfl⟩;refine au 4 ?_;refine to (sla 0 (aV c) rfl rfl tG) (tm (.d (Z7 f)) ?_);refine bO rfl (vV (aE rfl) (.func _ _ call53) rfl rfl (tO _ _ h)) ?_;rintro _ ⟨_,_,⟨r3,h,rfl,rfl⟩,rfl⟩;refine au 3 ?_;refine ta (cQ aS r3.1) (au 6 ?_);refine to (jT (aE rfl) aRd (zs:=[.j 0,.j 0]) rfl rfl rfl rfl (es:=[.j a,.j b]) rfl) ?_;refine bO rfl (dG (zs:=[.j 0,.j 0]) (aE rfl) zeroValue143 rfl rfl) ?_;rintro _ ⟨b4,rfl⟩;refine to (sst 2 rfl rfl sizeOf143 (aC (aA.mk a b))) (au 7 ?_);obtain⟨b5,h6,h⟩:=dN h;refine lJ 5 [9,11,12,13] 30 b5 ?_ ?_
 ·refine bch h6 (λe h6=>?_) (λe h6=>?_)
  ·refine tk e (sla 2 (aC (aA.mk a b)) rfl rfl oA) (tk e (sla 0 (aV c) rfl rfl tG) ?_);obtain⟨j,g,h6⟩:=bns h6;refine tk e (scr call146 (aDx _ _ g)) (au 2 ?_);obtain rfl:=sIn h6;refine bN (dQ rfl (ae rfl) rfl)
  ·refine au 5 ?_;obtain rfl:=sIn h6;refine bN (dQ rfl (ae rfl) rfl)
 ·refine bN ?_;refine tip h (λc7 h=>?_) (λc7 h=>?_)
  ·refine au 4 ?_;refine jX mix 5 [9] (λX8=>[(8,cQ aS r3.1),(33,.i 1)]) (λX8=>[.box b1 0 (aV c),.box b2 0 (aC (aA.mk a b)),.box b4 0 (aC (aA.mk a b))]) ?_ ?_
   ·refine⟨0,λX8=>[(31,0,cQ aS r3.1),(32,1,.agg (aC (aA.mk a b))),(33,2,.i 1),(8,3,cQ aS r3.1)],λX8=>[([],.box b1 0 (aV c)),([(4,.box b2 0 (aC (aA.mk a b)))],.box b2 0 (aC (aA.mk 0 0))),([],.box b4 0 (aC (aA.mk a b)))],?_,?_⟩
    · exact xok [(0,5),(0,5),(0,0),(1,5),(2,0)] ⟨λ_ _ w _ k=>xp w (ym k (cQ aS r3.1)),
 λ_ _ w _ k=>xp w (yla k 2 (aC (aA.mk a b)) rfl (og k rfl rfl) oA),
 λ_ _ w _ k=>xp w (ym k (.i 1)),
 λ_ _ w _ k=>xp w (ya k (cQ aS r3.1)),
 fun _ _ _ _ k=>xs 1 k rfl rfl (vG (i:=1) (aU k rfl) (og k rfl rfl) (aU k rfl) rfl rfl sizeOf143 rfl (aE rfl) (Nat.le_of_ble_eq_true rfl) (ds':=(aC (aA.mk a b))) rfl),trivial⟩
    · exactλX8=>cP (aL rfl (aL rfl (aR (ae rfl))))
   ·intro X8;refine au 2 ?_;exact cG ⟨rfl,_,[],[.box b1 0 (aV c),.box b2 0 (aC (aA.mk a b)),.box b4 0 (aC (aA.mk a b))],_,.three (.tmp 8 (v:=cQ aS r3.1) rfl) (.cell 9 143 rfl (i:=1) rfl oA (es:=(aC (aA.mk a b))) rfl rfl) (.tmp 10 (v:=.i 1) rfl),.refl _,.same _,(r3.1,(aA.mk a b),1),h,rfl,rfl⟩
  ·refine sD (bT ?_);refine jX mix 5 [9] (λX9=>[(8,cQ aS r3.1),(33,.i r3.2)]) (λX9=>[.box b1 0 (aV c),.box b2 0 (aC (aA.mk a b)),.box b4 0 (aC (aA.mk a b))]) ?_ ?_
   ·refine⟨0,λX9=>[(31,0,cQ aS r3.1),(32,1,.agg (aC (aA.mk a b))),(33,2,.i r3.2),(8,3,cQ aS r3.1)],λX9=>[([],.box b1 0 (aV c)),([(4,.box b2 0 (aC (aA.mk a b)))],.box b2 0 (aC (aA.mk 0 0))),([],.box b4 0 (aC (aA.mk a b)))],?_,?_⟩
    · exact xok [(0,5),(0,5),(0,0),(1,5),(2,0)] ⟨λ_ _ w _ k=>xp w (ym k (cQ aS r3.1)),
 λ_ _ w _ k=>xp w (yla k 2 (aC (aA.mk a b)) rfl (og k rfl rfl) oA),
 λ_ _ w _ k=>xp w (ym k (.i r3.2)),
 λ_ _ w _ k=>xp w (ya k (cQ aS r3.1)),
 fun _ _ _ _ k=>xs 1 k rfl rfl (vG (i:=1) (aU k rfl) (og k rfl rfl) (aU k rfl) rfl rfl sizeOf143 rfl (aE rfl) (Nat.le_of_ble_eq_true rfl) (ds':=(aC (aA.mk a b))) rfl),trivial⟩
    · exactλX9=>cP (aL rfl (aL rfl (aR (ae rfl))))
   ·intro X9;refine au 2 ?_;exact cG ⟨rfl,_,[],[.box b1 0 (aV c),.box b2 0 (aC (aA.mk a b)),.box b4 0 (aC (aA.mk a b))],_,.three (.tmp 8 (v:=cQ aS r3.1) rfl) (.cell 9 143 rfl (i:=1) rfl oA (es:=(aC (aA.mk a b))) rfl rfl) (.tmp 10 (v:=.i r3.2) rfl),.refl _,.same _,(r3.1,(aA.mk a b),r3.2),h,rfl,rfl⟩

theorem aSr(c:aF)(g:List aB)(e:Int)(f:Int){Q:(Int×Int)->Prop}(h:tL c g e f Q):dX Tryz.prog 31 (Z25 c g e f) [] (λr' o'=>∃(r:Int×Int),Q r/\r'=.tup [.i r.1,.i r.2]/\o'=[]):=by
 unfold tL at h;refine kF func31 rfl (rs:=[.tmp 8,.tmp 9]) results31 ntmps31 (Nat.le_of_ble_eq_true rfl) ?_;refine bT (bQ ?_);refine bO rfl (lC (v:=.agg (aV c)) (aE rfl) rfl rfl rfl) ?_;rintro _ ⟨b1,rfl⟩;refine au 5 ?_;refine to (sla 0 (aV c) rfl rfl tG) (au 3 ?_);refine bO rfl (vV (aE rfl) (.func _ _ call84) rfl rfl (bCz _ _ _ _ h)) ?_;rintro _ ⟨_,_,⟨r2,h,rfl,rfl⟩,rfl⟩;refine au 4 ?_;refine bO rfl (dG (zs:=[.j 0,.j 0]) (aE rfl) zeroValue143 rfl rfl) ?_;rintro _ ⟨b3,rfl⟩;refine ta (cQ aS r2.1) (to (sst 1 rfl rfl sizeOf143 (aC r2.2.1)) (au 8 ?_));refine tip h (λc4 h=>?_) (λc4 h=>?_)
 ·refine au 6 ?_;exact cG ⟨rfl,_,[],[.box b1 0 (aV c),.box b3 0 (aC r2.2.1)],_,.two (.tmp 8 (v:=.i 0) rfl) (.tmp 9 (v:=.i r2.2.2) rfl),.refl _,.same _,(0,r2.2.2),h,rfl,rfl⟩
 ·refine sD (bT ?_);obtain⟨x5,h6,h⟩:=dN h;refine fQ mix 10 [] [(13,.i (bR r2.2.1 0 x5.won)),(35,.b (eB r2.2.1 x5.won))] ?_ ?_
  ·refine⟨[(28,0,cQ aS r2.1),(29,1,.cp [.j x5.Tree.Rounds,.sl 1 (x5.Tree.Slots.map aD),.sl 1 (x5.players.map aD),.mp false (x5.won.map λp:aA×Int=>((λa:aA=>Value.agg ((aC a).map bA).toArray) p.1,aD p.2))]),(30,2,.cp [.mp false (x5.won.map λp:aA×Int=>((λa:aA=>Value.agg ((aC a).map bA).toArray) p.1,aD p.2))]),(31,3,.d (.mp false (x5.won.map λp:aA×Int=>((λa:aA=>Value.agg ((aC a).map bA).toArray) p.1,aD p.2)))),(32,4,.agg (aC r2.2.1)),(33,5,.tup [.i (bR r2.2.1 0 x5.won),.b (eB r2.2.1 x5.won)]),(27,6,.tup [.i (bR r2.2.1 0 x5.won),.b (eB r2.2.1 x5.won)]),(34,7,.i (bR r2.2.1 0 x5.won)),(35,8,.b (eB r2.2.1 x5.won)),(13,9,.i (bR r2.2.1 0 x5.won))],?_,?_⟩
   · exact dk [0,1,2,3,0,405,6,7,7,8] ⟨go (zm (cQ aS r2.1)),
 go λS hS=>zN (enc:=aS) (aE rfl) (aU hS rfl) h6,
 go (zfc [.mp false (x5.won.map λp:aA×Int=>((λa:aA=>Value.agg ((aC a).map bA).toArray) p.1,aD p.2))] rfl aAj),
 go (zlc rfl aGc),
 go (zla 1 (aC r2.2.1) rfl rfl oA),
 go λS hS=>aEy (enc:=aD) (agg:=false) (l:=x5.won) (z:=0) (a:=r2.2.1) (aE rfl) aCu underlying139 zeroValue3 (λ_ _=>.d (.lit _ rfl)) (aU hS rfl) rfl rfl (aU hS rfl) (mF (enc:=aC) r2.2.1 rfl),
 go (zm (.tup [.i (bR r2.2.1 0 x5.won),.b (eB r2.2.1 x5.won)])),
 go (zex rfl rfl),
 go (zex rfl rfl),
 go (za (.i (bR r2.2.1 0 x5.won))),trivial⟩
   · exact cP (aL rfl (aL rfl (aR trivial)))
  ·refine au 8 ?_;refine tip h (λc7 h=>?_) (λc7 h=>?_)
   ·refine au 5 ?_;exact cG ⟨rfl,_,[],[.box b1 0 (aV c),.box b3 0 (aC r2.2.1)],_,.two (.tmp 8 (v:=.i 0) rfl) (.tmp 9 (v:=.i 3) rfl),.refl _,.same _,(0,3),h,rfl,rfl⟩
   ·refine au 7 ?_;exact cG ⟨rfl,_,[],[.box b1 0 (aV c),.box b3 0 (aC r2.2.1)],_,.two (.tmp 8 (v:=.i (bR r2.2.1 0 x5.won)) rfl) (.tmp 9 (v:=.i 0) rfl),.refl _,.same _,(bR r2.2.1 0 x5.won,0),h,rfl,rfl⟩

theorem iB(d:Int)(c:Int)(a:Int){r:Bool}(h:dU d c a=some r):Fn Tryz.prog 75 [.i d,.i c,.i a] (.b r):=by
 unfold dU at h;refine fnx xT {} [.tmp 6] func75 results75 ntmps75 ?_;refine jg h (λx h=>?_) λb1 h=>?_
 ·refine br h (λh=>?_) λh=>?_
  ·exact jt h
  ·exact jt h
 ·cases h;exact⟨rfl,rfl,rfl⟩

theorem aNw(d:aF){r:Bool}(h:nG d=some r):Fn Tryz.prog 24 [.agg (aV d)] (.b r):=by
 unfold nG at h;refine fnx xT {} [.tmp 2] func24 results24 ntmps24 ?_;refine cl call75 (λ_=>iB _ _ _) h λr2 h=>?_;refine jg h (λx h=>?_) λb4 h=>?_
 ·refine br h (λh=>?_) λh=>?_
  ·exact jt h
  ·refine ol ?_;refine oge h λh=>?_;exact jt h
 ·refine br h (λh=>?_) λh=>?_
  ·cases h;exact⟨rfl,rfl,rfl⟩
  ·refine xlp [1] [1] (λ(c:Int)=>([(3,.i c)],[])) (λk (c:Int)=>gI d k c) (0) h (lev []) ?_;rintro k9 c h;simp only[gI] at h;refine ol ?_;refine br h (λh=>?_) λh=>?_
   ·refine oi h λe h=>?_;refine cl call75 (λ_=>iB _ _ _) h λf h=>?_;refine jg h (λx h=>?_) λg h=>?_
    ·refine br h (λh=>?_) λh=>?_
     ·exact jt h
     ·refine⟨by decide,?_⟩;refine jg h (λx h=>?_) λj h=>?_
      ·refine br h (λh=>?_) λh=>?_
       ·refine oi h λl h=>?_;exact jt h
       ·exact jt h
      ·refine jg h (λx h=>?_) λm h=>?_
       ·refine br h (λh=>?_) λh=>?_
        ·refine oi h λn h=>?_;exact jt h
        ·exact jt h
       ·exact jt h
    ·refine br h (λh=>?_) λh=>?_
     ·cases h;exact⟨rfl,rfl,rfl⟩
     ·refine xlp [1,3] [1] (λ(a:Int)=>([(4,.i a)],[])) (λk (a:Int)=>gJ (gI d k9) c d k a) (0) h (lev []) ?_;rintro o a h;simp only[gJ] at h;refine br h (λh=>?_) λh=>?_
      ·refine⟨by kernel_rfl,?_⟩;refine oi h λp h=>?_;refine oi h λq h=>?_;refine jo h (λx h=>?_) λs h=>?_
       ·refine br h (λh=>?_) λh=>?_
        ·refine oi h λt h=>?_;exact⟨by kernel_rfl,jt h⟩
        ·exact⟨by kernel_rfl,jt h⟩
       ·refine⟨by kernel_rfl,?_⟩;refine br h (λh=>?_) λh=>?_
        ·cases h;exact⟨rfl,rfl,rfl⟩
        ·exact⟨(w64 (a+1)),h,lev []⟩
      ·simp only[vC] at h;simp only[vB] at h;exact⟨(w64 (c+1)),h,lev []⟩
   ·simp only[uZ] at h;cases h;exact⟨rfl,rfl,rfl⟩

theorem wC(b:aF)(a:Int){r:Int}(h:jW b a=some r):Fn Tryz.prog 27 [.agg (aV b),.i a] (.i r):=by
 unfold jW at h;refine fnx xT {} [.tmp 4] func27 results27 ntmps27 ?_;refine oge h λh=>?_;cases h;exact⟨rfl,rfl,rfl⟩

theorem aAz(d:aF)(a:Int)(c:Int){r:Bool}(h:lV d a c=some r):Fn Tryz.prog 176 [.agg (aV d),.i a,.i c] (.b r):=by
 unfold lV at h;refine fnx xT {} [.tmp 6] func176 results176 ntmps176 ?_;refine cl call75 (λ_=>iB _ _ _) h λr2 h=>?_;refine jg h (λx h=>?_) λb4 h=>?_
 ·refine br h (λh=>?_) λh=>?_
  ·refine cl call27 (λ_=>wC _ _) h λr6 h=>?_;refine cl call75 (λ_=>iB _ _ _) h λr8 h=>?_;exact jt h
  ·exact jt h
 ·cases h;exact⟨rfl,rfl,rfl⟩

theorem aNy(a:aF)(c:aB){r:Bool}(h:qI a c=some r):Fn Tryz.prog 121 [.agg (aV a),.agg (aK c)] (.b r):=by
 unfold qI at h;refine fnx xT {} [.tmp 4] func121 results121 ntmps121 ?_;refine cl call75 (λ_=>iB _ _ _) h λr3 h=>?_;refine br h (λh=>?_) λh=>?_
 ·cases h;exact⟨rfl,rfl,rfl⟩
 ·refine br h (λh=>?_) λh=>?_
  ·refine jg h (λx h=>?_) λb5 h=>?_
   ·refine br h (λh=>?_) λh=>?_
    ·refine ol ?_;refine cl call75 (λ_=>iB _ _ _) h λr7 h=>?_;exact jt h
    ·exact jt h
   ·refine jg h (λx h=>?_) λb9 h=>?_
    ·refine br h (λh=>?_) λh=>?_
     ·refine cl call75 (λ_=>iB _ _ _) h λd h=>?_;exact jt h
     ·exact jt h
    ·cases h;exact⟨rfl,rfl,rfl⟩
  ·refine cl call75 (λ_=>iB _ _ _) h λe h=>?_;refine jg h (λx h=>?_) λf h=>?_
   ·refine br h (λh=>?_) λh=>?_
    ·exact jt h
    ·refine cl call176 (λ_=>aAz _ _ _) h λg h=>?_;exact jt h
   ·refine jg h (λx h=>?_) λi h=>?_
    ·refine br h (λh=>?_) λh=>?_
     ·exact jt h
     ·exact jt h
    ·refine br h (λh=>?_) λh=>?_
     ·cases h;exact⟨rfl,rfl,rfl⟩
     ·refine jg h (λx h=>?_) λj h=>?_
      ·refine br h (λh=>?_) λh=>?_
       ·exact jt h
       ·refine oi h λk h=>?_;refine jg h (λx h=>?_) λl h=>?_
        ·refine br h (λh=>?_) λh=>?_
         ·refine oi h λm h=>?_;exact jt h
         ·exact jt h
        ·exact jt h
      ·cases h;exact⟨rfl,rfl,rfl⟩

theorem aFa(j:List aB){r:(List aB)}(h:pT j=some r):Fn Tryz.prog 178 [.d (Z7 j)] (.d (.sl 5 (r.map aK))):=by
 unfold pT at h;refine fnx xT {ow:=[3]} [.tmp 2] func178 results178 ntmps178 ?_;refine xlp [0] [] (λ((e,c):Int×(List aB))=>([(3,.d (.hv 0 3 0)),(4,.i e)],[(3,.arr 95 5 (c.map aK))])) (λk ((e,c):Int×(List aB))=>eM j k e c) (0,([]:List aB)) h (lev []) ?_;rintro k3 ⟨e,c⟩ h;simp only[eM] at h;refine ol ?_;refine br h (λh=>?_) λh=>?_
 ·refine xlp [0,3,4] [3] (λ((f,g):Bool×Int)=>([(5,.b f),(6,.i g)],[])) (λk ((f,g):Bool×Int)=>iV (eM j k3) j e c k f g) (false,0) h (lev []) ?_;rintro k5 ⟨f,g⟩ h;simp only[iV] at h;refine ol ?_;refine br h (λh=>?_) λh=>?_
  ·refine⟨by kernel_rfl,?_⟩;refine jo h (λx h=>?_) λb6 h=>?_
   ·refine br h (λh=>?_) λh=>?_
    ·exact⟨by kernel_rfl,jt h⟩
    ·refine oiy h λx8 h9 h=>?_;refine⟨rfl,_,fY aK h9,?_⟩;refine oi h λl h=>?_;refine bYo (a:=x8) (b:=l) Tryz.eqGuardType95 bDo ?_;exact⟨by kernel_rfl,jt h⟩
   ·refine⟨by kernel_rfl,?_⟩;exact⟨(b6,w64 (g+1)),h,lev []⟩
  ·simp only[pB] at h;refine br h (λh=>?_) λh=>?_
   ·refine oi h λn h=>?_;refine oap h λm h=>?_;simp only[mB] at h;exact⟨(w64 (e+1),m),h,lev [(3,39)]⟩
   ·simp only[mB] at h;exact⟨(w64 (e+1),c),h,lev []⟩
 ·simp only[xN] at h;cases h;exact⟨rfl,rfl,rfl⟩

theorem aUy(c:List Int)(e:Int){r:Bool}(h:vN c e=some r):Fn Tryz.prog 221 [.d (Z15 c),.i e] (.b r):=by
 unfold vN at h;refine fnx xT {} [.tmp 4] func221 results221 ntmps221 ?_;refine xlp [0,1] [] (λ(a:Int)=>([(5,.i a)],[])) (λk (a:Int)=>lU c e k a) (0) h (lev []) ?_;rintro k2 a h;simp only[lU] at h;refine ol ?_;refine br h (λh=>?_) λh=>?_
 ·refine oi h λx3 h=>?_;refine br h (λh=>?_) λh=>?_
  ·cases h;exact⟨rfl,rfl,rfl⟩
  ·exact⟨(w64 (a+1)),h,lev []⟩
 ·simp only[zW] at h;cases h;exact⟨rfl,rfl,rfl⟩

theorem aLp(s:aF)(u:List aB){r:(List Int)×Bool}(h:oZ s u=some r):Fn Tryz.prog 177 (Z17 s u) (.tup [.d (.sl 1 (r.1.map aD)),.b r.2]):=by
 unfold oZ at h;refine fnx xT {ow:=[8,13,18]} [.tmp 4,.tmp 5] func177 results177 ntmps177 ?_;refine cd call178 (λ_=>aFa _) h λr2 h=>?_;refine oap h λx5 h=>?_;refine xlp [2,6] [2] (λ((j,n,e,o):Int×Int×Z14×Z14)=>([(7,.d (.hv 0 21 0)),(8,.d (.hv 0 8 0)),(9,.i j),(10,.i n)],[(8,.arr 3 1 (e.map aD)),(21,.arr 3 1 (o.map aD))])) (λk ((j,n,e,o):Int×Int×Z14×Z14)=>dZ r2 s k j n e o) (0,0,([]:List Int),x5) h (lev []) ?_;rintro t ⟨j,n,e,o⟩ h;simp only[dZ] at h;refine ol ?_;refine br h (λh=>?_) λh=>?_
 ·refine oi h λv h=>?_;refine xlp [2,6,8,10] [2,8] (λ((a,l,m,c):Int×Int×Bool×Z14)=>([(7,.d (.hv 0 21 0)),(9,.i a),(11,.i l),(12,.b m)],[(21,.arr 3 1 (c.map aD))])) (λk ((a,l,m,c):Int×Int×Bool×Z14)=>gF (dZ r2 s t) r2 n s e k a l m c) (j,v,true,o) h (lev []) ?_;rintro w ⟨a,l,m,c⟩ h;simp only[gF] at h;refine br h (λh=>?_) λh=>?_
  ·refine xlp [2,6,7,8,9,10,11,12] [2,8,21] (λ((p,g):Int×Z14)=>([(13,.d (.hv 0 13 0)),(14,.i p)],[(13,.arr 3 1 (g.map aD))])) (λk ((p,g):Int×Z14)=>fE (dZ r2 s t) (gF (dZ r2 s t) r2 n s e w) r2 a n l false s e c k p g) (0,([]:List Int)) h (lev []) ?_;rintro F ⟨p,g⟩ h;simp only[fE] at h;refine ol ?_;refine br h (λh=>?_) λh=>?_
   ·refine oi h λG h=>?_;refine jg h (λx h=>?_) λH h=>?_
    ·refine br h (λh=>?_) λh=>?_
     ·refine oi h λI h=>?_;exact jt h
     ·exact jt h
    ·refine jg h (λx h=>?_) λK h=>?_
     ·refine br h (λh=>?_) λh=>?_
      ·refine oi h λL h=>?_;exact jt h
      ·exact jt h
     ·refine br h (λh=>?_) λh=>?_
      ·refine oi h λM h=>?_;refine oap h λy h=>?_;exact⟨(w64 (p+1),y),h,lev [(13,72)]⟩
      ·exact⟨(w64 (p+1),g),h,lev []⟩
   ·simp only[lX] at h;refine ol ?_;refine jg h (λx h=>?_) λN h=>?_
    ·refine br h (λh=>?_) λh=>?_
     ·exact jt h
     ·refine ol ?_;refine jg h (λx h=>?_) λO h=>?_
      ·refine br h (λh=>?_) λh=>?_
       ·refine oiy h λP z h=>?_;refine⟨rfl,_,fY aD z,?_⟩;refine cl call221 (λ_=>aUy _ _) h λQ h=>?_;exact jt h
       ·exact jt h
      ·exact jt h
    ·refine br h (λh=>?_) λh=>?_
     ·cases h;exact⟨rfl,_,_,rfl,rfl,rfl,rfl,rfl⟩
     ·refine ol ?_;refine br h (λh=>?_) λh=>?_
      ·refine oiy h λA B h=>?_;refine⟨rfl,_,fY aD B,?_⟩;refine oap h λC h=>?_;simp only[kJ] at h;exact⟨(w64 (a+1),A,true,C),h,lev [(21,97)]⟩
      ·simp only[kJ] at h;exact⟨(a,l,false,c),h,lev []⟩
  ·simp only[pS] at h;refine oap h λE h=>?_;simp only[tS] at h;exact⟨(a,w64 (n+1),E,c),h,lev [(8,103)]⟩
 ·simp only[tR] at h;refine xlp [6,8] [8] (λ((f,q):Int×Int)=>([(9,.i f),(15,.i q)],[])) (λk ((f,q):Int×Int)=>fF r2 e k f q) (j,0) h (lev []) ?_;rintro S ⟨f,q⟩ h;simp only[fF] at h;refine ol ?_;refine br h (λh=>?_) λh=>?_
  ·refine oi h λT h=>?_;refine br h (λh=>?_) λh=>?_
   ·exact⟨(w64 (f-1),w64 (q+1)),h,lev []⟩
   ·exact⟨(f,w64 (q+1)),h,lev []⟩
  ·simp only[tT] at h;cases h;exact⟨rfl,_,_,rfl,rfl,rfl,rfl,rfl⟩

theorem yZ (q :aF)(P:List aB){r:aJ×Bool}(h:cL q P=some r):Fn Tryz.prog 122 (Z17 q P) (.tup [.agg (cA r.1),.b r.2]):=by
 unfold cL at h;refine vI func122 rfl (rs:=[.cell 4 201,.tmp 5]) results122 ntmps122 (Nat.le_of_ble_eq_true rfl) ?_;refine bT (bQ ?_);refine bO rfl (lC (v:=.agg (aV q)) (aE rfl) rfl rfl rfl) ?_;rintro _ ⟨b1,rfl⟩;refine bO rfl (dG (zs:=Z4) (aE rfl) zeroValue201 rfl rfl) ?_;rintro _ ⟨b2,rfl⟩;refine au 4 ?_;refine to (sla 0 (aV q) rfl rfl tG) (tm (.d (Z7 P)) ?_);obtain⟨r3,h4,h⟩:=bns h;refine to (nH (aE rfl) (.func _ _ call177) rfl rfl (aLp _ _ h4)) ?_;refine au 12 ?_;refine tih h (λc5 h=>?_) (λc5 h=>?_)
 ·refine bT (bQ (to (jT (aE rfl) aKv (zs:=Z4) rfl rfl rfl rfl (es:=Z4) rfl) ?_));refine to (sst 1 rfl rfl sizeOf201 (cA Z2)) (au 2 ?_);obtain rfl:=sIn h;exact cG ⟨rfl,_,[.box b1 0 (aV q),.box b2 0 (cA Z2)],.two (.cell 4 201 rfl (i:=1) rfl aFz (es:=(cA Z2)) rfl rfl) (.tmp 5 (v:=.b false) rfl),.refl _,.same _⟩
 ·refine au 4 ?_;refine to (jT (aE rfl) aKv (zs:=[.sl 1 Z22,.lit (.slice none 0 0)]) rfl rfl rfl rfl (es:=[.sl 1 (r3.1.map aD),.lit (.slice none 0 0)]) rfl) ?_;refine bO rfl (dG (zs:=[.sl 1 Z22,.lit (.slice none 0 0)]) (aE rfl) zeroValue201 rfl rfl) ?_;rintro _ ⟨b6,rfl⟩;refine gW (aBf 23 1) ?_;refine gW (bKm 3 1) ?_;refine to (sst 2 rfl rfl sizeOf201 [.sl 1 (r3.1.map aD),.lit (.slice none 0 0)]) (au 7 ?_);refine eV (S:=Int×(List Z14)×Z14×(List Value)×Value) [1,2,4,6,8] (λs7=>[(9,.i s7.1)]) (λs7=>[.box b1 0 (aV q),.box b2 0 (cA Z2),.fam 3 1 s7.2.2.2.1 (s7.2.1.map λr=>r.map aD),.arr s7.2.2.2.2 23 1 (s7.2.2.2.1.map λv=>[.lit v]),.box b6 0 [.sl 1 (s7.2.2.1.map aD),.lit s7.2.2.2.2]]) (λk s7=>gL P r3.1 q Z2 k s7.1 s7.2.1 s7.2.2.1) (λ_=>rfl) (0,([]:List Z14),r3.1,[],(.slice none 0 0)) h (aO [0,1,4,3,2] rfl rfl (aL rfl (aR (ae rfl)))) ?_;rintro d2 ⟨V,H,c,C,w9⟩ h;simp only[gL] at h;refine au 8 ?_;refine tih h (λd3 h=>?_) (λd3 h=>?_)
  ·refine au 5 ?_;refine to (sR 3 1 (.inl rfl) (aE rfl)) ?_;refine au 7 ?_;refine eV (S:=Int×Z14×Value) [1,2,4,6,8,9] (λE=>[(10,.d (.lit E.2.2)),(11,.i E.1)]) (λE=>[.box b1 0 (aV q),.box b2 0 (cA Z2),.fam 3 1 C (H.map λr=>r.map aD),.arr w9 23 1 (C.map λv=>[.lit v]),.box b6 0 [.sl 1 (c.map aD),.lit w9],.arr E.2.2 3 1 (E.2.1.map aD)]) (λk E=>eL (gL P r3.1 q Z2 d2) P r3.1 V q Z2 H c k E.1 E.2.1) (λ_=>rfl) (0,([]:List Int),(.slice none 0 0)) h (aO [0,1,2,3,4,5] rfl rfl (aL rfl (aL rfl (aR (ae rfl))))) ?_;rintro i1 ⟨A,c8,Z⟩ h;simp only[eL] at h;refine au 4 ?_;refine to (sla 0 (aV q) rfl rfl tG) (tm (.i V) ?_);obtain⟨i2,d4,h⟩:=bns h;refine to (scr call27 (wC _ _ d4)) (au 2 ?_);refine tih h (λd5 h=>?_) (λd5 h=>?_)
   ·refine au 13 ?_;obtain⟨d6,I,h⟩:=bns h;refine lJ 7 [1,2,4,6,8,9,10,11,12] 55 d6 ?_ ?_
    ·refine bch I (λb7 I=>?_) (λb7 I=>?_)
     ·refine au 3 ?_;obtain⟨i3,d7,I⟩:=bns I;refine tk b7 (six rfl rfl cR.of (cF aD d7)) (au 3 ?_);obtain rfl:=sIn I;refine bN (dQ rfl (ae rfl) rfl)
     ·refine au 7 ?_;obtain rfl:=sIn I;refine bN (dQ rfl (ae rfl) rfl)
    ·refine bN ?_;refine tih h (λd8 h=>?_) (λd8 h=>?_)
     ·refine au 5 ?_;obtain⟨d9,e0,h⟩:=bns h;refine to (six rfl rfl cR.of (cF aD e0)) (au 9 ?_);obtain⟨e1,K,h⟩:=bns h;refine lJ 8 [1,2,4,6,8,9,10,11,12] 72 e1 ?_ ?_
      ·refine bch K (λb8 K=>?_) (λb8 K=>?_)
       ·refine au 4 ?_;obtain⟨i4,e2,K⟩:=bns K;refine tk b8 (six rfl rfl cR.of (cF aD e2)) (au 3 ?_);obtain rfl:=sIn K;refine bN (dQ rfl (ae rfl) rfl)
       ·refine au 8 ?_;obtain rfl:=sIn K;refine bN (dQ rfl (ae rfl) rfl)
      ·refine bN ?_;refine tih h (λe3 h=>?_) (λe3 h=>?_)
       ·refine au 4 ?_;obtain⟨e4,e5,h⟩:=bns h;refine to (six rfl rfl cR.of (cF aD e5)) (au 6 ?_);refine to (qG (aE rfl) cR rfl rfl (rows:=([e4]).map aD) rfl (dT (f:=aD) λ_=>rfl) rfl (by decide)) ?_;obtain⟨e6,e7,h⟩:=bns h;refine bO rfl (pM (i:=5) (aE rfl) cR rfl rfl rfl (λ_=>rfl) e7 rfl) ?_;rintro _ ⟨b9,rfl⟩;refine ta (.d (.lit b9)) ?_;refine kK ?_;refine au 5 ?_;exact⟨(w64 (A+1),e6,b9),h,aO [0,1,2,3,4,5] rfl rfl (aL rfl (aL rfl (aR (ae rfl))))⟩
       ·refine au 4 ?_;refine to (qG (aE rfl) cR rfl rfl (rows:=([d9]).map aD) rfl (dT (f:=aD) λ_=>rfl) rfl (by decide)) ?_;obtain⟨e8,e9,h⟩:=bns h;refine bO rfl (pM (i:=5) (aE rfl) cR rfl rfl rfl (λ_=>rfl) e9 rfl) ?_;rintro _ ⟨c0,rfl⟩;refine ta (.d (.lit c0)) ?_;refine kK ?_;refine au 5 ?_;exact⟨(w64 (A+1),e8,c0),h,aO [0,1,2,3,4,5] rfl rfl (aL rfl (aL rfl (aR (ae rfl))))⟩
     ·refine au 7 ?_;obtain⟨f0,L,h⟩:=bns h;refine lJ 8 [1,2,4,6,8,9,10,11,12] 72 f0 ?_ ?_
      ·refine bch L (λc1 L=>?_) (λc1 L=>?_)
       ·refine au 4 ?_;obtain⟨i5,f1,L⟩:=bns L;refine tk c1 (six rfl rfl cR.of (cF aD f1)) (au 3 ?_);obtain rfl:=sIn L;refine bN (dQ rfl (ae rfl) rfl)
       ·refine au 8 ?_;obtain rfl:=sIn L;refine bN (dQ rfl (ae rfl) rfl)
      ·refine bN ?_;refine tih h (λf2 h=>?_) (λf2 h=>?_)
       ·refine au 4 ?_;obtain⟨f3,f4,h⟩:=bns h;refine to (six rfl rfl cR.of (cF aD f4)) (au 6 ?_);refine to (qG (aE rfl) cR rfl rfl (rows:=([f3]).map aD) rfl (dT (f:=aD) λ_=>rfl) rfl (by decide)) ?_;obtain⟨f5,f6,h⟩:=bns h;refine bO rfl (pM (i:=5) (aE rfl) cR rfl rfl rfl (λ_=>rfl) f6 rfl) ?_;rintro _ ⟨c2,rfl⟩;refine ta (.d (.lit c2)) ?_;refine kK ?_;refine au 5 ?_;exact⟨(w64 (A+1),f5,c2),h,aO [0,1,2,3,4,5] rfl rfl (aL rfl (aL rfl (aR (ae rfl))))⟩
       ·refine au 4 ?_;refine to (qG (aE rfl) cR rfl rfl (rows:=([(-2)]).map aD) rfl (dT (f:=aD) λ_=>rfl) rfl (by decide)) ?_;obtain⟨f7,f8,h⟩:=bns h;refine bO rfl (pM (i:=5) (aE rfl) cR rfl rfl rfl (λ_=>rfl) f8 rfl) ?_;rintro _ ⟨c3,rfl⟩;refine ta (.d (.lit c3)) ?_;refine kK ?_;refine au 5 ?_;exact⟨(w64 (A+1),f7,c3),h,aO [0,1,2,3,4,5] rfl rfl (aL rfl (aL rfl (aR (ae rfl))))⟩
   ·refine cZ ?_;refine .inl ⟨rfl,?_⟩;simp only[lZ] at h;refine au 4 ?_;refine to (qG (aE rfl) aRb rfl rfl (rows:=[[.lit Z]]) rfl (λr hr=>by cases hr with|head=>rfl|tail _ h=>cases h) rfl (by decide)) ?_;obtain⟨c4,c6,h⟩:=bns h;refine bO rfl (bFr (m:=3) (f:=2) (aE rfl) aRb rfl rfl rfl rfl c6 rfl) ?_;rintro _ ⟨a5,rfl⟩;refine gW (bGw (i:=2) [.box b1 0 (aV q),.box b2 0 (cA Z2),.fam 3 1 C (H.map λr=>r.map aD),.arr a5 23 1 ((C++[Z]).map λv=>[.lit v]),.box b6 0 [.sl 1 (c.map aD),.lit w9]] [.box b1 0 (aV q),.box b2 0 (cA Z2),.fam 3 1 (C++[Z]) (c4.map λr=>r.map aD),.arr a5 23 1 ((C++[Z]).map λv=>[.lit v]),.box b6 0 [.sl 1 (c.map aD),.lit w9]] rfl rfl c6 rfl) ?_;refine to (sf rfl aAl) (to (sst 4 rfl rfl sizeOf73 [.sl 1 (c.map aD),.lit a5]) ?_);refine kK ?_;simp only[xK] at h;refine au 5 ?_;exact⟨(w64 (V+1),c4,c,(C++[Z]),a5),h,aO [0,1,2,3,4] rfl rfl (aL rfl (aR (ae rfl)))⟩
  ·refine cZ ?_;refine .inl ⟨rfl,?_⟩;simp only[lY] at h;refine au 3 ?_;obtain⟨M,f9,h⟩:=bns h;refine to (nH (aE rfl) (.func _ _ call178) rfl rfl (aFa _ f9)) ?_;refine au 8 ?_;refine eV (S:=Int×aJ×(List Z14)×(List Value)) [4,6,8,13] (λy=>[(14,.i y.1)]) (λy=>[.box b2 0 (cA y.2.1),.fam 3 1 y.2.2.2 (y.2.2.1.map λr=>r.map aD),.arr w9 23 1 (y.2.2.2.map λv=>[.lit v]),.box b6 0 [.sl 1 (c.map aD),.lit w9]]) (λk y=>dE r3.1 M c k y.1 y.2.1 y.2.2.1) (λ_=>rfl) (0,Z2,H,C) h (aO [1,2,3,4] rfl rfl (aL rfl (aR (ae rfl)))) ?_;rintro a7 ⟨t,Q,n,o⟩ h;simp only[dE] at h;refine au 8 ?_;refine tih h (λg0 h=>?_) (λg0 h=>?_)
   ·refine au 7 ?_;obtain⟨l,g1,h⟩:=bns h;refine to (six rfl rfl aXa.of (cF aK g1)) (to (aDe (aK l) rfl tH) ?_);refine bO rfl (dG (zs:=[.j 0,.j 0,.j 0,.j 0,.j 0]) (aE rfl) zeroValue95 rfl rfl) ?_;rintro _ ⟨B,rfl⟩;refine to (sst 4 rfl rfl sizeOf95 (aK l)) (au 8 ?_);refine tih h (λg2 h=>?_) (λg2 h=>?_)
    ·refine cZ ?_;refine .inl ⟨rfl,?_⟩;simp only[mA] at h;refine au 5 ?_;exact⟨(w64 (t+1),Q,n,o),h,aO [0,1,2,3] rfl rfl (aL rfl (aR (ae rfl)))⟩
    ·refine au 7 ?_;refine eV (S:=Int×aJ) [4,6,8,13,14,15] (λT=>[(16,.i T.1)]) (λT=>[.box b2 0 (cA T.2),.fam 3 1 o (n.map λr=>r.map aD),.arr w9 23 1 (o.map λv=>[.lit v]),.box b6 0 [.sl 1 (c.map aD),.lit w9],.box B 0 (aK l)]) (λk T=>iU (dE r3.1 M c a7) r3.1 M t n c l k T.1 T.2) (λ_=>rfl) (0,Q) h (aO [0,1,2,3,4] rfl rfl (aL rfl (aR (ae rfl)))) ?_;rintro i6 ⟨a8,w⟩ h;simp only[iU] at h;refine au 7 ?_;refine tih h (λg3 h=>?_) (λg3 h=>?_)
     ·refine au 7 ?_;obtain⟨a9,g4,h⟩:=bns h;refine to (six rfl rfl aXa.of (cF aK g4)) (to (aDe (aK a9) rfl tH) ?_);refine bO rfl (dG (zs:=[.j 0,.j 0,.j 0,.j 0,.j 0]) (aE rfl) zeroValue95 rfl rfl) ?_;rintro _ ⟨g5,rfl⟩;refine to (sst 5 rfl rfl sizeOf95 (aK a9)) (au 7 ?_);obtain⟨c7,a2,h⟩:=bns h;refine lJ 6 [4,6,8,13,14,15,16,17] 121 c7 ?_ ?_
      ·refine bch a2 (λg6 a2=>?_) (λg6 a2=>?_)
       ·refine au 6 ?_;obtain rfl:=sIn a2;refine bN (dQ rfl (ae rfl) rfl)
       ·refine au 6 ?_;obtain rfl:=sIn a2;refine bN (dQ rfl (ae rfl) rfl)
      ·refine tm (.b c7) ?_;obtain⟨g7,a3,h⟩:=bns h;refine lJ 6 [4,6,8,13,14,15,16] 128 g7 ?_ ?_
       ·refine bch a3 (λg8 a3=>?_) (λg8 a3=>?_)
        ·refine au 6 ?_;obtain rfl:=sIn a3;refine bN (dQ rfl (ae rfl) rfl)
        ·refine au 6 ?_;obtain rfl:=sIn a3;refine bN (dQ rfl (ae rfl) rfl)
       ·refine bN ?_;refine tih h (λg9 h=>?_) (λg9 h=>?_)
        ·refine bT (bQ (to (jT (aE rfl) aKv (zs:=Z4) rfl rfl rfl rfl (es:=Z4) rfl) ?_));refine to (sst 0 rfl rfl sizeOf201 (cA Z2)) (au 2 ?_);obtain rfl:=sIn h;exact cG ⟨rfl,_,[.box b2 0 (cA Z2),.fam 3 1 o (n.map λr=>r.map aD),.arr w9 23 1 (o.map λv=>[.lit v]),.box b6 0 [.sl 1 (c.map aD),.lit w9],.box B 0 (aK l),.box g5 0 (aK a9)],.two (.cell 4 201 rfl (i:=0) rfl aFz (es:=(cA Z2)) rfl rfl) (.tmp 5 (v:=.b false) rfl),.refl _,.same _⟩
        ·refine iO ?_;refine au 5 ?_;exact⟨(w64 (a8+1),w),h,aO [0,1,2,3,4] rfl rfl (aL rfl (aR (ae rfl)))⟩
     ·refine cZ ?_;refine .inl ⟨rfl,?_⟩;simp only[sJ] at h;refine au 10 ?_;refine eV (S:=Int×Int) [4,6,8,13,14,15] (λU=>[(18,.i U.1),(19,.i U.2)]) (λU=>[.box b2 0 (cA w),.fam 3 1 o (n.map λr=>r.map aD),.arr w9 23 1 (o.map λv=>[.lit v]),.box b6 0 [.sl 1 (c.map aD),.lit w9],.box B 0 (aK l)]) (λk U=>eA (dE r3.1 M c a7) r3.1 M t w n c l k U.1 U.2) (λ_=>rfl) ((-1),0) h (aO [0,1,2,3,4] rfl rfl (aL rfl (aL rfl (aR (ae rfl))))) ?_;rintro i7 ⟨e,u⟩ h;simp only[eA] at h;refine au 8 ?_;refine tih h (λh0 h=>?_) (λh0 h=>?_)
      ·refine au 4 ?_;obtain⟨b0,h1,h⟩:=bns h;refine fQ mix 6 [4,6,8,13,14,15,18,19] [(139,.i b0),(141,.i l.Player)] ?_ ?_
       ·refine⟨[(136,0,.d (.sl 1 (r3.1.map aD))),(137,1,.i u),(138,2,.cp [.j b0]),(139,3,.i b0),(140,4,.bp B 0 3),(141,5,.i l.Player)],?_,?_⟩
        · exact dk [0,0,102,3,0,5] ⟨go (zm (.d (.sl 1 (r3.1.map aD)))),
 go (zm (.i u)),
 go (zix rfl rfl cR.of (cF aD h1)),
 go (zlc rfl dI),
 go (zf rfl aCs),
 go (zl 4 rfl rfl rfl dI),trivial⟩
        · exact cP (aL rfl (aL rfl (aR (ae rfl))))
       ·refine au 2 ?_;refine tih h (λh2 h=>?_) (λh2 h=>?_)
        ·refine au 3 ?_;refine kK ?_;refine au 5 ?_;exact⟨(u,w64 (u+1)),h,aO [0,1,2,3,4] rfl rfl (aL rfl (aL rfl (aR (ae rfl))))⟩
        ·refine iO ?_;refine au 5 ?_;exact⟨(e,w64 (u+1)),h,aO [0,1,2,3,4] rfl rfl (aL rfl (aL rfl (aR (ae rfl))))⟩
      ·refine cZ ?_;refine .inl ⟨rfl,?_⟩;simp only[iT] at h;refine au 6 ?_;obtain⟨h3,N,h⟩:=bns h;refine lJ 10 [4,6,8,13,14,15,18] 156 h3 ?_ ?_
       ·refine bch N (λa4 N=>?_) (λa4 N=>?_)
        ·refine au 10 ?_;obtain rfl:=sIn N;refine bN (dQ rfl (ae rfl) rfl)
        ·refine au 4 ?_;refine tk a4 (bFs (aE rfl) rfl runUnderlying3 runUnderlying160) ?_;obtain⟨h8,c9,N⟩:=bns N;refine tk a4 (bCd (aE rfl) rfl rfl (aIm c9)) ?_;refine au 4 ?_;obtain rfl:=sIn N;refine bN (dQ rfl (ae rfl) rfl)
       ·refine bN ?_;refine tih h (λh5 h=>?_) (λh5 h=>?_)
        ·refine bT (bQ (to (jT (aE rfl) aKv (zs:=Z4) rfl rfl rfl rfl (es:=Z4) rfl) ?_));refine to (sst 0 rfl rfl sizeOf201 (cA Z2)) (au 2 ?_);obtain rfl:=sIn h;exact cG ⟨rfl,_,[.box b2 0 (cA Z2),.fam 3 1 o (n.map λr=>r.map aD),.arr w9 23 1 (o.map λv=>[.lit v]),.box b6 0 [.sl 1 (c.map aD),.lit w9],.box B 0 (aK l)],.two (.cell 4 201 rfl (i:=0) rfl aFz (es:=(cA Z2)) rfl rfl) (.tmp 5 (v:=.b false) rfl),.refl _,.same _⟩
        ·refine au 5 ?_;refine aGe ?_;refine eV (S:=Int×aJ×(List Z14)×(List Value)) [4,6,8,13,14,15,18] (λz=>[(20,.i z.1)]) (λz=>[.box b2 0 (cA z.2.1),.fam 3 1 z.2.2.2 (z.2.2.1.map λr=>r.map aD),.arr w9 23 1 (z.2.2.2.map λv=>[.lit v]),.box b6 0 [.sl 1 (c.map aD),.lit w9],.box B 0 (aK l)]) (λk z=>iA (dE r3.1 M c a7) r3.1 M t e c l k z.1 z.2.1 z.2.2.1) (λ_=>rfl) (0,w,n,o) h (aO [0,1,2,3,4] rfl rfl (aL rfl (aR (ae rfl)))) ?_;rintro i8 ⟨a,O,x,p⟩ h;simp only[iA] at h;refine au 8 ?_;refine tih h (λh6 h=>?_) (λh6 h=>?_)
         ·refine au 8 ?_;refine to (bFs (aE rfl) rfl runUnderlying3 runUnderlying160) ?_;obtain⟨i9,h7,h⟩:=bns h;refine to (bCd (aE rfl) rfl rfl (aIm h7)) ?_;refine au 4 ?_;obtain⟨j0,F,h⟩:=bns h;obtain⟨G,a6,h⟩:=bns h;obtain⟨d0,s,h⟩:=bns h;refine fQ mix 22 [4,6,8,13,14,15,18,20,21] [(190,.b d0)] ?_ ?_
          ·refine bch s (λj s=>?_) (λj s=>?_)
           ·obtain⟨h9,W,s⟩:=bns s;obtain⟨X,b3,s⟩:=bns s;obtain rfl:=sIn s;refine⟨[(169,0,.bp b6 0 1),(170,1,.d (.lit w9)),(171,2,.i a),(172,3,.ep w9 1 a.toNat 0),(173,4,.d (.lit (zX p a))),(174,5,.i (e.fdiv (2^(min (uw (w64 (a+1))).toNat 64)))),(175,6,.ep (zX p a) 1 (e.fdiv (2^(min (uw (w64 (a+1))).toNat 64))).toNat 0),(176,7,.i G),(177,8,.b (!decide (G=(-2)))),(178,9,.b (!decide (G=(-2)))),(179,10,.bp b6 0 1),(180,11,.d (.lit w9)),(181,12,.i a),(182,13,.ep w9 1 a.toNat 0),(183,14,.d (.lit (zX p a))),(184,15,.i (e.fdiv (2^(min (uw (w64 (a+1))).toNat 64)))),(185,16,.ep (zX p a) 1 (e.fdiv (2^(min (uw (w64 (a+1))).toNat 64))).toNat 0),(186,17,.i X),(187,18,.bp B 0 3),(188,19,.i l.Player),(189,20,.b (!decide (X=l.Player))),(190,21,.b (!decide (X=l.Player)))],?_,?_⟩
            · exact dk [0,1,0,203,4,0,506,7,8,9,10,1011,10,101213,1014,10,101516,1017,10,1019,101820,1021] ⟨go (zf rfl aAl),
 go (zl 3 rfl rfl rfl aPr),
 go (zm (.i a)),
 go λS hS=>aCa (m:=2) (f:=1) (aE rfl) (aU hS rfl) rfl rfl (aU hS rfl) aRb.of F,
 go λS hS=>aDs (m:=2) (f:=1) (aE rfl) (aU hS rfl) rfl rfl F rG,
 go (zm (.i (e.fdiv (2^(min (uw (w64 (a+1))).toNat 64))))),
 go λS hS=>aDr (f:=1) (g:=aD) (aE rfl) (aU hS rfl) rfl F (aU hS rfl) cR.of a6,
 go λS hS=>aMx (f:=1) (g:=aD) (aE rfl) (aU hS rfl) rfl F a6 rfl dI,
 go (zcm rfl rfl rfl),
 go (zm (.b (!decide (G=(-2))))),
 gt j (zf rfl aAl),
 gt j (zl 3 rfl rfl rfl aPr),
 gt j (zm (.i a)),
 gt j λS hS=>aCa (m:=2) (f:=1) (aE rfl) (aU hS rfl) rfl rfl (aU hS rfl) aRb.of W,
 gt j λS hS=>aDs (m:=2) (f:=1) (aE rfl) (aU hS rfl) rfl rfl W rG,
 gt j (zm (.i (e.fdiv (2^(min (uw (w64 (a+1))).toNat 64))))),
 gt j λS hS=>aDr (f:=1) (g:=aD) (aE rfl) (aU hS rfl) rfl W (aU hS rfl) cR.of b3,
 gt j λS hS=>aMx (f:=1) (g:=aD) (aE rfl) (aU hS rfl) rfl W b3 rfl dI,
 gt j (zf rfl aCs),
 gt j (zl 4 rfl rfl rfl dI),
 gt j (zcm rfl rfl rfl),
 go (zpt (.b (!decide (X=l.Player))) j),trivial⟩
            · exact cP (aL rfl (aR (ae rfl)))
           ·obtain rfl:=sIn s;refine⟨[(169,0,.bp b6 0 1),(170,1,.d (.lit w9)),(171,2,.i a),(172,3,.ep w9 1 a.toNat 0),(173,4,.d (.lit (zX p a))),(174,5,.i (e.fdiv (2^(min (uw (w64 (a+1))).toNat 64)))),(175,6,.ep (zX p a) 1 (e.fdiv (2^(min (uw (w64 (a+1))).toNat 64))).toNat 0),(176,7,.i G),(177,8,.b (!decide (G=(-2)))),(178,9,.b (!decide (G=(-2)))),(179,10,.tup []),(180,11,.tup []),(181,12,.tup []),(182,13,.tup []),(183,14,.tup []),(184,15,.tup []),(185,16,.tup []),(186,17,.tup []),(187,18,.tup []),(188,19,.tup []),(189,20,.tup []),(190,21,.b false)],?_,?_⟩
            · exact dk [0,1,0,203,4,0,506,7,8,9,10,1011,10,101213,1014,10,101516,1017,10,1019,101820,1021] ⟨go (zf rfl aAl),
 go (zl 3 rfl rfl rfl aPr),
 go (zm (.i a)),
 go λS hS=>aCa (m:=2) (f:=1) (aE rfl) (aU hS rfl) rfl rfl (aU hS rfl) aRb.of F,
 go λS hS=>aDs (m:=2) (f:=1) (aE rfl) (aU hS rfl) rfl rfl F rG,
 go (zm (.i (e.fdiv (2^(min (uw (w64 (a+1))).toNat 64))))),
 go λS hS=>aDr (f:=1) (g:=aD) (aE rfl) (aU hS rfl) rfl F (aU hS rfl) cR.of a6,
 go λS hS=>aMx (f:=1) (g:=aD) (aE rfl) (aU hS rfl) rfl F a6 rfl dI,
 go (zcm rfl rfl rfl),
 go (zm (.b (!decide (G=(-2))))),
 gp j,
 gp j,
 gp j,
 gp j,
 gp j,
 gp j,
 gp j,
 gp j,
 gp j,
 gp j,
 gp j,
 go (zpf (.b false) j),trivial⟩
            · exact cP (aL rfl (aR (ae rfl)))
          ·refine bN ?_;refine tih h (λd1 h=>?_) (λd1 h=>?_)
           ·refine bT (bQ (to (jT (aE rfl) aKv (zs:=Z4) rfl rfl rfl rfl (es:=Z4) rfl) ?_));refine to (sst 0 rfl rfl sizeOf201 (cA Z2)) (au 2 ?_);obtain rfl:=sIn h;exact cG ⟨rfl,_,[.box b2 0 (cA Z2),.fam 3 1 p (x.map λr=>r.map aD),.arr w9 23 1 (p.map λv=>[.lit v]),.box b6 0 [.sl 1 (c.map aD),.lit w9],.box B 0 (aK l)],.two (.cell 4 201 rfl (i:=0) rfl aFz (es:=(cA Z2)) rfl rfl) (.tmp 5 (v:=.b false) rfl),.refl _,.same _⟩
           ·refine sD ?_;obtain⟨b4,Y,h⟩:=bns h;refine fQ mix 8 [4,6,8,13,14,15,18,20] [(196,.d (.lit (zX p a))),(197,.i (e.fdiv (2^(min (uw (w64 (a+1))).toNat 64)))),(199,.i l.Player)] ?_ ?_
            ·refine⟨[(192,0,.bp b6 0 1),(193,1,.d (.lit w9)),(194,2,.i a),(195,3,.ep w9 1 a.toNat 0),(196,4,.d (.lit (zX p a))),(197,5,.i (e.fdiv (2^(min (uw (w64 (a+1))).toNat 64)))),(198,6,.bp B 0 3),(199,7,.i l.Player)],?_,?_⟩
             · exact dk [0,1,0,203,4,0,0,7] ⟨go (zf rfl aAl),
 go (zl 3 rfl rfl rfl aPr),
 go (zm (.i a)),
 go λS hS=>aCa (m:=2) (f:=1) (aE rfl) (aU hS rfl) rfl rfl (aU hS rfl) aRb.of Y,
 go λS hS=>aDs (m:=2) (f:=1) (aE rfl) (aU hS rfl) rfl rfl Y rG,
 go (zm (.i (e.fdiv (2^(min (uw (w64 (a+1))).toNat 64))))),
 go (zf rfl aCs),
 go (zl 4 rfl rfl rfl dI),trivial⟩
             · exact cP (aL rfl (aL rfl (aL rfl (aR (ae rfl)))))
            ·obtain⟨i0,b5,h⟩:=bns h;refine to (aDr (f:=1) (g:=aD) (aE rfl) rfl rfl Y rfl cR.of b5) ?_;refine to (bHr (f:=1) (g:=aD) rfl rfl Y b5 rfl rfl rfl sizeOf3 rfl (aE rfl) (Nat.le_of_ble_eq_true rfl) (a':=l.Player) rfl (c':=(x.set a.toNat (b4.set (e.fdiv (2^(min (uw (w64 (a+1))).toNat 64))).toNat l.Player))) rfl) ?_;refine kK ?_;refine au 5 ?_;exact⟨(w64 (a+1),O,(x.set a.toNat (b4.set (e.fdiv (2^(min (uw (w64 (a+1))).toNat 64))).toNat l.Player)),p),h,aO [0,1,2,3,4] rfl rfl (aL rfl (aR (ae rfl)))⟩
         ·refine cZ ?_;refine .inl ⟨rfl,?_⟩;simp only[wF] at h;simp only[mA] at h;refine au 5 ?_;exact⟨(w64 (t+1),O,x,p),h,aO [0,1,2,3] rfl rfl (aL rfl (aR (ae rfl)))⟩
   ·refine cZ ?_;refine .inl ⟨rfl,?_⟩;simp only[xL] at h;refine bT (bQ (to (sla 3 [.sl 1 (c.map aD),.lit w9] rfl rfl aFz) (to (sst 0 rfl rfl sizeOf201 [.sl 1 (c.map aD),.lit w9]) (au 2 ?_))));obtain rfl:=sIn h;exact cG ⟨rfl,_,[.box b2 0 [.sl 1 (c.map aD),.lit w9],.fam 3 1 o (n.map λr=>r.map aD),.arr w9 23 1 (o.map λv=>[.lit v]),.box b6 0 [.sl 1 (c.map aD),.lit w9]],.two (.cell 4 201 rfl (i:=0) rfl aFz (es:=[.sl 1 (c.map aD),.lit w9]) rfl rfl) (.tmp 5 (v:=.b true) rfl),.refl _,xE (.cons (.agg (dvc (.same _) (dvc (bXv 2 1 rfl rfl (h:=oJ) (λ_=>rfl)) dvn))) (.cons (.same _) .nil))⟩

theorem xI(b:aF)(c:List aB){r:Int}(h:eS b c=some r):Fn Tryz.prog 61 (Z17 b c) (.i r):=by
 unfold eS at h;refine fnx xT {} [.tmp 4] func61 results61 ntmps61 ?_;refine cl call24 (λ_=>aNw _) h λr2 h=>?_;refine br h (λh=>?_) λh=>?_
 ·cases h;exact⟨rfl,rfl,rfl⟩
 ·refine ol ?_;refine br h (λh=>?_) λh=>?_
  ·cases h;exact⟨rfl,rfl,rfl⟩
  ·refine xlp [1,2] [2] (λ(a:Int)=>([(5,.i a)],[])) (λk (a:Int)=>gZ c b k a) (0) h (lev []) ?_;rintro k5 a h;simp only[gZ] at h;refine ol ?_;refine br h (λh=>?_) λh=>?_
   ·refine⟨by kernel_rfl,?_⟩;refine oi h λx6 h=>?_;refine cl call121 (λ_=>aNy _ _) h λr8 h=>?_;refine⟨by kernel_rfl,?_⟩;refine br h (λh=>?_) λh=>?_
    ·cases h;exact⟨rfl,rfl,rfl⟩
    ·exact⟨(w64 (a+1)),h,lev []⟩
   ·simp only[lO] at h;refine cd call122 (λ_=>yZ _ _) h λe h=>?_;refine br h (λh=>?_) λh=>?_
    ·cases h;exact⟨rfl,rfl,rfl⟩
    ·cases h;exact⟨rfl,rfl,rfl⟩

theorem aIh(d:aJ)(a:Int)(b:Int)(c:Int){r:Int}(h:rZ d a b c=some r):Fn Tryz.prog 179 [.agg (cA d),.i a,.i b,.i c] (.i r):=by
 unfold rZ at h;refine fnx xT {} [.tmp 8] func179 results179 ntmps179 ?_;refine br h (λh=>?_) λh=>?_
 ·refine oi h λx2 h=>?_;cases h;exact⟨rfl,rfl,rfl⟩
 ·refine oi h λx4 h=>?_;refine oi h λx6 h=>?_;cases h;exact⟨rfl,rfl,rfl⟩

theorem aOr(f:aF)(g:aJ){r:(List aN)}(h:qZ f g=some r):Fn Tryz.prog 123 [.agg (aV f),.agg (cA g)] (.d (.sl 4 (r.map cY))):=by
 unfold qZ at h;refine fnx xT {ow:=[5]} [.tmp 4] func123 results123 ntmps123 ?_;refine xlp [2,3] [2,3] (λ((c,a):Int×(List aN))=>([(5,.d (.hv 0 5 0)),(6,.i c)],[(5,.arr 49 4 (a.map cY))])) (λk ((c,a):Int×(List aN))=>eC f g k c a) (0,([]:List aN)) h (lev []) ?_;rintro k5 ⟨c,a⟩ h;simp only[eC] at h;refine br h (λh=>?_) λh=>?_
 ·refine xlp [2,3,6] [2,3] (λ((e,b):Int×(List aN))=>([(5,.d (.hv 0 5 0)),(7,.i e)],[(5,.arr 49 4 (b.map cY))])) (λk ((e,b):Int×(List aN))=>hZ (eC f g k5) c f g k e b) (0,a) h (lev []) ?_;rintro k7 ⟨e,b⟩ h;simp only[hZ] at h;refine cl call27 (λ_=>wC _ _) h λr8 h=>?_;refine br h (λh=>?_) λh=>?_
  ·refine⟨by kernel_rfl,?_⟩;refine cl call179 (λ_=>aIh _ _ _ _) h λl h=>?_;refine cl call179 (λ_=>aIh _ _ _ _) h λm h=>?_;refine oap h λj h=>?_;refine⟨by kernel_rfl,?_⟩;exact⟨(w64 (e+1),j),h,lev [(5,34)]⟩
  ·simp only[nU] at h;simp only[wE] at h;exact⟨(w64 (c+1),b),h,lev []⟩
 ·simp only[wD] at h;cases h;exact⟨rfl,rfl,rfl⟩

theorem aOq(a:aF)(b:List aB){r:(List aN)×Int}(h:jI a b=some r):Fn Tryz.prog 64 (Z17 a b) (.tup [.d (.sl 4 (r.1.map cY)),.i r.2]):=by
 unfold jI at h;refine fnx xT {} [.tmp 4,.tmp 5] func64 results64 ntmps64 ?_;refine cl call61 (λ_=>xI _ _) h λr2 h=>?_;refine br h (λh=>?_) λh=>?_
 ·cases h;exact⟨rfl,_,_,rfl,rfl,rfl,rfl,rfl⟩
 ·refine cd call122 (λ_=>yZ _ _) h λr4 h=>?_;refine cd call123 (λ_=>aOr _ _) h λr7 h=>?_;cases h;exact⟨rfl,_,_,rfl,rfl,rfl,rfl,rfl⟩

theorem aUr(a0:aF)(a1:List aB){r:(List aN)×Int}(h:wQ a0 a1=some r):Fn Tryz.prog 36 (Z17 a0 a1) ((λx:(List aN)×Int=>.tup [.d (.sl 4 (x.1.map cY)),.i x.2]) r):=aGt (enc:=λx:(List aN)×Int=>.tup [.d (.sl 4 (x.1.map cY)),.i x.2]) (aUq a0 a1 (aRh a0 a1 h (λx=>x=r) rfl))

theorem aHx(c:aF)(e:List aB)(a:Int)(b:Int){r:Int}(h:iJ c e a b=some r):Fn Tryz.prog 124 (Z25 c e a b) (.i r):=by
 unfold iJ at h;refine fnx xT {} [.tmp 8] func124 results124 ntmps124 ?_;refine cl call61 (λ_=>xI _ _) h λr2 h=>?_;refine br h (λh=>?_) λh=>?_
 ·cases h;exact⟨rfl,rfl,rfl⟩
 ·refine cl call176 (λ_=>aAz _ _ _) h λr4 h=>?_;refine br h (λh=>?_) λh=>?_
  ·cases h;exact⟨rfl,rfl,rfl⟩
  ·cases h;exact⟨rfl,rfl,rfl⟩

theorem aNx(c:aF)(e:List aB)(a:Int)(b:Int){r:Int×Int}(h:eX c e a b=some r):Fn Tryz.prog 65 (Z25 c e a b) (.tup [.i r.1,.i r.2]):=by
 unfold eX at h;refine fnx xT {} [.tmp 8,.tmp 9] func65 results65 ntmps65 ?_;refine cl call124 (λ_=>aHx _ _ _ _) h λr2 h=>?_;refine br h (λh=>?_) λh=>?_
 ·cases h;exact⟨rfl,_,_,rfl,rfl,rfl,rfl,rfl⟩
 ·refine cd call122 (λ_=>yZ _ _) h λr4 h=>?_;refine oi h λx7 h=>?_;refine oi h λx9 h=>?_;refine br h (λh=>?_) λh=>?_
  ·cases h;exact⟨rfl,_,_,rfl,rfl,rfl,rfl,rfl⟩
  ·refine oi h λf h=>?_;refine oi h λg h=>?_;cases h;exact⟨rfl,_,_,rfl,rfl,rfl,rfl,rfl⟩

theorem aSs(a0:aF)(a1:List aB)(a2:Int)(a3:Int){r:Int×Int}(h:uV a0 a1 a2 a3=some r):Fn Tryz.prog 31 (Z25 a0 a1 a2 a3) ((λx:Int×Int=>.tup [.i x.1,.i x.2]) r):=aGt (enc:=λx:Int×Int=>.tup [.i x.1,.i x.2]) (aSr a0 a1 a2 a3 (aOl a0 a1 a2 a3 h (λx=>x=r) rfl))

theorem aSd(o:aF)(p:List aB)(m:List bU){r:(List bE)×(List aN)×Int}(h:uM o p m=some r):Fn Tryz.prog 16 [.agg (aV o),.d (Z7 p),.d (.sl 3 (m.map kZ))] (.tup [.d (.sl 6 (r.1.map bD)),.d (.sl 4 (r.2.1.map cY)),.i r.2.2]):=by
 unfold uM at h;refine fnx xT {ow:=[11,12,30017,30068,300017,300068],lr:=[(20,[17,3068])]} [.tmp 6,.tmp 7,.tmp 8] func16 results16 ntmps16 ?_;refine cd call36 (λ_=>aUr _ _) h λr2 h=>?_;refine br h (λh=>?_) λh=>?_
 ·cases h;exact⟨rfl,_,_,_,rfl,rfl,rfl,rfl,rfl,rfl⟩
 ·refine ol ?_;refine jg h (λx h=>?_) λb4 h=>?_
  ·refine br h (λh=>?_) λh=>?_
   ·exact jt h
   ·refine cl call58 (λ_=>aAq _ _ 59 [] call59 (λ_ _ h=>bBs _ h)) h λr7 h=>?_;exact jt h
  ·refine br h (λh=>?_) λh=>?_
   ·cases h;exact⟨rfl,_,_,_,rfl,rfl,rfl,rfl,rfl,rfl⟩
   ·refine ol ?_;refine xlp [1,2,3,38,39] [3] (λ((b,e,a):Int×(List bE)×(List aN))=>([(11,.d (.hv 0 11 0)),(12,.d (.hv 0 12 0)),(40,.i b)],[(11,.arr 65 6 (e.map bD)),(12,.arr 49 4 (a.map cY))])) (λk ((b,e,a):Int×(List bE)×(List aN))=>jP p m r2.1 (r2.1.length:Int) o k b e a) (0,([]:List bE),([]:List aN)) h (lev []) ?_;rintro q ⟨b,e,a⟩ h;simp only[jP] at h;refine br h (λh=>?_) λh=>?_
    ·refine oi h λs h=>?_;refine cl call31 (λ_=>aSs _ _ _ _) h λA h=>?_;refine br h (λh=>?_) λh=>?_
     ·simp only[uB] at h;exact⟨(w64 (b+1),e,a),h,lev []⟩
     ·refine⟨by kernel_rfl,?_⟩;refine oi h λt h=>?_;refine oi h λu h=>?_;refine⟨by kernel_rfl,?_⟩;refine ol ?_;refine xlp [1,2,3,11,12,14,17,38,39,40,69,70] [3,11,12,14] (λ((f,n,c,g,j,l):Int×Z14×aX×Z14×Int×Int)=>([(71,.i f)],[(3068,.arr 3 1 (n.map aD)),(17,.box [.j c.Low,.j c.High,.hv 0 3068 0,.sl 1 (g.map aD),.j j,.j l])])) (λk ((f,n,c,g,j,l):Int×Z14×aX×Z14×Int×Int)=>pJ (jP p m r2.1 (r2.1.length:Int) o q) p m r2.1 (r2.1.length:Int) b (a.length:Int) o e a s k f n c g j l) (0,([]:List Int),t.Length,([]:List Int),u.Due,0) h (lev []) ?_;rintro B ⟨f,n,c,g,j,l⟩ h;simp only[pJ] at h;refine br h (λh=>?_) λh=>?_
      ·refine oiy h λC v h=>?_;refine⟨rfl,_,fY cY v,?_⟩;refine jg h (λx h=>?_) λE h=>?_
       ·refine br h (λh=>?_) λh=>?_
        ·refine⟨by decide,?_⟩;exact jt h
        ·exact jt h
       ·refine br h (λh=>?_) λh=>?_
        ·refine oap h λw h=>?_;exact⟨(w64 (f+1),w,c,g,j,l),h,lev [(3068,94)]⟩
        ·exact⟨(w64 (f+1),n,c,g,j,l),h,lev []⟩
      ·simp only[aBo] at h;refine⟨by kernel_rfl,?_⟩;refine oap h λy h=>?_;refine oap h λz h=>?_;refine⟨by kernel_rfl,?_⟩;simp only[uB] at h;exact⟨(w64 (b+1),y,z),h,lev [(11,100),(12,104)]⟩
    ·simp only[yE] at h;refine ol ?_;refine br h (λh=>?_) λh=>?_
     ·cases h;exact⟨rfl,_,_,_,rfl,rfl,rfl,rfl,rfl,rfl⟩
     ·cases h;exact⟨rfl,_,_,_,rfl,rfl,rfl,rfl,rfl,rfl⟩

theorem aFb(q:aF)(s:List aB)(b:List bU){r:(List bE)×(List aN)×Int}(h:lL q s b=some r):Fn Tryz.prog 17 [.agg (aV q),.d (Z7 s),.d (.sl 3 (b.map kZ))] (.tup [.d (.sl 6 (r.1.map bD)),.d (.sl 4 (r.2.1.map cY)),.i r.2.2]):=by
 unfold lL at h;refine fnx xT {ow:=[11,17,30019,30118,300019,300118],lt:=[(158,[19,3118])]} [.tmp 6,.tmp 7,.tmp 8] func17 results17 ntmps17 ?_;refine cl call61 (λ_=>xI _ _) h λr2 h=>?_;refine br h (λh=>?_) λh=>?_
 ·cases h;exact⟨rfl,_,_,_,rfl,rfl,rfl,rfl,rfl,rfl⟩
 ·refine ol ?_;refine br h (λh=>?_) λh=>?_
  ·cases h;exact⟨rfl,_,_,_,rfl,rfl,rfl,rfl,rfl,rfl⟩
  ·refine xlp [1,2,3] [3] (λ(p:Int)=>([(10,.i p)],[])) (λk (p:Int)=>gM s b q k p) (0) h (lev []) ?_;rintro k5 p h;simp only[gM] at h;refine ol ?_;refine br h (λh=>?_) λh=>?_
   ·refine oi h λx6 h=>?_;refine cl call62 (λ_=>aAg _) h λr8 h=>?_;refine jg h (λx h=>?_) λI h=>?_
    ·refine br h (λh=>?_) λh=>?_
     ·exact jt h
     ·refine oi h λK h=>?_;refine cl call63 (λ_=>eQ _ _ _) h λL h=>?_;exact jt h
    ·refine br h (λh=>?_) λh=>?_
     ·cases h;exact⟨rfl,_,_,_,rfl,rfl,rfl,rfl,rfl,rfl⟩
     ·exact⟨(w64 (p+1)),h,lev []⟩
   ·simp only[kQ] at h;refine cd call64 (λ_=>aOq _ _) h λt h=>?_;refine xlp [1,2,3,12] [3] (λ((l,a):Int×(List aN))=>([(11,.d (.hv 0 11 0)),(14,.i l)],[(11,.arr 49 4 (a.map cY))])) (λk ((l,a):Int×(List aN))=>gN s b t.1 q k l a) (0,([]:List aN)) h (lev []) ?_;rintro M ⟨l,a⟩ h;simp only[gN] at h;refine ol ?_;refine br h (λh=>?_) λh=>?_
    ·refine⟨by kernel_rfl,?_⟩;refine oi h λN h=>?_;refine oi h λO h=>?_;refine cl call65 (λ_=>aNx _ _ _ _) h λP h=>?_;refine⟨by kernel_rfl,?_⟩;refine br h (λh=>?_) λh=>?_
     ·refine oi h λQ h=>?_;refine oap h λu h=>?_;exact⟨(w64 (l+1),u),h,lev [(11,90)]⟩
     ·exact⟨(w64 (l+1),a),h,lev []⟩
    ·simp only[mC] at h;refine ol ?_;refine br h (λh=>?_) λh=>?_
     ·cases h;exact⟨rfl,_,_,_,rfl,rfl,rfl,rfl,rfl,rfl⟩
     ·refine xlp [2,11] [11] (λ((m,j):Int×(List bE))=>([(17,.d (.hv 0 17 0)),(18,.i m)],[(17,.arr 65 6 (j.map bD))])) (λk ((m,j):Int×(List bE))=>eN b a k m j) (0,([]:List bE)) h (lev []) ?_;rintro v ⟨m,j⟩ h;simp only[eN] at h;refine ol ?_;refine br h (λh=>?_) λh=>?_
      ·refine⟨by kernel_rfl,?_⟩;refine oiy h λS w h=>?_;refine⟨rfl,_,fY cY w,?_⟩;refine oi h λy h=>?_;refine oiy h λT z h=>?_;refine⟨rfl,_,fY cY z,?_⟩;refine oi h λA h=>?_;refine⟨by kernel_rfl,?_⟩;refine xlp [2,11,17,18,19] [11,17] (λ((n,o,c,e,f,g):Int×Z14×aX×Z14×Int×Int)=>([(20,.i n)],[(3118,.arr 3 1 (o.map aD)),(19,.box [.j c.Low,.j c.High,.hv 0 3118 0,.sl 1 (e.map aD),.j f,.j g])])) (λk ((n,o,c,e,f,g):Int×Z14×aX×Z14×Int×Int)=>iX (eN b a v) b m a j k n o c e f g) (0,([]:List Int),y.Length,([]:List Int),A.Due,0) h (lev []) ?_;rintro U ⟨n,o,c,e,f,g⟩ h;simp only[iX] at h;refine br h (λh=>?_) λh=>?_
       ·refine⟨by kernel_rfl,?_⟩;refine oiy h λV B h=>?_;refine⟨rfl,_,fY cY B,?_⟩;refine oiy h λW C h=>?_;refine⟨rfl,_,fY cY C,?_⟩;refine jo h (λx h=>?_) λX h=>?_
        ·refine br h (λh=>?_) λh=>?_
         ·refine oiy h λY E h=>?_;refine⟨rfl,_,fY cY E,?_⟩;refine⟨by decide,?_⟩;refine oiy h λZ F h=>?_;refine⟨rfl,_,fY cY F,?_⟩;exact⟨by kernel_rfl,jt h⟩
         ·exact⟨by kernel_rfl,jt h⟩
        ·refine⟨by kernel_rfl,?_⟩;refine br h (λh=>?_) λh=>?_
         ·refine oap h λG h=>?_;exact⟨(w64 (n+1),G,c,e,f,g),h,lev [(3118,154)]⟩
         ·exact⟨(w64 (n+1),o,c,e,f,g),h,lev []⟩
       ·simp only[sL] at h;refine oap h λH h=>?_;simp only[xP] at h;exact⟨(w64 (m+1),H),h,lev [(17,159)]⟩
      ·simp only[sK] at h;cases h;exact⟨rfl,_,_,_,rfl,rfl,rfl,rfl,rfl,rfl⟩

theorem aHl(c:aH)(a:Int){r:Bool}(h:qV c a=some r):Fn Tryz.prog 222 [.agg (aT c),.i a] (.b r):=by
 unfold qV at h;refine fnx xT {} [.tmp 4] func222 results222 ntmps222 ?_;refine oge h λh=>?_;refine bZz ?_;cases h;exact⟨rfl,rfl,rfl⟩

theorem aHz(e:List aG)(f:aG){r:Int}(h:mH e f=some r):Fn Tryz.prog 250 [.d (Z27 e),.agg (aM f)] (.i r):=by
 unfold mH at h;refine fnx xT {} [.tmp 4] func250 results250 ntmps250 ?_;refine ol ?_;refine xlp [0,3,7] [3] (λ(c:Int)=>([(8,.i c)],[])) (λk (c:Int)=>gA e (e.length:Int) f k c) (0) h (lev []) ?_;rintro k3 c h;simp only[gA] at h;refine br h (λh=>?_) λh=>?_
 ·refine⟨by kernel_rfl,?_⟩;refine oi h λx4 h=>?_;refine bYo (a:=f) (b:=x4) Tryz.eqGuardType58 bXy ?_;refine⟨by kernel_rfl,?_⟩;refine br h (λh=>?_) λh=>?_
  ·cases h;exact⟨rfl,rfl,rfl⟩
  ·exact⟨(w64 (c+1)),h,lev []⟩
 ·simp only[rL] at h;cases h;exact⟨rfl,rfl,rfl⟩

theorem aEz(a:List aG)(c:aG){r:Bool}(h:kU a c=some r):Fn Tryz.prog 243 [.d (Z27 a),.agg (aM c)] (.b r):=by
 unfold kU at h;refine fnx xT {} [.tmp 4] func243 results243 ntmps243 ?_;refine cl call250 (λ_=>aHz _ _) h λr2 h=>?_;cases h;exact⟨rfl,rfl,rfl⟩

theorem aEj(a:dR)(e:aG){r:Int}{c:Nat}(h:oL a e=some r):Fn Tryz.prog 223 [.cp (Z1 a c),.agg (aM e)] (.i r):=by
 unfold oL at h;refine oT [.tmp 4] func223 results223 ntmps223 ?_;refine bT (bQ ?_);refine bO rfl (lC (v:=.agg (aM e)) (aE rfl) rfl rfl rfl) ?_;rintro _ ⟨b1,rfl⟩;refine au 4 ?_;obtain⟨b2,h3,h⟩:=bns h;refine fQ mix 13 [] [(17,.b b2)] ?_ ?_
 ·refine bch h3 (λc4 h3=>?_) (λc4 h3=>?_)
  ·obtain rfl:=sIn h3;refine⟨[(5,0,.cp (Z1 a c)),(6,1,.cp (Z1 a c)),(7,2,.cp [fN 3 aM a.old]),(8,3,.d (fN 3 aM a.old)),(9,4,.b a.old.isNone),(10,5,.b a.old.isNone),(11,6,.tup []),(12,7,.tup []),(13,8,.tup []),(14,9,.tup []),(15,10,.tup []),(16,11,.tup []),(17,12,.b true)],?_,?_⟩
   · exact dk [0,1,2,3,4,5,6,607,608,609,6,61011,612] ⟨go (zm (.cp (Z1 a c))),
 go λS hS=>eI (aE rfl) (aU hS rfl),
 go (zfc [fN 3 aM a.old] rfl aOw),
 go (zlc rfl bEy),
 go λS hS=>bJb (aE rfl) (aU hS rfl) underlying53,
 go (zm (.b a.old.isNone)),
 gp c4,
 gp c4,
 gp c4,
 gp c4,
 gp c4,
 gp c4,
 go (zpt (.b true) c4),trivial⟩
   · exact cP (aL rfl (aR trivial))
  ·obtain⟨r5,h6,h3⟩:=bns h3;obtain rfl:=sIn h3;refine⟨[(5,0,.cp (Z1 a c)),(6,1,.cp (Z1 a c)),(7,2,.cp [fN 3 aM a.old]),(8,3,.d (fN 3 aM a.old)),(9,4,.b a.old.isNone),(10,5,.b a.old.isNone),(11,6,.cp (Z1 a c)),(12,7,.cp (Z1 a c)),(13,8,.cp [fN 3 aM a.old]),(14,9,.d (fN 3 aM a.old)),(15,10,.agg (aM e)),(16,11,.b r5),(17,12,.b r5)],?_,?_⟩
   · exact dk [0,1,2,3,4,5,6,607,608,609,6,61011,612] ⟨go (zm (.cp (Z1 a c))),
 go λS hS=>eI (aE rfl) (aU hS rfl),
 go (zfc [fN 3 aM a.old] rfl aOw),
 go (zlc rfl bEy),
 go λS hS=>bJb (aE rfl) (aU hS rfl) underlying53,
 go (zm (.b a.old.isNone)),
 gt c4 (zm (.cp (Z1 a c))),
 gt c4 λS hS=>eI (aE rfl) (aU hS rfl),
 gt c4 (zfc [fN 3 aM a.old] rfl aOw),
 gt c4 (zlc rfl bEy),
 gt c4 (zla 0 (aM e) rfl rfl zG),
 gt c4 λS hS=>fZ (aE rfl) (.func _ _ call243) (ev2 (aU hS rfl) (ev2 (aU hS rfl) evn)) rfl (.cons (.d (bXw _)) (.cons (.same _) .nil)) (aEz _ _ h6) rfl,
 go (zpf (.b r5) c4),trivial⟩
   · exact cP (aL rfl (aR trivial))
 ·refine bN ?_;refine tih h (λc7 h=>?_) (λc7 h=>?_)
  ·refine au 4 ?_;obtain rfl:=sIn h;refine eW (mS (oB (l:=[4]) (ae rfl))) ?_;exact rt
  ·refine au 5 ?_;obtain rfl:=sIn h;refine eW (mS (oB (l:=[4]) (ae rfl))) ?_;exact rt

theorem aNz (kr : Nat):∀(c:dR) (n:List (aH×Int)) (j:aH) {r:(List aG)×Bool×Z35} {g:Nat} {u:List Nat} {t:Nat} (_h:cC kr c n j=some r),dX Tryz.prog 181 [.cp [.sl 1 (c.Program.Days.map bC),.j c.Program.Rest,.sl 6 (c.Program.Jobs.map bD),.j c.days,fN 3 aM c.old,.lit (.map (some g))],.agg (aT j)] [.map g (n.map λp:aH×Int=>((λa:aH=>Value.agg ((aT a).map bA).toArray) p.1,(λv:Int=>AV.i v) p.2)) u t] (λr' o'=>∃(d1:List Nat) (d2:Nat),r'=.tup [.d (.sl 3 (r.1.map aM)),.b r.2.1]/\o'=[.map g (r.2.2.map λp:aH×Int=>((λa:aH=>Value.agg ((aT a).map bA).toArray) p.1,(λv:Int=>AV.i v) p.2)) d1 d2]):=by
  induction kr with
  |zero=>intros;rename_i h;cases h
  | succ kr ih=>
    intro c n j r g u t h;simp only[cC] at h;refine bKd func181 rfl (rs:=[.tmp 4,.tmp 5]) results181 ntmps181 (Nat.le_of_ble_eq_true rfl) ?_;refine bT (bQ ?_);refine bO rfl (lC (v:=.agg (aT j)) (aE rfl) rfl rfl rfl) ?_;rintro _ ⟨b1,rfl⟩;refine to (aFu 3 (aE rfl)) ?_;refine au 2 ?_;refine bGk (by repeat (first|exact bYl|apply bVz|apply bSk)) ?_;refine bT (bT ?_);obtain⟨u2,h3,h⟩:=bns h;refine fQ mix 10 [0,3] [(21,.i j.done),(29,.i (w64 ((w64 (1*2^(min (c.Program.Jobs.length:Int).toNat 64)))-1)))] ?_ ?_
    ·refine⟨[(20,0,.bp b1 0 10),(21,1,.i j.done),(22,2,.cp [.sl 1 (c.Program.Days.map bC),.j c.Program.Rest,.sl 6 (c.Program.Jobs.map bD),.j c.days,fN 3 aM c.old,.lit (.map (some g))]),(23,3,.cp [.sl 1 (c.Program.Days.map bC),.j c.Program.Rest,.sl 6 (c.Program.Jobs.map bD),.j c.days,fN 3 aM c.old,.lit (.map (some g))]),(24,4,.cp [.sl 1 (c.Program.Days.map bC),.j c.Program.Rest,.sl 6 (c.Program.Jobs.map bD)]),(25,5,.cp [.sl 6 (c.Program.Jobs.map bD)]),(26,6,.d (.sl 6 (c.Program.Jobs.map bD))),(27,7,.i (c.Program.Jobs.length:Int)),(28,8,.i (w64 (1*2^(min (c.Program.Jobs.length:Int).toNat 64)))),(29,9,.i (w64 ((w64 (1*2^(min (c.Program.Jobs.length:Int).toNat 64)))-1)))],?_,?_⟩
     · exact dk [0,1,0,3,4,5,6,7,8,9] ⟨go (zf rfl aOy),
 go (zl 1 rfl rfl rfl dI),
 go (zm (.cp [.sl 1 (c.Program.Days.map bC),.j c.Program.Rest,.sl 6 (c.Program.Jobs.map bD),.j c.days,fN 3 aM c.old,.lit (.map (some g))])),
 go λS hS=>eI (aE rfl) (aU hS rfl),
 go (zfc [.sl 1 (c.Program.Days.map bC),.j c.Program.Rest,.sl 6 (c.Program.Jobs.map bD)] rfl xV),
 go (zfc [.sl 6 (c.Program.Jobs.map bD)] rfl xX),
 go (zlc rfl aEf),
 go (zle rfl aFx.of),
 go λS hS=>aWy (aE rfl) rfl (aU hS rfl) (aIm h3),
 go (zar rfl rfl rfl),trivial⟩
     · exact cP (aL rfl (aL rfl (aR (ae rfl))))
    ·refine au 2 ?_;refine tih h (λc4 h=>?_) (λc4 h=>?_)
     ·refine bT (bQ (to (aFu 3 (aE rfl)) ?_));refine au 2 ?_;obtain rfl:=sIn h;refine eW (aO [0] rfl rfl (aR (l:=[4,5]) (ae rfl))) ?_;exact cG ⟨rfl,_,.two _ _,_,_,rfl,rfl⟩
     ·refine au 3 ?_;refine jX mix 9 [0,3] (λX5=>[(34,.d (.lit (.map (some g)))),(37,.i (w64 ((bR j 0 n)+1))),(39,.i (rE j n u t))]) (λX5=>[.map g ((rD j 0 n).map λp:aH×Int=>((λa:aH=>Value.agg ((aT a).map bA).toArray) p.1,(λv:Int=>AV.i v) p.2)) (mbs j n u t) (mck j n t),.box b1 0 (aT j)]) ?_ ?_
      ·refine⟨0,λX5=>[(31,0,.cp [.sl 1 (c.Program.Days.map bC),.j c.Program.Rest,.sl 6 (c.Program.Jobs.map bD),.j c.days,fN 3 aM c.old,.lit (.map (some g))]),(32,1,.cp [.sl 1 (c.Program.Days.map bC),.j c.Program.Rest,.sl 6 (c.Program.Jobs.map bD),.j c.days,fN 3 aM c.old,.lit (.map (some g))]),(33,2,.cp [.lit (.map (some g))]),(34,3,.d (.lit (.map (some g)))),(35,4,.agg (aT j)),(36,5,.i (bR j 0 n)),(37,6,.i (w64 ((bR j 0 n)+1))),(38,7,.tup [.i (bR j 0 n),.i (rE j n u t)]),(39,8,.i (rE j n u t))],λX5=>[([(7,.map g ((rD j 0 n).map λp:aH×Int=>((λa:aH=>Value.agg ((aT a).map bA).toArray) p.1,(λv:Int=>AV.i v) p.2)) (mbs j n u t) (mck j n t))],.map g (n.map λp:aH×Int=>((λa:aH=>Value.agg ((aT a).map bA).toArray) p.1,(λv:Int=>AV.i v) p.2)) u t),([],.box b1 0 (aT j))],?_,?_⟩
       · exact xok [(0,8),(1,8),(2,8),(3,8),(0,8),(405,0),(6,0),(405,0),(8,0)] ⟨λ_ _ w _ k=>xp w (ym k (.cp [.sl 1 (c.Program.Days.map bC),.j c.Program.Rest,.sl 6 (c.Program.Jobs.map bD),.j c.days,fN 3 aM c.old,.lit (.map (some g))])),
 λ_ _ w _ k=>xp w (eI (aE rfl) (aU k rfl)),
 λ_ _ w _ k=>xp w (yfc k [.lit (.map (some g))] rfl bAf),
 λ_ _ w _ k=>xp w (ylc k rfl bIw),
 λ_ _ w _ k=>xp w (yla k 1 (aT j) rfl (og k rfl rfl) aGa),
 λ_ _ w _ k=>xp w (bBb (av:=(λv:Int=>AV.i v)) (l:=n) (z:=0) (a:=j) (m:=0) (aE rfl) aYe underlying271 zeroValue3 (λ_ _=>.d (.lit _ rfl)) (aU k rfl) (og2 rfl) rfl (aU k rfl) (mF (enc:=aT) j rfl)),
 λ_ _ w _ k=>xp w (yar k rfl rfl rfl),
 λX5 S hw hi hS=>aHw (X:=X5) (p:=0) hS rfl rfl rfl (hw X5) rfl rfl rfl (kW (aWw (av:=(λv:Int=>AV.i v)) (l:=n) (z:=0) (a:=j) (m:=0) (aE rfl) aYe underlying271 zeroValue3 (λ_ _=>.d (.lit _ rfl)) (aU hS rfl) (og hS rfl rfl) rfl (aU hS rfl) (mF (enc:=aT) j rfl)) (by rintro _ rfl;exact Ent.refl _)),
 fun _ _ w _ k=>xp w (yex k rfl rfl),trivial⟩
       · exactλX5=>cP (aL rfl (aL rfl (aL rfl (aR (ae rfl)))))
      ·intro X5;refine to (aNs (kv:=(λa:aH=>Value.agg ((aT a).map bA).toArray)) (av:=(λv:Int=>AV.i v)) (l:=n) (z:=0) (v:=w64 ((bR j 0 n)+1)) (a:=j) (m:=0) rfl rfl rfl rfl rfl) ?_;refine bN (bT ?_);refine fQ mix 5 [0,3] [(43,.d (.lit (.map (some g)))),(44,.agg (aT j))] ?_ ?_
       ·refine⟨[(40,0,.cp [.sl 1 (c.Program.Days.map bC),.j c.Program.Rest,.sl 6 (c.Program.Jobs.map bD),.j c.days,fN 3 aM c.old,.lit (.map (some g))]),(41,1,.cp [.sl 1 (c.Program.Days.map bC),.j c.Program.Rest,.sl 6 (c.Program.Jobs.map bD),.j c.days,fN 3 aM c.old,.lit (.map (some g))]),(42,2,.cp [.lit (.map (some g))]),(43,3,.d (.lit (.map (some g)))),(44,4,.agg (aT j))],?_,?_⟩
        · exact dk [0,1,2,3,0] ⟨go (zm (.cp [.sl 1 (c.Program.Days.map bC),.j c.Program.Rest,.sl 6 (c.Program.Jobs.map bD),.j c.days,fN 3 aM c.old,.lit (.map (some g))])),
 go λS hS=>eI (aE rfl) (aU hS rfl),
 go (zfc [.lit (.map (some g))] rfl bAf),
 go (zlc rfl bIw),
 go (zla 1 (aT j) rfl rfl aGa),trivial⟩
        · exact cP (aL rfl (aL rfl (aR (ae rfl))))
       ·refine to (aHt (av:=(λv:Int=>AV.i v)) (l:=(eK j (w64 ((bR j 0 n)+1)) n)) (z:=0) (a:=j) (m:=0) (aE rfl) aYe underlying271 zeroValue3 (λ_ _=>.d (.lit _ rfl)) rfl rfl rfl rfl (mF (enc:=aT) j rfl)) ?_;refine au 2 ?_;refine tih h (λc6 h=>?_) (λc6 h=>?_)
        ·refine bT (bQ (to (aFu 3 (aE rfl)) ?_));refine au 2 ?_;obtain rfl:=sIn h;refine eW (aO [0] rfl rfl (aR (l:=[4,5]) (ae rfl))) ?_;exact cG ⟨rfl,_,.two _ _,_,_,rfl,rfl⟩
        ·refine sD (bT ?_);refine bPt ?_;refine au 4 ?_;refine to (eI (aE rfl) rfl) ?_;refine to (sfc [.sl 1 (c.Program.Days.map bC),.j c.Program.Rest,.sl 6 (c.Program.Jobs.map bD)] rfl xV) (to (sfc [.sl 6 (c.Program.Jobs.map bD)] rfl xX) (au 5 ?_));refine eV (S:=Int×Z35×(List Nat)×Nat) [0,3,51,52] (λs7=>[(53,.i s7.1)]) (λs7=>[.map g (s7.2.1.map λp:aH×Int=>((λa:aH=>Value.agg ((aT a).map bA).toArray) p.1,(λv:Int=>AV.i v) p.2)) s7.2.2.1 s7.2.2.2,.box b1 0 (aT j)]) (λk s7=>cM (cC kr) c.Program c.days c.old c.Program.Jobs (c.Program.Jobs.length:Int) j k s7.1 s7.2.1) (λ_=>rfl) (0,(eK j (w64 ((bR j 0 n)+1)) n),(mbs j n u t),(mck j n t)) h (aO [0,1] rfl rfl (aL rfl (aR (ae rfl)))) ?_;rintro a3 ⟨e,M,b3,b4⟩ h;simp only[cM] at h;refine au 5 ?_;refine tih h (λd3 h=>?_) (λd3 h=>?_)
         ·refine au 6 ?_;obtain⟨y,d4,h⟩:=bns h;refine to (six rfl rfl aFx.of (cF bD d4)) (to (aDe (bD y) rfl bXn) ?_);refine bO rfl (dG (zs:=[.j 0,.j 0,.sl 1 Z22,.sl 1 Z22,.j 0,.j 0]) (aE rfl) zeroValue65 rfl rfl) ?_;rintro _ ⟨G,rfl⟩;refine ta (.i e) (to (sst 2 rfl rfl sizeOf65 (bD y)) (au 4 ?_));refine to (sla 1 (aT j) rfl rfl aGa) (tm (.i e) ?_);obtain⟨h1,d5,h⟩:=bns h;refine to (scr call222 (aHl _ _ d5)) (bN ?_);refine tih h (λd6 h=>?_) (λd6 h=>?_)
          ·refine cZ ?_;refine .inl ⟨rfl,?_⟩;simp only[gE] at h;refine au 4 ?_;exact⟨(w64 (e+1),M,b3,b4),h,aO [0,1] rfl rfl (aL rfl (aR (ae rfl)))⟩
          ·refine au 10 ?_;refine eV (S:=Int) [0,3,6,7,51,52,53,62,63] (λb5=>[(64,.i b5)]) (λb5=>[.map g (M.map λp:aH×Int=>((λa:aH=>Value.agg ((aT a).map bA).toArray) p.1,(λv:Int=>AV.i v) p.2)) b3 b4,.box b1 0 (aT j),.box G 0 (bD y)]) (λk b5=>iE (cC kr) (cM (cC kr) c.Program c.days c.old c.Program.Jobs (c.Program.Jobs.length:Int) j a3) c.Program c.days c.old e c.Program.Jobs (c.Program.Jobs.length:Int) e y.After (y.After.length:Int) M j y k b5) (λ_=>rfl) (0) h (aO [0,1,2] rfl rfl (aL rfl (aR (ae rfl)))) ?_;rintro h2 a9 h;simp only[iE] at h;refine au 5 ?_;refine tih h (λd7 h=>?_) (λd7 h=>?_)
           ·refine au 5 ?_;obtain⟨d8,d9,h⟩:=bns h;refine to (six rfl rfl cR.of (cF aD d9)) (au 5 ?_);refine to (sla 1 (aT j) rfl rfl aGa) (tm (.i d8) ?_);obtain⟨h4,e0,h⟩:=bns h;refine to (scr call222 (aHl _ _ e0)) (to (sn rfl) (bN ?_));refine tih h (λe1 h=>?_) (λe1 h=>?_)
            ·refine cZ ?_;refine .inr ⟨by decide,?_⟩;refine .inr ⟨by decide,?_⟩;refine .inl ⟨rfl,?_⟩;simp only[gE] at h;refine au 4 ?_;exact⟨(w64 (e+1),M,b3,b4),h,aO [0,1] rfl rfl (aL rfl (aR (ae rfl)))⟩
            ·refine iO ?_;refine au 4 ?_;exact⟨(w64 (a9+1)),h,aO [0,1,2] rfl rfl (aL rfl (aR (ae rfl)))⟩
           ·refine cZ ?_;refine .inl ⟨rfl,?_⟩;simp only[rP] at h;refine au 7 ?_;refine aGe ?_;refine eV (S:=Int×Z35×(List Nat)×Nat) [0,3,6,7,51,52,53] (λV=>[(10,.i V.1)]) (λV=>[.map g (V.2.1.map λp:aH×Int=>((λa:aH=>Value.agg ((aT a).map bA).toArray) p.1,(λv:Int=>AV.i v) p.2)) V.2.2.1 V.2.2.2,.box b1 0 (aT j),.box G 0 (bD y)]) (λk V=>eR (cC kr) (cM (cC kr) c.Program c.days c.old c.Program.Jobs (c.Program.Jobs.length:Int) j a3) c.Program c.days c.old e c.Program.Jobs (c.Program.Jobs.length:Int) e j y k V.1 V.2.1) (λ_=>rfl) (j.day.number,M,b3,b4) h (aO [0,1,2] rfl rfl (aL rfl (aR (ae rfl)))) ?_;rintro c2 ⟨o,O,b0,b2⟩ h;simp only[eR] at h;refine au 5 ?_;refine to (eI (aE rfl) rfl) ?_;refine to (sfc [.j c.days] rfl bNo) (au 3 ?_);obtain⟨e2,a6,h⟩:=bns h;refine lJ 5 [0,3,6,7,10,51,52,53] 87 e2 ?_ ?_
            ·refine bch a6 (λe3 a6=>?_) (λe3 a6=>?_)
             ·refine au 5 ?_;obtain rfl:=sIn a6;refine bN (dQ rfl (ae rfl) rfl)
             ·refine au 5 ?_;obtain rfl:=sIn a6;refine bN (dQ rfl (ae rfl) rfl)
            ·refine bN ?_;refine tih h (λe4 h=>?_) (λe4 h=>?_)
             ·refine au 6 ?_;refine to (sla 1 (bK j.day) rfl rfl aJt) ?_;refine bO rfl (dG (zs:=[.j 0,.j 0,.j 0,.j 0,.j 0,.j 0,.j 0,.j 0,.j 0,.j 0]) (aE rfl) zeroValue215 rfl rfl) ?_;rintro _ ⟨N,rfl⟩;refine to (sst 3 rfl rfl sizeOf215 (bK j.day)) (au 10 ?_);refine tih h (λe5 h=>?_) (λe5 h=>?_)
              ·refine au 2 ?_;refine to (eI (aE rfl) rfl) ?_;refine to (sfc [.sl 1 (c.Program.Days.map bC),.j c.Program.Rest,.sl 6 (c.Program.Jobs.map bD)] rfl xV) (to (aDe (bJ c.Program) rfl zF) (tm (.i o) ?_));obtain⟨A,e6,h⟩:=bns h;refine to (nH (aE rfl) (.func _ _ call132) rfl rfl (aDn _ _ e6)) ?_;refine to (sst 3 rfl rfl sizeOf215 (bK A)) (au 4 ?_);refine to (eI (aE rfl) rfl) ?_;refine to (sfc [.sl 1 (c.Program.Days.map bC),.j c.Program.Rest,.sl 6 (c.Program.Jobs.map bD)] rfl xV) (to (sfc [.sl 1 (c.Program.Days.map bC)] rfl aTc) (au 2 ?_));obtain⟨c3,e7,h⟩:=bns h;refine to (six rfl rfl bMf.of (cF bC e7)) (au 4 ?_);refine aGe ?_;refine eV (S:=Int×Z35×(List Nat)×Nat) [0,3,6,7,10,11,51,52,53,110,111] (λW=>[(112,.i W.1)]) (λW=>[.map g (W.2.1.map λp:aH×Int=>((λa:aH=>Value.agg ((aT a).map bA).toArray) p.1,(λv:Int=>AV.i v) p.2)) W.2.2.1 W.2.2.2,.box b1 0 (aT j),.box G 0 (bD y),.box N 0 (bK A)]) (λk W=>eD (cC kr) (cM (cC kr) c.Program c.days c.old c.Program.Jobs (c.Program.Jobs.length:Int) j a3) (eR (cC kr) (cM (cC kr) c.Program c.days c.old c.Program.Jobs (c.Program.Jobs.length:Int) j a3) c.Program c.days c.old e c.Program.Jobs (c.Program.Jobs.length:Int) e j y c2) c.Program c.days c.old e o c.Program.Jobs (c.Program.Jobs.length:Int) e c3 (c3.length:Int) j y A k W.1 W.2.1) (λ_=>rfl) (0,O,b0,b2) h (aO [0,1,2,3] rfl rfl (aL rfl (aR (ae rfl)))) ?_;rintro h5 ⟨q,B,P,Q⟩ h;simp only[eD] at h;refine au 5 ?_;refine tih h (λe8 h=>?_) (λe8 h=>?_)
               ·refine au 6 ?_;obtain⟨a4,e9,h⟩:=bns h;refine to (six rfl rfl aWz.of (cF bX e9)) (to (aDe (bX a4) rfl aJu) ?_);refine bO rfl (dG (zs:=[.j 0,.j 0]) (aE rfl) zeroValue63 rfl rfl) ?_;rintro _ ⟨b6,rfl⟩;refine ta (.i q) (to (sst 4 rfl rfl sizeOf63 (bX a4)) (au 6 ?_));refine to (jT (aE rfl) bPq (zs:=[.j 0,.j 0,.j 0]) rfl rfl rfl rfl (es:=[.j e,.j o,.j q]) rfl) ?_;refine bO rfl (dG (zs:=[.j 0,.j 0,.j 0]) (aE rfl) zeroValue58 rfl rfl) ?_;rintro _ ⟨b7,rfl⟩;refine to (sst 5 rfl rfl sizeOf58 (aM (aG.mk e o q))) (bN (bT ?_));obtain⟨h6,f0,h⟩:=bns h;obtain⟨K,f1,h⟩:=bns h;refine jX mix 14 [0,3,6,7,10,11,13,14,51,52,53,110,111,112] (λE=>[(15,.bp (E 13).b 0 0),(133,.agg (aT (aH.mk A (bOr j.done (w64 (1*2^(min e.toNat 64)))) (w64 (j.moves-K)))))]) (λE=>[.map g (B.map λp:aH×Int=>((λa:aH=>Value.agg ((aT a).map bA).toArray) p.1,(λv:Int=>AV.i v) p.2)) P Q,.box b1 0 (aT j),.box G 0 (bD y),.box N 0 (bK A),.box b6 0 (bX a4),.box b7 0 (aM (aG.mk e o q)),.box (E 13).b 0 Z8]) ?_ ?_
                ·refine⟨1,λE=>[(121,0,.agg (bK A)),(122,1,.bp b1 0 10),(123,2,.i j.done),(124,3,.i e),(125,4,.i (w64 (1*2^(min e.toNat 64)))),(126,5,.i (bOr j.done (w64 (1*2^(min e.toNat 64))))),(127,6,.bp b1 0 11),(128,7,.i j.moves),(129,8,.cp [.sl 1 (c.Program.Days.map bC),.j c.Program.Rest,.sl 6 (c.Program.Jobs.map bD),.j c.days,fN 3 aM c.old,.lit (.map (some g))]),(130,9,.agg (aM (aG.mk e o q))),(131,10,.i K),(132,11,.i (w64 (j.moves-K))),(133,12,.agg (aT (aH.mk A (bOr j.done (w64 (1*2^(min e.toNat 64)))) (w64 (j.moves-K))))),(15,13,.bp (E 13).b 0 0)],λE=>[([],.map g (B.map λp:aH×Int=>((λa:aH=>Value.agg ((aT a).map bA).toArray) p.1,(λv:Int=>AV.i v) p.2)) P Q),([],.box b1 0 (aT j)),([],.box G 0 (bD y)),([],.box N 0 (bK A)),([],.box b6 0 (bX a4)),([],.box b7 0 (aM (aG.mk e o q))),([(13,.box (E 13).b 0 Z8)],nob)],?_,?_⟩
                 · exact xok [(0,0),(0,0),(2,0),(0,0),(4,0),(305,0),(0,0),(7,0),(0,0),(0,0),(910,0),(811,0),(10612,0),(0,0)] ⟨λ_ _ w _ k=>xp w (yla k 3 (bK A) rfl (og k rfl rfl) aJt),
 λ_ _ w _ k=>xp w (yf k rfl aOy),
 λ_ _ w _ k=>xp w (yl k 1 rfl (og k rfl rfl) rfl dI),
 λ_ _ w _ k=>xp w (ym k (.i e)),
 λ_ _ w _ k=>xp w (aWy (aE rfl) rfl (aU k rfl) (aIm f0)),
 λ_ _ w _ k=>xp w (aKq (aE rfl) (aU k rfl) (aU k rfl) (.inr (.inl ⟨rfl,rfl⟩))),
 λ_ _ w _ k=>xp w (yf k rfl aOz),
 λ_ _ w _ k=>xp w (yl k 1 rfl (og k rfl rfl) rfl dI),
 λ_ _ w _ k=>xp w (ym k (.cp [.sl 1 (c.Program.Days.map bC),.j c.Program.Rest,.sl 6 (c.Program.Jobs.map bD),.j c.days,fN 3 aM c.old,.lit (.map (some g))])),
 λ_ _ w _ k=>xp w (yla k 5 (aM (aG.mk e o q)) rfl (og k rfl rfl) zG),
 λ_ _ w _ k=>xp w (fZ (aE rfl) (.func _ _ call223) (ev2 (aU k rfl) (ev2 (aU k rfl) evn)) rfl (BVs.refl _ _) (aEj _ _ f1) rfl),
 λ_ _ w _ k=>xp w (yar k rfl rfl rfl),
 λ_ _ w _ k=>xp w (jT (aE rfl) aZa (zs:=[.j 0,.j 0,.j 0,.j 0,.j 0,.j 0,.j 0,.j 0,.j 0,.j 0,.j 0,.j 0]) rfl rfl rfl (pa2 (aU k rfl) (pa2 (aU k rfl) (pa2 (aU k rfl) pan))) (es:=[.j A.number,.j A.free.x0,.j A.free.x1,.j A.free.x2,.j A.ends.x0,.j A.ends.x1,.j A.ends.x2,.j A.ends.x3,.j A.ends.x4,.j A.ends.x5,.j (bOr j.done (w64 (1*2^(min e.toNat 64)))),.j (w64 (j.moves-K))]) rfl),
 fun E S hw hi hS =>aEr (X:=E) (p:=6) (v:=λx=>.bp x.b 0 0) (mo:=λx=>.box x.b 0 Z8) hS hi rfl rfl (λ_=>rfl) hw (λ_=>rfl) (λ_=>rfl) (λ_=>rfl) (λ_=>⟨rfl,rfl,.inr rfl,⟨rfl,rfl,.inr rfl,⟨rfl,rfl,.inr rfl,⟨rfl,rfl,.inr rfl,⟨rfl,rfl,.inr rfl,⟨rfl,rfl,.inr rfl,⟨rfl,rfl,.inr rfl,⟨rfl,rfl,.inr rfl,⟨rfl,rfl,.inr rfl,⟨rfl,rfl,.inr rfl,⟨rfl,rfl,.inr rfl,⟨rfl,rfl,.inr rfl,⟨rfl,rfl,.inr rfl,⟨rfl,rfl,.inl rfl,trivial⟩⟩⟩⟩⟩⟩⟩⟩⟩⟩⟩⟩⟩⟩) (λ_=>⟨trivial,rfl,⟨trivial,rfl,⟨trivial,rfl,⟨trivial,rfl,⟨trivial,rfl,⟨trivial,rfl,⟨⟨rfl,.inl rfl,trivial⟩,rfl,trivial⟩⟩⟩⟩⟩⟩⟩) (kW (dG (zs:=[.j 0,.j 0,.j 0,.j 0,.j 0,.j 0,.j 0,.j 0,.j 0,.j 0,.j 0,.j 0]) (aE rfl) zeroValue276 rfl rfl) (by rintro _ ⟨w,rfl⟩;exact⟨⟨w,undef⟩,aO [0,1,2,3,4,5,7] rfl rfl (le_refl _)⟩)),trivial⟩
                 · exactλE=>cP (aL rfl (aL rfl (aR (ae rfl))))
                ·intro E;refine to (sst 6 rfl rfl sizeOf276 (aT (aH.mk A (bOr j.done (w64 (1*2^(min e.toNat 64)))) (w64 (j.moves-K))))) (au 3 ?_);obtain⟨H,f2,h⟩:=bns h;refine jX mix 14 [0,3,6,7,10,11,13,14,15,51,52,53,110,111,112] (λY=>[(146,.i H.2.1)]) (λY=>[.map g (B.map λp:aH×Int=>((λa:aH=>Value.agg ((aT a).map bA).toArray) p.1,(λv:Int=>AV.i v) p.2)) P Q,.box b1 0 (aT j),.box G 0 (bD y),.box N 0 (bK A),.box b6 0 (bX a4),.box b7 0 (aM (aG.mk e o q)),.box (E 13).b 0 (aT (aH.mk H.2.2 (bOr j.done (w64 (1*2^(min e.toNat 64)))) (w64 (j.moves-K))))]) ?_ ?_
                 ·refine⟨0,λY=>[(135,0,.bp (E 13).b 0 0),(136,1,.cp [.sl 1 (c.Program.Days.map bC),.j c.Program.Rest,.sl 6 (c.Program.Jobs.map bD),.j c.days,fN 3 aM c.old,.lit (.map (some g))]),(137,2,.cp [.sl 1 (c.Program.Days.map bC),.j c.Program.Rest,.sl 6 (c.Program.Jobs.map bD),.j c.days,fN 3 aM c.old,.lit (.map (some g))]),(138,3,.cp [.sl 1 (c.Program.Days.map bC),.j c.Program.Rest,.sl 6 (c.Program.Jobs.map bD)]),(139,4,.agg (bJ c.Program)),(140,5,.agg (aM (aG.mk e o q))),(141,6,.bp G 0 0),(142,7,.bp G 0 1),(143,8,.i y.Length.High),(144,9,.tup [.i H.1,.i H.2.1]),(134,10,.tup [.i H.1,.i H.2.1]),(145,11,.i H.1),(146,12,.i H.2.1),(16,13,.i H.1)],λY=>[([],.map g (B.map λp:aH×Int=>((λa:aH=>Value.agg ((aT a).map bA).toArray) p.1,(λv:Int=>AV.i v) p.2)) P Q),([],.box b1 0 (aT j)),([],.box G 0 (bD y)),([],.box N 0 (bK A)),([],.box b6 0 (bX a4)),([],.box b7 0 (aM (aG.mk e o q))),([(9,.box (E 13).b 0 (aT (aH.mk H.2.2 (bOr j.done (w64 (1*2^(min e.toNat 64)))) (w64 (j.moves-K)))))],.box (E 13).b 0 (aT (aH.mk A (bOr j.done (w64 (1*2^(min e.toNat 64)))) (w64 (j.moves-K)))))],?_,?_⟩
                  · exact xok [(0,10),(0,10),(2,10),(3,10),(4,10),(0,10),(0,10),(7,10),(8,10),(1050609,0),(10,0),(1011,0),(1011,0),(1012,0)] ⟨λ_ _ w _ k=>xp w (yf k rfl aOx),
 λ_ _ w _ k=>xp w (ym k (.cp [.sl 1 (c.Program.Days.map bC),.j c.Program.Rest,.sl 6 (c.Program.Jobs.map bD),.j c.days,fN 3 aM c.old,.lit (.map (some g))])),
 λ_ _ w _ k=>xp w (eI (aE rfl) (aU k rfl)),
 λ_ _ w _ k=>xp w (yfc k [.sl 1 (c.Program.Days.map bC),.j c.Program.Rest,.sl 6 (c.Program.Jobs.map bD)] rfl xV),
 λ_ _ w _ k=>xp w (bMo k (bJ c.Program) rfl zF),
 λ_ _ w _ k=>xp w (yla k 5 (aM (aG.mk e o q)) rfl (og k rfl rfl) zG),
 λ_ _ w _ k=>xp w (yf k rfl aLx),
 λ_ _ w _ k=>xp w (yf k rfl aTd),
 λ_ _ w _ k=>xp w (yl k 2 rfl (og k rfl rfl) rfl dI),
 λY S hw hi hS=>aHw (X:=Y) (p:=6) hS rfl rfl rfl (hw Y) rfl rfl rfl (kW (aNb ((aVg 6 (x:=.box (E 13).b 0 (aT (aH.mk A (bOr j.done (w64 (1*2^(min e.toNat 64)))) (w64 (j.moves-K))))) (og hS rfl rfl)).trans (aO [6,0,1,2,3,4,5] rfl rfl (le_refl _))) (oN (passed:=[.box (E 13).b 0 ((bK A)++[.j (bOr j.done (w64 (1*2^(min e.toNat 64)))),.j (w64 (j.moves-K))])]) (aE rfl) rfl (.func _ _ call133) (ev2 (aU hS rfl) (ev2 (aU hS rfl) (ev2 (aU hS rfl) (ev2 (aU hS rfl) evn)))) rfl (wU A c.Program (aG.mk e o q) y.Length.High (d_0_post:=[.j (bOr j.done (w64 (1*2^(min e.toNat 64)))),.j (w64 (j.moves-K))]) f2))) (by rintro _ ⟨_,_,⟨rfl,rfl⟩,rfl⟩;exact aO [1,2,3,4,5,6,0] rfl rfl (le_refl _))),
 λ_ _ w _ k=>xp w (ym k (.tup [.i H.1,.i H.2.1])),
 λ_ _ w _ k=>xp w (yex k rfl rfl),
 λ_ _ w _ k=>xp w (yex k rfl rfl),
 fun _ _ w _ k => xp w (ya k (.i H.1)),trivial⟩
                  · exactλY=>cP (aL rfl (aR (ae rfl)))
                 ·intro Y;refine au 9 ?_;obtain⟨f3,a7,h⟩:=bns h;refine lJ 4 [0,3,6,7,10,11,14,15,51,52,53,110,111,112] 155 f3 ?_ ?_
                  ·refine bch a7 (λf4 a7=>?_) (λf4 a7=>?_)
                   ·refine au 4 ?_;obtain rfl:=sIn a7;refine bN (dQ rfl (ae rfl) rfl)
                   ·refine au 4 ?_;obtain rfl:=sIn a7;refine bN (dQ rfl (ae rfl) rfl)
                  ·refine bN ?_;refine tih h (λf5 h=>?_) (λf5 h=>?_)
                   ·refine cZ ?_;refine .inl ⟨rfl,?_⟩;refine au 4 ?_;exact⟨(w64 (q+1),B,P,Q),h,aO [0,1,2,3] rfl rfl (aL rfl (aR (ae rfl)))⟩
                   ·refine au 4 ?_;refine to (sla 6 (aT (aH.mk H.2.2 (bOr j.done (w64 (1*2^(min e.toNat 64)))) (w64 (j.moves-K)))) rfl rfl aGa) ?_;obtain⟨c0,f6,h⟩:=bns h;refine bO rfl (oN (passed:=[.map g (B.map λp:aH×Int=>((λa:aH=>Value.agg ((aT a).map bA).toArray) p.1,(λv:Int=>AV.i v) p.2)) P Q]) (aE rfl) rfl (.func _ _ call181) rfl rfl (ih c B (aH.mk H.2.2 (bOr j.done (w64 (1*2^(min e.toNat 64)))) (w64 (j.moves-K))) f6)) ?_;rintro _ ⟨_,_,⟨c7,c8,rfl,rfl⟩,rfl⟩;refine au 10 ?_;refine tih h (λf7 h=>?_) (λf7 h=>?_)
                    ·refine bT (bQ (to (sla 5 (aM (aG.mk e o q)) rfl rfl zG) (to (aTy (aE rfl) aRa rfl rfl (rows:=([(aG.mk e o q)]).map aM) rfl (dT (f:=aM) λ_=>rfl) rfl (by decide)) ?_)));refine tm (.d (.sl 3 (c0.1.map aM))) ?_;obtain⟨h7,f8,h⟩:=bns h;refine to (bFy (.d (.weak _ _)) (bAz (nn:=true) (f:=aM) (xs:=[(aG.mk e o q)]) (ys:=c0.1) (aE rfl) aRa rfl rfl (λ_=>rfl) f8 rfl)) ?_;refine au 3 ?_;obtain rfl:=sIn h;refine eW (aO [0] rfl rfl (aR (l:=[4,5]) (ae rfl))) ?_;exact cG ⟨rfl,_,.two _ _,_,_,rfl,rfl⟩
                    ·refine iO ?_;refine au 4 ?_;exact⟨(w64 (q+1),c0.2.2,c7,c8),h,aO [0,1,2,3] rfl rfl (aL rfl (aR (ae rfl)))⟩
               ·refine cZ ?_;refine .inl ⟨rfl,?_⟩;simp only[rR] at h;simp only[rQ] at h;refine au 5 ?_;exact⟨(w64 (o+1),B,P,Q),h,aO [0,1,2] rfl rfl (aL rfl (aR (ae rfl)))⟩
              ·refine au 4 ?_;refine to (eI (aE rfl) rfl) ?_;refine to (sfc [.sl 1 (c.Program.Days.map bC),.j c.Program.Rest,.sl 6 (c.Program.Jobs.map bD)] rfl xV) (to (sfc [.sl 1 (c.Program.Days.map bC)] rfl aTc) (au 2 ?_));obtain⟨c5,f9,h⟩:=bns h;refine to (six rfl rfl bMf.of (cF bC f9)) (au 4 ?_);refine aGe ?_;refine eV (S:=Int×Z35×(List Nat)×Nat) [0,3,6,7,10,11,51,52,53,110,111] (λZ=>[(112,.i Z.1)]) (λZ=>[.map g (Z.2.1.map λp:aH×Int=>((λa:aH=>Value.agg ((aT a).map bA).toArray) p.1,(λv:Int=>AV.i v) p.2)) Z.2.2.1 Z.2.2.2,.box b1 0 (aT j),.box G 0 (bD y),.box N 0 (bK j.day)]) (λk Z=>eD (cC kr) (cM (cC kr) c.Program c.days c.old c.Program.Jobs (c.Program.Jobs.length:Int) j a3) (eR (cC kr) (cM (cC kr) c.Program c.days c.old c.Program.Jobs (c.Program.Jobs.length:Int) j a3) c.Program c.days c.old e c.Program.Jobs (c.Program.Jobs.length:Int) e j y c2) c.Program c.days c.old e o c.Program.Jobs (c.Program.Jobs.length:Int) e c5 (c5.length:Int) j y j.day k Z.1 Z.2.1) (λ_=>rfl) (0,O,b0,b2) h (aO [0,1,2,3] rfl rfl (aL rfl (aR (ae rfl)))) ?_;rintro h8 ⟨s,C,T,U⟩ h;simp only[eD] at h;refine au 5 ?_;refine tih h (λg0 h=>?_) (λg0 h=>?_)
               ·refine au 6 ?_;obtain⟨a5,g1,h⟩:=bns h;refine to (six rfl rfl aWz.of (cF bX g1)) (to (aDe (bX a5) rfl aJu) ?_);refine bO rfl (dG (zs:=[.j 0,.j 0]) (aE rfl) zeroValue63 rfl rfl) ?_;rintro _ ⟨b8,rfl⟩;refine ta (.i s) (to (sst 4 rfl rfl sizeOf63 (bX a5)) (au 6 ?_));refine to (jT (aE rfl) bPq (zs:=[.j 0,.j 0,.j 0]) rfl rfl rfl rfl (es:=[.j e,.j o,.j s]) rfl) ?_;refine bO rfl (dG (zs:=[.j 0,.j 0,.j 0]) (aE rfl) zeroValue58 rfl rfl) ?_;rintro _ ⟨b9,rfl⟩;refine to (sst 5 rfl rfl sizeOf58 (aM (aG.mk e o s))) (bN (bT ?_));obtain⟨h9,g2,h⟩:=bns h;obtain⟨L,g3,h⟩:=bns h;refine jX mix 14 [0,3,6,7,10,11,13,14,51,52,53,110,111,112] (λF=>[(15,.bp (F 13).b 0 0),(133,.agg (aT (aH.mk j.day (bOr j.done (w64 (1*2^(min e.toNat 64)))) (w64 (j.moves-L)))))]) (λF=>[.map g (C.map λp:aH×Int=>((λa:aH=>Value.agg ((aT a).map bA).toArray) p.1,(λv:Int=>AV.i v) p.2)) T U,.box b1 0 (aT j),.box G 0 (bD y),.box N 0 (bK j.day),.box b8 0 (bX a5),.box b9 0 (aM (aG.mk e o s)),.box (F 13).b 0 Z8]) ?_ ?_
                ·refine⟨1,λF=>[(121,0,.agg (bK j.day)),(122,1,.bp b1 0 10),(123,2,.i j.done),(124,3,.i e),(125,4,.i (w64 (1*2^(min e.toNat 64)))),(126,5,.i (bOr j.done (w64 (1*2^(min e.toNat 64))))),(127,6,.bp b1 0 11),(128,7,.i j.moves),(129,8,.cp [.sl 1 (c.Program.Days.map bC),.j c.Program.Rest,.sl 6 (c.Program.Jobs.map bD),.j c.days,fN 3 aM c.old,.lit (.map (some g))]),(130,9,.agg (aM (aG.mk e o s))),(131,10,.i L),(132,11,.i (w64 (j.moves-L))),(133,12,.agg (aT (aH.mk j.day (bOr j.done (w64 (1*2^(min e.toNat 64)))) (w64 (j.moves-L))))),(15,13,.bp (F 13).b 0 0)],λF=>[([],.map g (C.map λp:aH×Int=>((λa:aH=>Value.agg ((aT a).map bA).toArray) p.1,(λv:Int=>AV.i v) p.2)) T U),([],.box b1 0 (aT j)),([],.box G 0 (bD y)),([],.box N 0 (bK j.day)),([],.box b8 0 (bX a5)),([],.box b9 0 (aM (aG.mk e o s))),([(13,.box (F 13).b 0 Z8)],nob)],?_,?_⟩
                 · exact xok [(0,0),(0,0),(2,0),(0,0),(4,0),(305,0),(0,0),(7,0),(0,0),(0,0),(910,0),(811,0),(10612,0),(0,0)] ⟨λ_ _ w _ k=>xp w (yla k 3 (bK j.day) rfl (og k rfl rfl) aJt),
 λ_ _ w _ k=>xp w (yf k rfl aOy),
 λ_ _ w _ k=>xp w (yl k 1 rfl (og k rfl rfl) rfl dI),
 λ_ _ w _ k=>xp w (ym k (.i e)),
 λ_ _ w _ k=>xp w (aWy (aE rfl) rfl (aU k rfl) (aIm g2)),
 λ_ _ w _ k=>xp w (aKq (aE rfl) (aU k rfl) (aU k rfl) (.inr (.inl ⟨rfl,rfl⟩))),
 λ_ _ w _ k=>xp w (yf k rfl aOz),
 λ_ _ w _ k=>xp w (yl k 1 rfl (og k rfl rfl) rfl dI),
 λ_ _ w _ k=>xp w (ym k (.cp [.sl 1 (c.Program.Days.map bC),.j c.Program.Rest,.sl 6 (c.Program.Jobs.map bD),.j c.days,fN 3 aM c.old,.lit (.map (some g))])),
 λ_ _ w _ k=>xp w (yla k 5 (aM (aG.mk e o s)) rfl (og k rfl rfl) zG),
 λ_ _ w _ k=>xp w (fZ (aE rfl) (.func _ _ call223) (ev2 (aU k rfl) (ev2 (aU k rfl) evn)) rfl (BVs.refl _ _) (aEj _ _ g3) rfl),
 λ_ _ w _ k=>xp w (yar k rfl rfl rfl),
 λ_ _ w _ k=>xp w (jT (aE rfl) aZa (zs:=[.j 0,.j 0,.j 0,.j 0,.j 0,.j 0,.j 0,.j 0,.j 0,.j 0,.j 0,.j 0]) rfl rfl rfl (pa2 (aU k rfl) (pa2 (aU k rfl) (pa2 (aU k rfl) pan))) (es:=[.j j.day.number,.j j.day.free.x0,.j j.day.free.x1,.j j.day.free.x2,.j j.day.ends.x0,.j j.day.ends.x1,.j j.day.ends.x2,.j j.day.ends.x3,.j j.day.ends.x4,.j j.day.ends.x5,.j (bOr j.done (w64 (1*2^(min e.toNat 64)))),.j (w64 (j.moves-L))]) rfl),
 fun F S hw hi hS =>aEr (X:=F) (p:=6) (v:=λx=>.bp x.b 0 0) (mo:=λx=>.box x.b 0 Z8) hS hi rfl rfl (λ_=>rfl) hw (λ_=>rfl) (λ_=>rfl) (λ_=>rfl) (λ_=>⟨rfl,rfl,.inr rfl,⟨rfl,rfl,.inr rfl,⟨rfl,rfl,.inr rfl,⟨rfl,rfl,.inr rfl,⟨rfl,rfl,.inr rfl,⟨rfl,rfl,.inr rfl,⟨rfl,rfl,.inr rfl,⟨rfl,rfl,.inr rfl,⟨rfl,rfl,.inr rfl,⟨rfl,rfl,.inr rfl,⟨rfl,rfl,.inr rfl,⟨rfl,rfl,.inr rfl,⟨rfl,rfl,.inr rfl,⟨rfl,rfl,.inl rfl,trivial⟩⟩⟩⟩⟩⟩⟩⟩⟩⟩⟩⟩⟩⟩) (λ_=>⟨trivial,rfl,⟨trivial,rfl,⟨trivial,rfl,⟨trivial,rfl,⟨trivial,rfl,⟨trivial,rfl,⟨⟨rfl,.inl rfl,trivial⟩,rfl,trivial⟩⟩⟩⟩⟩⟩⟩) (kW (dG (zs:=[.j 0,.j 0,.j 0,.j 0,.j 0,.j 0,.j 0,.j 0,.j 0,.j 0,.j 0,.j 0]) (aE rfl) zeroValue276 rfl rfl) (by rintro _ ⟨w,rfl⟩;exact⟨⟨w,undef⟩,aO [0,1,2,3,4,5,7] rfl rfl (le_refl _)⟩)),trivial⟩
                 · exactλF=>cP (aL rfl (aL rfl (aR (ae rfl))))
                ·intro F;refine to (sst 6 rfl rfl sizeOf276 (aT (aH.mk j.day (bOr j.done (w64 (1*2^(min e.toNat 64)))) (w64 (j.moves-L))))) (au 3 ?_);obtain⟨I,g4,h⟩:=bns h;refine jX mix 14 [0,3,6,7,10,11,13,14,15,51,52,53,110,111,112] (λa2=>[(146,.i I.2.1)]) (λa2=>[.map g (C.map λp:aH×Int=>((λa:aH=>Value.agg ((aT a).map bA).toArray) p.1,(λv:Int=>AV.i v) p.2)) T U,.box b1 0 (aT j),.box G 0 (bD y),.box N 0 (bK j.day),.box b8 0 (bX a5),.box b9 0 (aM (aG.mk e o s)),.box (F 13).b 0 (aT (aH.mk I.2.2 (bOr j.done (w64 (1*2^(min e.toNat 64)))) (w64 (j.moves-L))))]) ?_ ?_
                 ·refine⟨0,λa2=>[(135,0,.bp (F 13).b 0 0),(136,1,.cp [.sl 1 (c.Program.Days.map bC),.j c.Program.Rest,.sl 6 (c.Program.Jobs.map bD),.j c.days,fN 3 aM c.old,.lit (.map (some g))]),(137,2,.cp [.sl 1 (c.Program.Days.map bC),.j c.Program.Rest,.sl 6 (c.Program.Jobs.map bD),.j c.days,fN 3 aM c.old,.lit (.map (some g))]),(138,3,.cp [.sl 1 (c.Program.Days.map bC),.j c.Program.Rest,.sl 6 (c.Program.Jobs.map bD)]),(139,4,.agg (bJ c.Program)),(140,5,.agg (aM (aG.mk e o s))),(141,6,.bp G 0 0),(142,7,.bp G 0 1),(143,8,.i y.Length.High),(144,9,.tup [.i I.1,.i I.2.1]),(134,10,.tup [.i I.1,.i I.2.1]),(145,11,.i I.1),(146,12,.i I.2.1),(16,13,.i I.1)],λa2=>[([],.map g (C.map λp:aH×Int=>((λa:aH=>Value.agg ((aT a).map bA).toArray) p.1,(λv:Int=>AV.i v) p.2)) T U),([],.box b1 0 (aT j)),([],.box G 0 (bD y)),([],.box N 0 (bK j.day)),([],.box b8 0 (bX a5)),([],.box b9 0 (aM (aG.mk e o s))),([(9,.box (F 13).b 0 (aT (aH.mk I.2.2 (bOr j.done (w64 (1*2^(min e.toNat 64)))) (w64 (j.moves-L)))))],.box (F 13).b 0 (aT (aH.mk j.day (bOr j.done (w64 (1*2^(min e.toNat 64)))) (w64 (j.moves-L)))))],?_,?_⟩
                  · exact xok [(0,10),(0,10),(2,10),(3,10),(4,10),(0,10),(0,10),(7,10),(8,10),(1050609,0),(10,0),(1011,0),(1011,0),(1012,0)] ⟨λ_ _ w _ k=>xp w (yf k rfl aOx),
 λ_ _ w _ k=>xp w (ym k (.cp [.sl 1 (c.Program.Days.map bC),.j c.Program.Rest,.sl 6 (c.Program.Jobs.map bD),.j c.days,fN 3 aM c.old,.lit (.map (some g))])),
 λ_ _ w _ k=>xp w (eI (aE rfl) (aU k rfl)),
 λ_ _ w _ k=>xp w (yfc k [.sl 1 (c.Program.Days.map bC),.j c.Program.Rest,.sl 6 (c.Program.Jobs.map bD)] rfl xV),
 λ_ _ w _ k=>xp w (bMo k (bJ c.Program) rfl zF),
 λ_ _ w _ k=>xp w (yla k 5 (aM (aG.mk e o s)) rfl (og k rfl rfl) zG),
 λ_ _ w _ k=>xp w (yf k rfl aLx),
 λ_ _ w _ k=>xp w (yf k rfl aTd),
 λ_ _ w _ k=>xp w (yl k 2 rfl (og k rfl rfl) rfl dI),
 λa2 S hw hi hS=>aHw (X:=a2) (p:=6) hS rfl rfl rfl (hw a2) rfl rfl rfl (kW (aNb ((aVg 6 (x:=.box (F 13).b 0 (aT (aH.mk j.day (bOr j.done (w64 (1*2^(min e.toNat 64)))) (w64 (j.moves-L))))) (og hS rfl rfl)).trans (aO [6,0,1,2,3,4,5] rfl rfl (le_refl _))) (oN (passed:=[.box (F 13).b 0 ((bK j.day)++[.j (bOr j.done (w64 (1*2^(min e.toNat 64)))),.j (w64 (j.moves-L))])]) (aE rfl) rfl (.func _ _ call133) (ev2 (aU hS rfl) (ev2 (aU hS rfl) (ev2 (aU hS rfl) (ev2 (aU hS rfl) evn)))) rfl (wU j.day c.Program (aG.mk e o s) y.Length.High (d_0_post:=[.j (bOr j.done (w64 (1*2^(min e.toNat 64)))),.j (w64 (j.moves-L))]) g4))) (by rintro _ ⟨_,_,⟨rfl,rfl⟩,rfl⟩;exact aO [1,2,3,4,5,6,0] rfl rfl (le_refl _))),
 λ_ _ w _ k=>xp w (ym k (.tup [.i I.1,.i I.2.1])),
 λ_ _ w _ k=>xp w (yex k rfl rfl),
 λ_ _ w _ k=>xp w (yex k rfl rfl),
 fun _ _ w _ k => xp w (ya k (.i I.1)),trivial⟩
                  · exactλa2=>cP (aL rfl (aR (ae rfl)))
                 ·intro a2;refine au 9 ?_;obtain⟨g5,a8,h⟩:=bns h;refine lJ 4 [0,3,6,7,10,11,14,15,51,52,53,110,111,112] 155 g5 ?_ ?_
                  ·refine bch a8 (λg6 a8=>?_) (λg6 a8=>?_)
                   ·refine au 4 ?_;obtain rfl:=sIn a8;refine bN (dQ rfl (ae rfl) rfl)
                   ·refine au 4 ?_;obtain rfl:=sIn a8;refine bN (dQ rfl (ae rfl) rfl)
                  ·refine bN ?_;refine tih h (λg7 h=>?_) (λg7 h=>?_)
                   ·refine cZ ?_;refine .inl ⟨rfl,?_⟩;refine au 4 ?_;exact⟨(w64 (s+1),C,T,U),h,aO [0,1,2,3] rfl rfl (aL rfl (aR (ae rfl)))⟩
                   ·refine au 4 ?_;refine to (sla 6 (aT (aH.mk I.2.2 (bOr j.done (w64 (1*2^(min e.toNat 64)))) (w64 (j.moves-L)))) rfl rfl aGa) ?_;obtain⟨c1,g8,h⟩:=bns h;refine bO rfl (oN (passed:=[.map g (C.map λp:aH×Int=>((λa:aH=>Value.agg ((aT a).map bA).toArray) p.1,(λv:Int=>AV.i v) p.2)) T U]) (aE rfl) rfl (.func _ _ call181) rfl rfl (ih c C (aH.mk I.2.2 (bOr j.done (w64 (1*2^(min e.toNat 64)))) (w64 (j.moves-L))) g8)) ?_;rintro _ ⟨_,_,⟨c9,d0,rfl,rfl⟩,rfl⟩;refine au 10 ?_;refine tih h (λg9 h=>?_) (λg9 h=>?_)
                    ·refine bT (bQ (to (sla 5 (aM (aG.mk e o s)) rfl rfl zG) (to (aTy (aE rfl) aRa rfl rfl (rows:=([(aG.mk e o s)]).map aM) rfl (dT (f:=aM) λ_=>rfl) rfl (by decide)) ?_)));refine tm (.d (.sl 3 (c1.1.map aM))) ?_;obtain⟨i0,h0,h⟩:=bns h;refine to (bFy (.d (.weak _ _)) (bAz (nn:=true) (f:=aM) (xs:=[(aG.mk e o s)]) (ys:=c1.1) (aE rfl) aRa rfl rfl (λ_=>rfl) h0 rfl)) ?_;refine au 3 ?_;obtain rfl:=sIn h;refine eW (aO [0] rfl rfl (aR (l:=[4,5]) (ae rfl))) ?_;exact cG ⟨rfl,_,.two _ _,_,_,rfl,rfl⟩
                    ·refine iO ?_;refine au 4 ?_;exact⟨(w64 (s+1),c1.2.2,c9,d0),h,aO [0,1,2,3] rfl rfl (aL rfl (aR (ae rfl)))⟩
               ·refine cZ ?_;refine .inl ⟨rfl,?_⟩;simp only[rR] at h;simp only[rQ] at h;refine au 5 ?_;exact⟨(w64 (o+1),C,T,U),h,aO [0,1,2] rfl rfl (aL rfl (aR (ae rfl)))⟩
             ·refine cZ ?_;refine .inl ⟨rfl,?_⟩;simp only[wN] at h;simp only[gE] at h;refine au 4 ?_;exact⟨(w64 (e+1),O,b0,b2),h,aO [0,1] rfl rfl (aL rfl (aR (ae rfl)))⟩
         ·refine cZ ?_;refine .inl ⟨rfl,?_⟩;simp only[wM] at h;refine bT (bQ (to (aFu 3 (aE rfl)) ?_));refine au 2 ?_;obtain rfl:=sIn h;refine eW (aO [0] rfl rfl (aR (l:=[4,5]) (ae rfl))) ?_;exact cG ⟨rfl,_,.two _ _,_,_,rfl,rfl⟩
theorem aPx(j:dR)(e:List (aH×Int))(k:aH){r:(List aG)×Bool×(List (aH×Int))}{c:Nat}{f:List Nat}{g:Nat}(h:aAa j e k=some r):dX Tryz.prog 181 [.cp (Z1 j c),.agg (aT k)] [.map c (e.map λp:aH×Int=>((λa:aH=>Value.agg ((aT a).map bA).toArray) p.1,(λv:Int=>AV.i v) p.2)) f g] (λr' o'=>∃(l:List Nat) (m:Nat),r'=.tup [.d (.sl 3 (r.1.map aM)),.b r.2.1]/\o'=[.map c (r.2.2.map λp:aH×Int=>((λa:aH=>Value.agg ((aT a).map bA).toArray) p.1,(λv:Int=>AV.i v) p.2)) l m]):=aNz BIG _ _ _ h

theorem bFh(c:aI)(e:Int)(f:Option (List aG))(g:Int){r:(List aG)×Bool}(h:aBt c e f g=some r):Fn Tryz.prog 128 [.agg (bJ c),.i e,.d (fN 3 aM f),.i g] (.tup [.d (.sl 3 (r.1.map aM)),.b r.2]):=by
 unfold aBt at h;refine oT [.tmp 8,.tmp 9] func128 results128 ntmps128 ?_;refine bT (bQ ?_);refine bO rfl (lC (v:=.agg (bJ c)) (aE rfl) rfl rfl rfl) ?_;rintro _ ⟨b1,rfl⟩;refine to (aFu 3 (aE rfl)) ?_;refine au 4 ?_;refine to (sla 0 (bJ c) rfl rfl zF) (au 2 ?_);refine bO rfl (aEm (aE rfl)) ?_;rintro _ ⟨r2,rfl⟩;refine to (jT (aE rfl) bWv (zs:=[.sl 1 ((([]:List (List aX))).map bC),.j 0,.sl 6 ((([]:List bE)).map bD),.j 0,.sl 3 Z41,.lit (.map none)]) rfl rfl rfl rfl (es:=[.sl 1 (c.Days.map bC),.j c.Rest,.sl 6 (Z26 c),.j e,fN 3 aM f,.lit (.map (some r2))]) rfl) ?_;refine bO rfl (lC (v:=.agg [.sl 1 (c.Days.map bC),.j c.Rest,.sl 6 (Z26 c),.j e,fN 3 aM f,.lit (.map (some r2))]) (aE rfl) rfl rfl rfl) ?_;rintro _ ⟨b3,rfl⟩;refine au 8 ?_;refine tih h (λc4 h=>?_) (λc4 h=>?_)
 ·refine bT ?_;refine fQ mix 5 [] [(8,.d (.sl 3 Z41)),(22,.b (decide ((c.Jobs.length:Int)=0)))] ?_ ?_
  ·refine⟨[(19,0,.bp b1 0 2),(20,1,.d (.sl 6 (Z26 c))),(21,2,.i (c.Jobs.length:Int)),(22,3,.b (decide ((c.Jobs.length:Int)=0))),(8,4,.d (.sl 3 Z41))],?_,?_⟩
   · exact dk [0,1,2,3,0] ⟨go (zf rfl xX),
 go (zl 0 rfl rfl rfl aEf),
 go (zle rfl aFx.of),
 go (zcm rfl rfl rfl),
 go λS hS=>aFu 3 (aE rfl),trivial⟩
   · exact cP (aL rfl (aL rfl (aR trivial)))
  ·refine au 2 ?_;obtain rfl:=sIn h;refine eW (mS (oB (l:=[8,9]) (ae rfl))) ?_;exact cG ⟨rfl,_,.two _ _,rfl,rfl⟩
 ·refine au 4 ?_;refine to (sla 0 (bJ c) rfl rfl zF) ?_;obtain⟨r5,h6,h⟩:=bns h;refine to (nH (aE rfl) (.func _ _ call132) rfl rfl (aDn _ _ h6)) ?_;refine tm (.i g) (to (jT (aE rfl) aZa (zs:=[.j 0,.j 0,.j 0,.j 0,.j 0,.j 0,.j 0,.j 0,.j 0,.j 0,.j 0,.j 0]) rfl rfl rfl rfl (es:=[.j r5.number,.j r5.free.x0,.j r5.free.x1,.j r5.free.x2,.j r5.ends.x0,.j r5.ends.x1,.j r5.ends.x2,.j r5.ends.x3,.j r5.ends.x4,.j r5.ends.x5,.j 0,.j g]) rfl) ?_);apply aZc [.box b1 0 (bJ c),.map r2 (([]:List (aH×Int)).map λp:aH×Int=>((λa:aH=>Value.agg ((aT a).map bA).toArray) p.1,(λv:Int=>AV.i v) p.2)) ([]) 0] [.box b3 0 [.sl 1 (c.Days.map bC),.j c.Rest,.sl 6 (Z26 c),.j e,fN 3 aM f,.lit (.map (some r2))]] rfl;exact tK (k:=23) (v:=.cp [.sl 1 (c.Days.map bC),.j c.Rest,.sl 6 (Z26 c),.j e,fN 3 aM f,.lit (.map (some r2))]) (aDk 0 rfl rfl (dvc (.same _) (dvc (.same _) (dvc (.same _) (dvc (.same _) (dvc (.same _) (dvc (.same _) dvn))))))) (tK (k:=16) (v:=.cp [.sl 1 (c.Days.map bC),.j c.Rest,.sl 6 (Z26 c),.j e,fN 3 aM f,.lit (.map (some r2))]) (aDk 0 rfl rfl (dvc (.same _) (dvc (.same _) (dvc (.same _) (dvc (.same _) (dvc (.same _) (dvc (.same _) dvn))))))) (tK (k:=10) (v:=.cp [.sl 1 (c.Days.map bC),.j c.Rest,.sl 6 (Z26 c),.j e,fN 3 aM f,.lit (.map (some r2))]) (aDk 0 rfl rfl (dvc (.same _) (dvc (.same _) (dvc (.same _) (dvc (.same _) (dvc (.same _) (dvc (.same _) dvn))))))) (aGj _ _)));obtain⟨r7,h8,h⟩:=bns h;refine gW (aO [1,0] rfl rfl (le_refl _)) ?_;refine bO rfl (oN (passed:=[.map r2 (([]:List (aH×Int)).map λp:aH×Int=>((λa:aH=>Value.agg ((aT a).map bA).toArray) p.1,(λv:Int=>AV.i v) p.2)) ([]) 0]) (aE rfl) rfl (.func _ _ call181) rfl rfl (aPx (dR.mk c e f) ([]:List (aH×Int)) (aH.mk r5 0 g) h8)) ?_;rintro _ ⟨_,_,⟨m,j,rfl,rfl⟩,rfl⟩;refine au 5 ?_;obtain rfl:=sIn h;refine eW (mS (oB (l:=[8,9]) (ae rfl))) ?_;exact cG ⟨rfl,_,.two _ _,rfl,rfl⟩

theorem bHj(c:aI){r:Int×(List aG)×Bool}(h:aEi c=some r):Fn Tryz.prog 68 [.agg (bJ c)] (.tup [.i r.1,.d (.sl 3 (r.2.1.map aM)),.b r.2.2]):=by
 unfold aEi at h;refine fnx xT {} [.tmp 2,.tmp 3,.tmp 4] func68 results68 ntmps68 ?_;refine ol ?_;refine xlp [1,11] [1] (λ(a:Int)=>([(12,.i a)],[])) (λk (a:Int)=>rH (w64 ((c.Days.length:Int)+1)) c k a) (0) h (lev []) ?_;rintro k3 a h;simp only[rH] at h;refine br h (λh=>?_) λh=>?_
 ·refine cd call128 (λ_=>bFh _ _ _ _) h λr4 h=>?_;refine br h (λh=>?_) λh=>?_
  ·cases h;exact⟨rfl,_,_,_,rfl,rfl,rfl,rfl,rfl,rfl⟩
  ·exact⟨(w64 (a+1)),h,lev []⟩
 ·simp only[aHi] at h;cases h;exact⟨rfl,_,_,_,rfl,rfl,rfl,rfl,rfl,rfl⟩

theorem aSc(a:aI){r:(List aG)×Int}(h:uL a=some r):Fn Tryz.prog 19 [.agg (bJ a)] (.tup [.d (.sl 3 (r.1.map aM)),.i r.2]):=by
 unfold uL at h;refine fnx xT {} [.tmp 2,.tmp 3] func19 results19 ntmps19 ?_;refine cl call67 (λ_=>aHh _) h λr2 h=>?_;refine br h (λh=>?_) λh=>?_
 ·cases h;exact⟨rfl,_,_,rfl,rfl,rfl,rfl,rfl⟩
 ·refine cd call68 (λ_=>bHj _) h λr4 h=>?_;refine br h (λh=>?_) λh=>?_
  ·cases h;exact⟨rfl,_,_,rfl,rfl,rfl,rfl,rfl⟩
  ·cases h;exact⟨rfl,_,_,rfl,rfl,rfl,rfl,rfl⟩

theorem aGm(c:List aG)(e:Int){r:Bool}(h:qT c e=some r):Fn Tryz.prog 129 [.d (Z27 c),.i e] (.b r):=by
 unfold qT at h;refine fnx xT {} [.tmp 4] func129 results129 ntmps129 ?_;refine xlp [0,1] [] (λ(a:Int)=>([(5,.i a)],[])) (λk (a:Int)=>lG c e k a) (0) h (lev []) ?_;rintro k2 a h;simp only[lG] at h;refine ol ?_;refine br h (λh=>?_) λh=>?_
 ·refine oi h λx3 h=>?_;refine br h (λh=>?_) λh=>?_
  ·cases h;exact⟨rfl,rfl,rfl⟩
  ·exact⟨(w64 (a+1)),h,lev []⟩
 ·simp only[zA] at h;cases h;exact⟨rfl,rfl,rfl⟩

theorem aLq(f:aI)(e:List aG)(g:aG){r:Bool}(h:pD f e g=some r):Fn Tryz.prog 69 [.agg (bJ f),.d (Z27 e),.agg (aM g)] (.b r):=by
 unfold pD at h;refine fnx xT {} [.tmp 6] func69 results69 ntmps69 ?_;refine⟨by kernel_rfl,?_⟩;refine ol ?_;refine cl call63 (λ_=>eQ _ _ _) h λr3 h=>?_;refine jo h (λx h=>?_) λb5 h=>?_
 ·refine br h (λh=>?_) λh=>?_
  ·exact⟨by kernel_rfl,jt h⟩
  ·refine cl call129 (λ_=>aGm _ _) h λr7 h=>?_;exact⟨by kernel_rfl,jt h⟩
 ·refine jo h (λx h=>?_) λb9 h=>?_
  ·refine br h (λh=>?_) λh=>?_
   ·exact⟨by kernel_rfl,jt h⟩
   ·refine ol ?_;refine oi h λj h=>?_;refine bLf ?_;refine cl call63 (λ_=>eQ _ _ _) h λl h=>?_;exact⟨by kernel_rfl,jt h⟩
  ·refine jo h (λx h=>?_) λm h=>?_
   ·refine br h (λh=>?_) λh=>?_
    ·exact⟨by kernel_rfl,jt h⟩
    ·refine oi h λn h=>?_;refine ol ?_;refine cl call63 (λ_=>eQ _ _ _) h λo h=>?_;exact⟨by kernel_rfl,jt h⟩
   ·refine⟨by kernel_rfl,?_⟩;refine br h (λh=>?_) λh=>?_
    ·cases h;exact⟨rfl,rfl,rfl⟩
    ·refine xlp [1,3,5] [3,5] (λ(a:Int)=>([(7,.i a)],[])) (λk (a:Int)=>gG e f g k a) (0) h (lev []) ?_;rintro p a h;simp only[gG] at h;refine ol ?_;refine br h (λh=>?_) λh=>?_
     ·refine⟨by kernel_rfl,?_⟩;refine oi h λq h=>?_;refine⟨by kernel_rfl,?_⟩;refine br h (λh=>?_) λh=>?_
      ·cases h;exact⟨rfl,rfl,rfl⟩
      ·exact⟨(w64 (a+1)),h,lev []⟩
     ·simp only[mD] at h;refine xlp [1,3,5] [3,5] (λ(c:Int)=>([(8,.i c)],[])) (λk (c:Int)=>iL e f g k c) (0) h (lev []) ?_;rintro s c h;simp only[iL] at h;refine oi h λt h=>?_;refine ol ?_;refine br h (λh=>?_) λh=>?_
      ·refine oi h λu h=>?_;refine oi h λv h=>?_;refine cl call129 (λ_=>aGm _ _) h λw h=>?_;refine br h (λh=>?_) λh=>?_
       ·cases h;exact⟨rfl,rfl,rfl⟩
       ·exact⟨(w64 (c+1)),h,lev []⟩
      ·simp only[tV] at h;cases h;exact⟨rfl,rfl,rfl⟩

theorem aBa(e:aI)(c:List aG){r:Bool}(h:iW e c=some r):Fn Tryz.prog 20 [.agg (bJ e),.d (Z27 c)] (.b r):=by
 unfold iW at h;refine fnx xT {} [.tmp 4] func20 results20 ntmps20 ?_;refine xlp [1,2] [2] (λ(a:Int)=>([(5,.i a)],[])) (λk (a:Int)=>iK c e k a) (0) h (lev []) ?_;rintro k3 a h;simp only[iK] at h;refine ol ?_;refine br h (λh=>?_) λh=>?_
 ·refine⟨by kernel_rfl,?_⟩;refine osb h λx4 h=>?_;refine oi h λx6 h=>?_;refine cl call69 (λ_=>aLq _ _ _) h λr8 h=>?_;refine⟨by kernel_rfl,?_⟩;refine br h (λh=>?_) λh=>?_
  ·cases h;exact⟨rfl,rfl,rfl⟩
  ·exact⟨(w64 (a+1)),h,lev []⟩
 ·simp only[tU] at h;refine ol ?_;refine ol ?_;cases h;exact⟨rfl,rfl,rfl⟩

theorem aWm(a:aX){r:Int}(h:vP a=some r):Fn Tryz.prog 72 [.agg (bX a)] (.i r):=by
 unfold vP at h;refine fnx xT {} [.tmp 2] func72 results72 ntmps72 ?_;cases h;exact⟨rfl,rfl,rfl⟩

theorem aPw(f:aI)(e:List aG){r:(List aX)×(List aX)×Int}(h:mY f e=some r):Fn Tryz.prog 21 [.agg (bJ f),.d (Z27 e)] (.tup [.d (.sl 2 (r.1.map bX)),.d (.sl 2 (r.2.1.map bX)),.i r.2.2]):=by
 unfold mY at h;refine fnx xT {ow:=[4,4,4,5,5,5]} [.tmp 4,.tmp 5,.tmp 6] func21 results21 ntmps21 ?_;refine cl call67 (λ_=>aHh _) h λr4 h=>?_;refine br h (λh=>?_) λh=>?_
 ·cases h;exact⟨rfl,_,_,_,rfl,rfl,rfl,rfl,rfl,rfl⟩
 ·refine cl call70 (λ_=>aKl _ _) h λr8 h=>?_;refine br h (λh=>?_) λh=>?_
  ·cases h;exact⟨rfl,_,_,_,rfl,rfl,rfl,rfl,rfl,rfl⟩
  ·refine cd call71 (λ_=>aHm _ _ _ 72 [] call72 (λ_ _ h=>aWm _ h)) h λg h=>?_;refine cd call71 (λ_=>aHm _ _ _ 73 [] call73 (λ_ _ h=>aKo _ h)) h λj h=>?_;refine ol ?_;refine xlp [8,9,10,11,36] [] (λ((b,a,c):Int×(List aX)×(List aX))=>([(4,.d (.hv 0 4 0)),(5,.d (.hv 0 5 0)),(37,.i b)],[(4,.arr 63 2 (a.map bX)),(5,.arr 63 2 (c.map bX))])) (λk ((b,a,c):Int×(List aX)×(List aX))=>qE g.1 g.2 j.1 j.2 (f.Jobs.length:Int) k b a c) (0,([]:List aX),([]:List aX)) h (lev []) ?_;rintro n ⟨b,a,c⟩ h;simp only[qE] at h;refine br h (λh=>?_) λh=>?_
   ·refine⟨by kernel_rfl,?_⟩;refine oi h λo h=>?_;refine oi h λp h=>?_;refine oap h λl h=>?_;refine oi h λq h=>?_;refine oi h λs h=>?_;refine oap h λm h=>?_;refine⟨by kernel_rfl,?_⟩;exact⟨(w64 (b+1),l,m),h,lev [(4,51),(5,63)]⟩
   ·simp only[aEw] at h;cases h;exact⟨rfl,_,_,_,rfl,rfl,rfl,rfl,rfl,rfl⟩

theorem aUt(a0:aF)(a1:List aB){r:Int}(h:wR a0 a1=some r):Fn Tryz.prog 14 (Z17 a0 a1) ((λx:Int=>.i x) r):=aGt (enc:=λx:Int=>.i x) (aUs a0 a1 (aRi a0 a1 h (λx=>x=r) rfl))

theorem aXs(a0:aF)(a1:List aB)(a2:Int)(a3:Int){r:Int×Int}(h:yP a0 a1 a2 a3=some r):Fn Tryz.prog 15 (Z25 a0 a1 a2 a3) ((λx:Int×Int=>.tup [.i x.1,.i x.2]) r):=aGt (enc:=λx:Int×Int=>.tup [.i x.1,.i x.2]) (aXr a0 a1 a2 a3 (aSq a0 a1 a2 a3 h (λx=>x=r) rfl))

theorem aHy (v : aQ) (o : eP) {r : Bool}(h:pV v o=some r):Fn Tryz.prog 3 [.agg (bM v),.agg (aBd o)] (.b r):=by
 unfold pV at h;refine fnx xT {} [.tmp 4] func3 results3 ntmps3 ?_;refine cl call8 (λ_=>aSy _) h λr3 h=>?_;refine jg h (λx h=>?_) λb5 h=>?_
 ·refine br h (λh=>?_) λh=>?_
  ·exact jt h
  ·refine cl call9 (λ_=>aDy _) h λr7 h=>?_;exact jt h
 ·refine jg h (fun x h => ?_) fun b9 h=>?_
  ·refine br h (λh=>?_) λh=>?_
   ·exact jt h
   ·refine cl call10 (λ_=>aJz _) h λe3 h=>?_;exact jt h
  ·refine br h (fun h => ?_) fun h =>?_
   ·refine cl call11 (λ_=>dS) h λe4 h=>?_;cases h;exact⟨rfl,rfl,rfl⟩
   ·refine cd call12 (fun _ => aOt _) h λe5 h=>?_;refine br h (λh=>?_) λh=>?_
    ·refine cl call11 (λ_=>dS) h λe6 h=>?_;cases h;exact⟨rfl,rfl,rfl⟩
    ·refine jg h (fun x h => ?_) λe7 h=>?_
     ·refine br h (λh=>?_) λh=>?_
      ·exact jt h
      ·refine ol ?_;exact jt h
     ·refine br h (fun h => ?_) λh=>?_
      ·cases h;exact⟨rfl,rfl,rfl⟩
      ·refine cl call13 (fun _ => aJf _) h λe8 h=>?_;refine cl call14 (λ_=>aUt _ _) h λe9 h=>?_;refine br h (λh=>?_) λh=>?_
       ·cases h;exact⟨rfl,rfl,rfl⟩
       ·refine br h (fun h => ?_) λh=>?_
        ·refine ⟨by kernel_rfl, ?_⟩;refine oi h λf0 h=>?_;refine oi h λf1 h=>?_;refine cl call15 (λ_=>aXs _ _ _ _) h λf2 h=>?_;refine⟨by kernel_rfl,?_⟩;refine jg h (λx h=>?_) λf3 h=>?_
         ·refine br h (λh=>?_) λh=>?_
          ·exact jt h
          ·exact jt h
         ·refine br h (fun h => ?_) λh=>?_
          ·cases h;exact⟨rfl,rfl,rfl⟩
          ·refine cd call16 (fun _ =>aSd _ _ _) h λs h=>?_;refine cd call17 (λ_=>aFb _ _ _) h λf4 h=>?_;refine br h (λh=>?_) λh=>?_
           ·refine jg h (λx h=>?_) λf5 h=>?_
            ·refine br h (λh=>?_) λh=>?_
             ·refine cl call11 (λ_=>dS) h λf6 h=>?_;exact jt h
             ·exact jt h
            ·cases h;exact⟨rfl,rfl,rfl⟩
           ·refine ol ?_;refine br h (λh=>?_) λh=>?_
            ·refine jg h (λx h=>?_) λf7 h=>?_
             ·refine br h (λh=>?_) λh=>?_
              ·refine cl call11 (λ_=>dS) h λf8 h=>?_;exact jt h
              ·exact jt h
             ·cases h;exact⟨rfl,rfl,rfl⟩
            ·refine ⟨by kernel_rfl,?_⟩;refine jo h (λx h=>?_) λf9 h=>?_
             ·refine br h (λh=>?_) λh=>?_
              ·exact⟨by kernel_rfl,jt h⟩
              ·refine ol ?_;refine ol ?_;exact⟨by kernel_rfl,jt h⟩
             ·refine jo h (fun x h =>?_) λg0 h=>?_
              ·refine br h (λh=>?_) λh=>?_
               ·exact⟨by kernel_rfl,jt h⟩
               ·refine ol ?_;refine ol ?_;exact⟨by kernel_rfl,jt h⟩
              ·refine jo h (fun x h=>?_) λg1 h=>?_
               ·refine br h (λh=>?_) λh=>?_
                ·exact⟨by kernel_rfl,jt h⟩
                ·refine ol ?_;refine oi h λg2 h=>?_;exact⟨by kernel_rfl,jt h⟩
               ·refine ⟨by kernel_rfl,?_⟩;refine br h (λh=>?_) λh=>?_
                ·cases h;exact⟨rfl,rfl,rfl⟩
                ·refine ol ?_;refine br h (λh=>?_) λh=>?_
                 ·refine cl call11 (λ_=>dS) h λg3 h=>?_;cases h;exact⟨rfl,rfl,rfl⟩
                 ·refine cl call18 (λ_=>xO _) h λg4 h=>?_;refine br h (λh=>?_) λh=>?_
                  ·cases h;exact⟨rfl,rfl,rfl⟩
                  ·refine cd call19 (λ_=>aSc _) h λM h=>?_;refine br h (λh=>?_) λh=>?_
                   ·refine cl call11 (λ_=>dS) h λg5 h=>?_;cases h;exact⟨rfl,rfl,rfl⟩
                   ·refine jg h (λx h=>?_) λg6 h=>?_
                    ·refine br h (λh=>?_) λh=>?_
                     ·exact jt h
                     ·refine cl call20 (λ_=>aBa _ _) h λg7 h=>?_;exact jt h
                    ·refine jg h (λx h=>?_) λg8 h=>?_
                     ·refine br h (λh=>?_) λh=>?_
                      ·exact jt h
                      ·refine ol ?_;refine oi h λg9 h=>?_;refine ol ?_;exact jt h
                     ·refine br h (λh=>?_) λh=>?_
                      ·cases h;exact⟨rfl,rfl,rfl⟩
                      ·refine cd call21 (λ_=>aPw _ _) h λp h=>?_;refine jg h (λx h=>?_) λh0 h=>?_
                       ·refine br h (λh=>?_) λh=>?_
                        ·exact jt h
                        ·refine ol ?_;refine ol ?_;exact jt h
                       ·refine jg h (λx h=>?_) λh1 h=>?_
                        ·refine br h (λh=>?_) λh=>?_
                         ·exact jt h
                         ·refine ol ?_;refine ol ?_;exact jt h
                        ·refine br h (λh=>?_) λh=>?_
                         ·cases h;exact⟨rfl,rfl,rfl⟩
                         ·refine ol ?_;refine omk aD h λN h=>?_;refine xlp [3,10,17,19,20] [3] (λ((l,c):Int×Z14)=>([(22,.d (.hv 0 224 0)),(23,.i l)],[(224,.arr 3 1 (c.map aD))])) (λk ((l,c):Int×Z14)=>cX s.1 M.1 p.1 p.2.1 o k l c) (0,N) h (lev []) ?_;rintro h2 ⟨l,c⟩ h;simp only[cX] at h;refine ol ?_;refine br h (λh=>?_) λh=>?_
                          ·refine⟨by kernel_rfl,?_⟩;refine oi h λw h=>?_;refine oi h λy h=>?_;refine oiy h λh3 O h=>?_;refine⟨rfl,_,((c.set w.Job.toNat y.Day)).map aD,fY aD O,Nat.le_of_ble_eq_true rfl,aDd _ _ _ _ rfl,?_⟩;refine⟨by kernel_rfl,?_⟩;exact⟨(w64 (l+1),(c.set w.Job.toNat y.Day)),h,lev []⟩
                          ·simp only[rB] at h;refine xlp [3,10,19,20,22] [3,224] (λ(f:Int)=>([(24,.i f)],[])) (λk (f:Int)=>dO s.1 p.1 p.2.1 o c k f) (0) h (lev []) ?_;rintro P f h;simp only[dO] at h;refine ol ?_;refine br h (λh=>?_) λh=>?_
                           ·refine xlp [3,10,19,20,22,24] [3,224] (λ(m:Int)=>([(25,.i m)],[])) (λk (m:Int)=>dP (dO s.1 p.1 p.2.1 o c P) s.1 p.1 p.2.1 f o c k m) (0) h (lev []) ?_;rintro h4 m h;simp only[dP] at h;refine oi h λh5 h=>?_;refine ol ?_;refine br h (λh=>?_) λh=>?_
                            ·refine oi h λh6 h=>?_;refine oi h λh7 h=>?_;refine⟨by kernel_rfl,?_⟩;refine oiy h λh8 Q h=>?_;refine⟨rfl,_,fY aD Q,?_⟩;refine oiy h λS z h=>?_;refine⟨rfl,_,fY aD z,?_⟩;refine jo h (λx h=>?_) λT h=>?_
                             ·refine br h (λh=>?_) λh=>?_
                              ·exact⟨by kernel_rfl,jt h⟩
                              ·refine oiy h λU A h=>?_;refine⟨rfl,_,fY aD A,?_⟩;refine oiy h λV B h=>?_;refine⟨rfl,_,fY aD B,?_⟩;refine jo h (λx h=>?_) λW h=>?_
                               ·refine br h (λh=>?_) λh=>?_
                                ·refine oi h λX h=>?_;refine oi h λY h=>?_;refine jo h (λx h=>?_) λZ h=>?_
                                 ·refine br h (λh=>?_) λh=>?_
                                  ·exact⟨by kernel_rfl,jt h⟩
                                  ·refine oi h λa2 h=>?_;refine oi h λa3 h=>?_;exact⟨by kernel_rfl,jt h⟩
                                 ·exact⟨by kernel_rfl,jt h⟩
                                ·exact⟨by kernel_rfl,jt h⟩
                               ·exact⟨by kernel_rfl,jt h⟩
                             ·refine⟨by kernel_rfl,?_⟩;refine br h (λh=>?_) λh=>?_
                              ·cases h;exact⟨rfl,rfl,rfl⟩
                              ·exact⟨(w64 (m+1)),h,lev []⟩
                            ·simp only[mQ] at h;simp only[mP] at h;exact⟨(w64 (f+1)),h,lev []⟩
                           ·simp only[fX] at h;refine cl call11 (λ_=>dS) h λa4 h=>?_;cases h;exact⟨rfl,rfl,rfl⟩
        ·refine cd call16 (fun _ =>aSd _ _ _) h λq h=>?_;refine cd call17 (λ_=>aFb _ _ _) h λa5 h=>?_;refine br h (λh=>?_) λh=>?_
         ·refine jg h (λx h=>?_) λa6 h=>?_
          ·refine br h (λh=>?_) λh=>?_
           ·refine cl call11 (λ_=>dS) h λa7 h=>?_;exact jt h
           ·exact jt h
          ·cases h;exact⟨rfl,rfl,rfl⟩
         ·refine ol ?_;refine br h (λh=>?_) λh=>?_
          ·refine jg h (λx h=>?_) λa8 h=>?_
           ·refine br h (λh=>?_) λh=>?_
            ·refine cl call11 (λ_=>dS) h λa9 h=>?_;exact jt h
            ·exact jt h
           ·cases h;exact⟨rfl,rfl,rfl⟩
          ·refine ⟨by kernel_rfl,?_⟩;refine jo h (λx h=>?_) λb0 h=>?_
           ·refine br h (λh=>?_) λh=>?_
            ·exact⟨by kernel_rfl,jt h⟩
            ·refine ol ?_;refine ol ?_;exact⟨by kernel_rfl,jt h⟩
           ·refine jo h (fun x h =>?_) λb1 h=>?_
            ·refine br h (λh=>?_) λh=>?_
             ·exact⟨by kernel_rfl,jt h⟩
             ·refine ol ?_;refine ol ?_;exact⟨by kernel_rfl,jt h⟩
            ·refine jo h (fun x h=>?_) λb2 h=>?_
             ·refine br h (λh=>?_) λh=>?_
              ·exact⟨by kernel_rfl,jt h⟩
              ·refine ol ?_;refine oi h λb3 h=>?_;exact⟨by kernel_rfl,jt h⟩
             ·refine ⟨by kernel_rfl,?_⟩;refine br h (λh=>?_) λh=>?_
              ·cases h;exact⟨rfl,rfl,rfl⟩
              ·refine ol ?_;refine br h (λh=>?_) λh=>?_
               ·refine cl call11 (λ_=>dS) h λb4 h=>?_;cases h;exact⟨rfl,rfl,rfl⟩
               ·refine cl call18 (λ_=>xO _) h λb6 h=>?_;refine br h (λh=>?_) λh=>?_
                ·cases h;exact⟨rfl,rfl,rfl⟩
                ·refine cd call19 (λ_=>aSc _) h λC h=>?_;refine br h (λh=>?_) λh=>?_
                 ·refine cl call11 (λ_=>dS) h λb7 h=>?_;cases h;exact⟨rfl,rfl,rfl⟩
                 ·refine jg h (λx h=>?_) λb8 h=>?_
                  ·refine br h (λh=>?_) λh=>?_
                   ·exact jt h
                   ·refine cl call20 (λ_=>aBa _ _) h λc0 h=>?_;exact jt h
                  ·refine jg h (λx h=>?_) λc1 h=>?_
                   ·refine br h (λh=>?_) λh=>?_
                    ·exact jt h
                    ·refine ol ?_;refine oi h λc2 h=>?_;refine ol ?_;exact jt h
                   ·refine br h (λh=>?_) λh=>?_
                    ·cases h;exact⟨rfl,rfl,rfl⟩
                    ·refine cd call21 (λ_=>aPw _ _) h λn h=>?_;refine jg h (λx h=>?_) λc3 h=>?_
                     ·refine br h (λh=>?_) λh=>?_
                      ·exact jt h
                      ·refine ol ?_;refine ol ?_;exact jt h
                     ·refine jg h (λx h=>?_) λc4 h=>?_
                      ·refine br h (λh=>?_) λh=>?_
                       ·exact jt h
                       ·refine ol ?_;refine ol ?_;exact jt h
                      ·refine br h (λh=>?_) λh=>?_
                       ·cases h;exact⟨rfl,rfl,rfl⟩
                       ·refine ol ?_;refine omk aD h λE h=>?_;refine xlp [3,10,17,19,20] [3] (λ((g,a):Int×Z14)=>([(22,.d (.hv 0 224 0)),(23,.i g)],[(224,.arr 3 1 (a.map aD))])) (λk ((g,a):Int×Z14)=>cX q.1 C.1 n.1 n.2.1 o k g a) (0,E) h (lev []) ?_;rintro c5 ⟨g,a⟩ h;simp only[cX] at h;refine ol ?_;refine br h (λh=>?_) λh=>?_
                        ·refine⟨by kernel_rfl,?_⟩;refine oi h λt h=>?_;refine oi h λu h=>?_;refine oiy h λc6 F h=>?_;refine⟨rfl,_,((a.set t.Job.toNat u.Day)).map aD,fY aD F,Nat.le_of_ble_eq_true rfl,aDd _ _ _ _ rfl,?_⟩;refine⟨by kernel_rfl,?_⟩;exact⟨(w64 (g+1),(a.set t.Job.toNat u.Day)),h,lev []⟩
                        ·simp only[rB] at h;refine xlp [3,10,19,20,22] [3,224] (λ(e:Int)=>([(24,.i e)],[])) (λk (e:Int)=>dO q.1 n.1 n.2.1 o a k e) (0) h (lev []) ?_;rintro G e h;simp only[dO] at h;refine ol ?_;refine br h (λh=>?_) λh=>?_
                         ·refine xlp [3,10,19,20,22,24] [3,224] (λ(j:Int)=>([(25,.i j)],[])) (λk (j:Int)=>dP (dO q.1 n.1 n.2.1 o a G) q.1 n.1 n.2.1 e o a k j) (0) h (lev []) ?_;rintro c7 j h;simp only[dP] at h;refine oi h λc8 h=>?_;refine ol ?_;refine br h (λh=>?_) λh=>?_
                          ·refine oi h λc9 h=>?_;refine oi h λd0 h=>?_;refine⟨by kernel_rfl,?_⟩;refine oiy h λd1 H h=>?_;refine⟨rfl,_,fY aD H,?_⟩;refine oiy h λd2 I h=>?_;refine⟨rfl,_,fY aD I,?_⟩;refine jo h (λx h=>?_) λd3 h=>?_
                           ·refine br h (λh=>?_) λh=>?_
                            ·exact⟨by kernel_rfl,jt h⟩
                            ·refine oiy h λd4 K h=>?_;refine⟨rfl,_,fY aD K,?_⟩;refine oiy h λd5 L h=>?_;refine⟨rfl,_,fY aD L,?_⟩;refine jo h (λx h=>?_) λd6 h=>?_
                             ·refine br h (λh=>?_) λh=>?_
                              ·refine oi h λd7 h=>?_;refine oi h λd8 h=>?_;refine jo h (λx h=>?_) λd9 h=>?_
                               ·refine br h (λh=>?_) λh=>?_
                                ·exact⟨by kernel_rfl,jt h⟩
                                ·refine oi h λe0 h=>?_;refine oi h λe1 h=>?_;exact⟨by kernel_rfl,jt h⟩
                               ·exact⟨by kernel_rfl,jt h⟩
                              ·exact⟨by kernel_rfl,jt h⟩
                             ·exact⟨by kernel_rfl,jt h⟩
                           ·refine⟨by kernel_rfl,?_⟩;refine br h (λh=>?_) λh=>?_
                            ·cases h;exact⟨rfl,rfl,rfl⟩
                            ·exact⟨(w64 (j+1)),h,lev []⟩
                          ·simp only[mQ] at h;simp only[mP] at h;exact⟨(w64 (e+1)),h,lev []⟩
                         ·simp only[fX] at h;refine cl call11 (λ_=>dS) h λe2 h=>?_;cases h;exact⟨rfl,rfl,rfl⟩

end Go.Am
