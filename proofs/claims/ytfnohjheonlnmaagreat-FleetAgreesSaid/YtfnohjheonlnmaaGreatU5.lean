/- What the laws of this claim rest on: the abstract executor, its soundness, and what the functions compute on pure data. No condition. -/
import Derived.Test.YtfnohjheonlnmaaGreatU4
import Derived.Shelf.SlSortCmp.NoneTotal
import Derived.Ground.SlsfProg
import Derived.Test.YtfnohjheonlnmaaGreatProg
noncomputable section
set_option linter.unusedVariables false
set_option linter.unusedSimpArgs false
namespace Go.Proofs.YtfnohjheonlnmaaGreat
open Go.eC
set_option linter.unusedSimpArgs false
set_option linter.unusedVariables false
set_option maxRecDepth 20000
set_option maxHeartbeats 4000000
def pP(l:List bK)(k:Nat):Option Int:=if k=0 then none else(l[k-1]?).map bK.t
theorem vH(l:List bK)(hl:l.length<=4611686018427387904):bh Tryz.prog 209 [.aC (l.map bK.enc)] (· = .bool (dB l)):=by refine aF tS mixed Tryz.func209 ?_;unfold Tryz.f209;simp-implicitDefEqProofs (disch:=first|omega|decide) only[go_sem,↓reduceIte,seval,aa];refine aQ [0,5,6] (ι:={k:Nat//k<=l.length/\dB l=Rm (pP l k) (l.drop k)/\ ∀h:k-1<l.length,0<k->fK l[k-1]=true}) (fun p=>[(7,.int .i64 p.1),(2,.bool false)]) (fun _=>[]) (fun p=>l.length-p.1) ⟨0,by omega,rfl,fun _ h=>absurd h (by omega)⟩ (ak _) ?_ ?_;{simp-implicitDefEqProofs (disch:=first|omega|decide) only[go_sem,↓reduceIte,seval]};{rintro⟨k,hk,hd,hp⟩;simp only;by_cases a_:k<l.length;{(have ay:(k:Int)<(l.length:Int):=by omega);have e1:=run_get a_;(have FT:pP l (k+1)=some l[k].t:=by unfold pP;rw[if_neg (by omega),show k+1-1=k by omega,ad a_];rfl);rw[ar a_]at hd;simp only[Rm]at hd;have next:dB l=Rm (some l[k].t) (l.drop (k+1))->fK l[k]=true-> ∃j:{k:Nat//k<=l.length/\dB l=Rm (pP l k) (l.drop k)/\ ∀h:k-1<l.length,0<k->fK l[k-1]=true},(k:Int)+1=(j.1:Int)/\l.length-j.1<l.length-k:=fun h h'=>⟨⟨k+1,a_,by rw[FT];exact h,fun _ _=>h'⟩,by simp,by show l.length-(k+1)<l.length-k;omega⟩;generalize hx:l[k]=x at*;obtain⟨f,t⟩:=x;cases h1:fK ⟨f,t⟩with|false=>((have hh:dB l=false:=by rw[hd,h1];rfl);simp-implicitDefEqProofs (disch:=first|omega|decide) only[go_sem,↓reduceIte,seval,ay,e1,h1,hh,wrap_i64,aa])|true=>(obtain⟨o1,o2,o3⟩:=nG h1;simp only at o1 o2 o3;by_cases h0:0<k;{(have u4:(0:Int)<(k:Int):=by omega);(have mP:k-1<l.length:=by omega);have e0:=run_get mP;have hpo:=hp mP h0;(have hpt:pP l k=some l[k-1].t:=by unfold pP;rw[if_neg (by omega),ad mP];rfl);(have t0:((k:Int)-1).toNat=k-1:=by omega);(have b0:(0:Int)<=(k:Int)-1:=by omega);(have b1:(k:Int)-1<(l.length:Int):=by omega);rw[hpt]at hd;generalize hy:l[k-1]=y at*;obtain⟨f',t'⟩:=y;obtain⟨p1,p2,p3⟩:=nG hpo;simp only at p1 p2 p3 hd;by_cases h2:f-t'<2;{(have hh:dB l=false:=by rw[hd];(have: ¬t'+2<=f:=by omega);simp[this]);simp-implicitDefEqProofs (disch:=first|omega|decide) only[go_sem,↓reduceIte,seval,ay,e1,e0,h1,u4,t0,b0,b1,h2,hh,wrap_i64,aa]};{simp-implicitDefEqProofs (disch:=first|omega|decide) only[go_sem,↓reduceIte,seval,ay,e1,e0,h1,u4,t0,b0,b1,h2,wrap_i64,aa];(have h3:t'+2<=f:=by omega);exact next (by rw[hd,h1];simp[h3]) h1}};{(have u4: ¬(0:Int)<(k:Int):=by omega);simp-implicitDefEqProofs (disch:=first|omega|decide) only[go_sem,↓reduceIte,seval,ay,e1,h1,u4,wrap_i64,aa];(have zw:k=0:=by omega);exact next (by rw[hd,h1];simp[pP,zw]) h1})};{(have ay: ¬(k:Int)<(l.length:Int):=by omega);(have hh:dB l=true:=by rw[hd,ax (by omega)];cases pP l k<;>rfl);simp-implicitDefEqProofs (disch:=first|omega|decide) only[go_sem,↓reduceIte,seval,ay,hh,aa]}}
theorem Ie(l:List bK)(hl:l.length<=4611686018427387904):bh Tryz.prog 194 [.aC (l.map bK.enc)] (· = .bool (dB l)):=by refine aF tS mixed Tryz.func194 ?_;unfold Tryz.f194;simp-implicitDefEqProofs (disch:=first|omega|decide) only[go_sem,↓reduceIte,seval,aa];refine aQ [0] (ι:={k:Nat//k<=l.length/\dB l=Rm (pP l k) (l.drop k)/\ ∀h:k-1<l.length,0<k->fK l[k-1]=true}) (fun p=>[(3,.int .i64 p.1),(2,.bool false)]) (fun _=>[]) (fun p=>l.length-p.1) ⟨0,by omega,rfl,fun _ h=>absurd h (by omega)⟩ (ak _) ?_ ?_;{simp-implicitDefEqProofs (disch:=first|omega|decide) only[go_sem,↓reduceIte,seval]};{rintro⟨k,hk,hd,hp⟩;simp only;by_cases a_:k<l.length;{(have ay:(k:Int)<(l.length:Int):=by omega);have e1:=run_get a_;(have FT:pP l (k+1)=some l[k].t:=by unfold pP;rw[if_neg (by omega),show k+1-1=k by omega,ad a_];rfl);rw[ar a_]at hd;simp only[Rm]at hd;have next:dB l=Rm (some l[k].t) (l.drop (k+1))->fK l[k]=true-> ∃j:{k:Nat//k<=l.length/\dB l=Rm (pP l k) (l.drop k)/\ ∀h:k-1<l.length,0<k->fK l[k-1]=true},(k:Int)+1=(j.1:Int)/\l.length-j.1<l.length-k:=fun h h'=>⟨⟨k+1,a_,by rw[FT];exact h,fun _ _=>h'⟩,by simp,by show l.length-(k+1)<l.length-k;omega⟩;generalize hx:l[k]=x at*;obtain⟨f,t⟩:=x;cases h1:fK ⟨f,t⟩with|false=>((have hh:dB l=false:=by rw[hd,h1];rfl);simp-implicitDefEqProofs (disch:=first|omega|decide) only[go_sem,↓reduceIte,seval,ay,e1,h1,hh,wrap_i64,aa])|true=>(obtain⟨o1,o2,o3⟩:=nG h1;simp only at o1 o2 o3;by_cases h0:0<k;{(have u4:(0:Int)<(k:Int):=by omega);(have mP:k-1<l.length:=by omega);have e0:=run_get mP;have hpo:=hp mP h0;(have hpt:pP l k=some l[k-1].t:=by unfold pP;rw[if_neg (by omega),ad mP];rfl);(have t0:((k:Int)-1).toNat=k-1:=by omega);(have b0:(0:Int)<=(k:Int)-1:=by omega);(have b1:(k:Int)-1<(l.length:Int):=by omega);rw[hpt]at hd;generalize hy:l[k-1]=y at*;obtain⟨f',t'⟩:=y;obtain⟨p1,p2,p3⟩:=nG hpo;simp only at p1 p2 p3 hd;by_cases h2:f<t'+2;{(have hh:dB l=false:=by rw[hd];(have: ¬t'+2<=f:=by omega);simp[this]);simp-implicitDefEqProofs (disch:=first|omega|decide) only[go_sem,↓reduceIte,seval,ay,e1,e0,h1,u4,t0,b0,b1,h2,hh,wrap_i64,aa]};{simp-implicitDefEqProofs (disch:=first|omega|decide) only[go_sem,↓reduceIte,seval,ay,e1,e0,h1,u4,t0,b0,b1,h2,wrap_i64,aa];(have h3:t'+2<=f:=by omega);exact next (by rw[hd,h1];simp[h3]) h1}};{(have u4: ¬(0:Int)<(k:Int):=by omega);simp-implicitDefEqProofs (disch:=first|omega|decide) only[go_sem,↓reduceIte,seval,ay,e1,h1,u4,wrap_i64,aa];(have zw:k=0:=by omega);exact next (by rw[hd,h1];simp[pP,zw]) h1})};{(have ay: ¬(k:Int)<(l.length:Int):=by omega);(have hh:dB l=true:=by rw[hd,ax (by omega)];cases pP l k<;>rfl);simp-implicitDefEqProofs (disch:=first|omega|decide) only[go_sem,↓reduceIte,seval,ay,hh,aa]}}
theorem OG(l:List bK)(n:Int)(hl:l.length<=4611686018427387904):bh Tryz.prog 183 [.aC (l.map bK.enc),.int .i64 n] (· = .bool (aX l n)):=by refine aF tS mixed Tryz.func183 ?_;unfold Tryz.f183;simp-implicitDefEqProofs (disch:=first|omega|decide) only[go_sem,↓reduceIte,seval,aa];refine aQ [0,1] (ι:={k:Nat//k<=l.length/\aX l n=aX (l.drop k) n}) (fun p=>[(5,.int .i64 p.1),(4,.bool false)]) (fun _=>[]) (fun p=>l.length-p.1) ⟨0,by omega,rfl⟩ (ak _) ?_ ?_;{simp-implicitDefEqProofs (disch:=first|omega|decide) only[go_sem,↓reduceIte,seval]};{rintro⟨k,hk,hd⟩;simp only;by_cases a_:k<l.length;{(have ay:(k:Int)<(l.length:Int):=by omega);have e1:=run_get a_;rw[ar a_]at hd;generalize hx:l[k]=x at*;obtain⟨f,t⟩:=x;simp only[aX,cw]at hd;have next:aX l n=aX (l.drop (k+1)) n-> ∃j:{k:Nat//k<=l.length/\aX l n=aX (l.drop k) n},(k:Int)+1=(j.1:Int)/\l.length-j.1<l.length-k:=fun h=>⟨⟨k+1,a_,h⟩,by simp,by show l.length-(k+1)<l.length-k;omega⟩;cases h1:fK ⟨f,t⟩with|false=>(simp-implicitDefEqProofs (disch:=first|omega|decide) only[go_sem,↓reduceIte,seval,ay,e1,h1,wrap_i64,aa];exact next (by rw[h1]at hd;simpa[aX]using hd))|true=>(by_cases h2:f<=n;{by_cases h3:n<=t;{(have hh:aX l n=true:=by unfold aX;rw[hd];simp[h1,h2,h3]);simp-implicitDefEqProofs (disch:=first|omega|decide) only[go_sem,↓reduceIte,seval,ay,e1,h1,h2,h3,hh,wrap_i64,aa]};{simp-implicitDefEqProofs (disch:=first|omega|decide) only[go_sem,↓reduceIte,seval,ay,e1,h1,h2,h3,wrap_i64,aa];exact next (by rw[h1]at hd;simpa[aX,h2,h3]using hd)}};{simp-implicitDefEqProofs (disch:=first|omega|decide) only[go_sem,↓reduceIte,seval,ay,e1,h1,h2,wrap_i64,aa];exact next (by rw[h1]at hd;simpa[aX,h2]using hd)})};{(have ay: ¬(k:Int)<(l.length:Int):=by omega);(have hh:aX l n=false:=by rw[hd,ax (by omega)];rfl);simp-implicitDefEqProofs (disch:=first|omega|decide) only[go_sem,↓reduceIte,seval,ay,hh,aa]}}
def Rn(r:bK)(n:Int):Bool:=decide (r.f<=n)&&decide (n<=r.t)
def RR:List bK->Prop| []=>True| [r]=>fK r=true|r::q::l=>fK r=true/\q.t+2<=r.f/\RR (q::l)
theorem fL{r:bK}:fK r=true ↔ 1<=r.f/\r.f<=r.t/\r.t<=1099511627776:=by simp[fK,and_assoc]
theorem OH: ∀(l:List bK) (p:Option Int) (q r:bK),Rm p (l++[q,r])=(Rm p (l++[q])&&(fK r&&decide (q.t+2<=r.f)))| [],p,q,r=>by cases p<;>simp[Rm,eD]|x::l,p,q,r=>by simp only[bF,Rm,OH l (some x.t) q r,eD]
theorem wW: ∀{l:List bK},dB l.reverse=true ↔ RR l| []=>by simp[dB,Rm,RR]| [r]=>by simp[dB,Rm,RR]|r::q::l=>by have ih:= @wW (q::l);simp only[g_,aU,bF,bx,dB]at ih⊢;rw[OH,ae,ih,RR,ae,decide_eq_true_iff];exact⟨fun⟨a,b,c⟩=>⟨b,c,a⟩,fun⟨b,c,a⟩=>⟨a,b,c⟩⟩
theorem qv{l:List bK}:dB l=true ↔ RR l.reverse:=by have:= @wW l.reverse;rwa [eP]at this
theorem z_{r:bK}: ∀{l:List bK},RR (r::l)->RR l| [],_=>trivial|_::_,h=>h.2.2
theorem kF{r:bK}: ∀{l:List bK},RR (r::l)->fK r=true| [],h=>h|_::_,h=>h.1
theorem rr_all: ∀{l:List bK},RR l-> ∀r∈l,fK r=true| [],_,r,hr=>by cases hr|q::l,h,r,hr=>by rcases aA.1 hr with rfl|hr;{exact kF h};{exact rr_all (z_ h) r hr}
theorem vI: ∀{l:List bK} {r:bK},RR (r::l)-> ∀q∈l,q.t+2<=r.f| [],_,_,q,hq=>by cases hq|p::l,r,h,q,hq=>by rcases aA.1 hq with rfl|hq;{exact h.2.1};{have h1:=vI h.2.2 q hq;have h2:=fL.1 (kF h.2.2);have h3:=h.2.1;omega}
theorem vJ(r:bK)(l:List bK)(n:Int):aX (r::l) n=(fK r&&Rn r n||aX l n):=by simp[aX,Rn,eD]
theorem wX(n:Int):aX [] n=false:=rfl
theorem lN(l m:List bK)(n:Int):aX (l++m) n=(aX l n||aX m n):=by simp[aX]
theorem wY(l:List bK)(n:Int):aX l.reverse n=aX l n:=by simp[aX]
theorem jy{l:List bK}{n:Int}:aX l n=true ↔∃r∈l,fK r=true/\r.f<=n/\n<=r.t:=by simp[aX,and_assoc]
theorem XE{l:List bK}{n:Int}(h:aX l n=true):1<=n/\n<=1099511627776:=by obtain⟨r,_,h1,h2,h3⟩:=jy.1 h;have:=fL.1 h1;omega
theorem has_perm{l m:List bK}(h:l.Perm m)(n:Int):aX l n=aX m n:=by rw[bG,jy,jy];exact⟨fun⟨r,hr,h1⟩=>⟨r,h.mem_iff.1 hr,h1⟩,fun⟨r,hr,h1⟩=>⟨r,h.mem_iff.2 hr,h1⟩⟩
theorem SB(l:List bK)(n:Int):aX (l.filter fK) n=aX l n:=by rw[bG,jy,jy];exact⟨fun⟨r,hr,h1⟩=>⟨r,(aT.1 hr).1,h1⟩,fun⟨r,hr,h1⟩=>⟨r,aT.2 ⟨hr,h1.1⟩,h1⟩⟩
theorem SC{r:bK}{l:List bK}(h:RR (r::l)): ∀n,aX (r::l) n=true->n<=r.t:=fun n hn=>by obtain⟨q,hq,h1,h2,h3⟩:=jy.1 hn;rcases aA.1 hq with rfl|hq;{exact h3};{have:=vI h q hq;have:=fL.1 (kF h);omega}
theorem rr_has{r:bK}{l:List bK}(h:RR (r::l))(n:Int):aX l n=(aX (r::l) n&&decide (n+2<=r.f)):=by rw[bG,ae,decide_eq_true_iff,jy,jy];constructor;{rintro⟨q,hq,h1,h2,h3⟩;have:=vI h q hq;exact⟨⟨q,cx _ hq,h1,h2,h3⟩,by omega⟩};{rintro⟨⟨q,hq,h1,h2,h3⟩,h4⟩;rcases aA.1 hq with rfl|hq;{omega};{exact⟨q,hq,h1,h2,h3⟩}}
theorem JB: ∀{l m:List bK},RR l->RR m->(∀n,aX l n=aX m n)->l=m| [],[],_,_,_=>rfl| [],r::m,_,h,hm=>by have h1:=fL.1 (kF h);have h2:aX (r::m) r.t=true:=jy.2 ⟨r,by simp,kF h,h1.2.1,cO _⟩;rw[<-hm]at h2;cases h2|r::l,[],h,_,hm=>by have h1:=fL.1 (kF h);have h2:aX (r::l) r.t=true:=jy.2 ⟨r,by simp,kF h,h1.2.1,cO _⟩;rw[hm]at h2;cases h2|r::l,q::m,h,h',hm=>by have o1:=fL.1 (kF h);have o2:=fL.1 (kF h');have a1:aX (r::l) r.t=true:=jy.2 ⟨r,by simp,kF h,o1.2.1,cO _⟩;have a2:aX (q::m) q.t=true:=jy.2 ⟨q,by simp,kF h',o2.2.1,cO _⟩;rw[hm]at a1;rw[<-hm]at a2;have b1:=SC h' _ a1;have b2:=SC h _ a2;(have et:r.t=q.t:=by omega);(have key: ∀{r q:bK} {l m:List bK},RR (r::l)->RR (q::m)->(∀n,aX (r::l) n=aX (q::m) n)->r.t=q.t->r.f<=q.f:=by intro r q l m h h' hm et;rcases Int.lt_or_le q.f r.f with a_|hle;{exfalso;have o1:=fL.1 (kF h);have o2:=fL.1 (kF h');have c1:aX (q::m) (r.f-1)=true:=jy.2 ⟨q,by simp,kF h',by omega,by omega⟩;rw[<-hm]at c1;obtain⟨p,hp,h1,h2,h3⟩:=jy.1 c1;rcases aA.1 hp with rfl|hp;{omega};{have:=vI h p hp;omega}};{exact hle});(have ef:r.f=q.f:=by have:=key h h' hm et;have:=key h' h (fun n=>(hm n).symm) et.symm;omega);(have e:r=q:=by cases r;cases q;simp_all);subst e;rw[JB (z_ h) (z_ h') fun n=>by rw[rr_has h,rr_has h',hm]]
theorem Le{l m:List bK}(h:dB l=true)(h':dB m=true)(hm: ∀n,aX l n=aX m n):l=m:=by have:=JB (qv.1 h) (qv.1 h') (fun n=>by rw[wY,wY,hm]);simpa using this
open Classical in /-- The right list of what is meant, if there is one. -/def fX(p:Int->Bool):List bK:=if h: ∃l,dB l=true/\ ∀n,aX l n=p n then Classical.choose h else []
def IsR(p:Int->Bool):Prop:= ∃l,dB l=true/\ ∀n,aX l n=p n
theorem mA(p:Int->Bool):dB (fX p)=true:=by unfold fX;split;{rename_i h;exact(dc h).1};{rfl}
theorem sH{p:Int->Bool}(h:IsR p)(n:Int):aX (fX p) n=p n:=by unfold fX;rw[dif_pos (show∃l,dB l=true/\ ∀n,aX l n=p n from h)];exact(dc h).2 n
theorem wZ{p:Int->Bool}{l:List bK}(h:dB l=true)(hp: ∀n,aX l n=p n):l=fX p:=Le h (mA p) fun n=>by rw[hp,sH ⟨l,h,hp⟩]
def gm:List bK->bK->List bK| [],r=>[r]|q::qs,r=>if r.f<q.t+2 then⟨q.f,if r.t>q.t then r.t else q.t⟩::qs else r::q::qs
def lowF(l:List bK)(x:Int):Prop:=match l with| []=>True|q::_=>q.f<=x
theorem C5{l:List bK}{r:bK}(h:RR l)(hr:fK r=true)(hf:lowF l r.f):RR (gm l r)/\lowF (gm l r) r.f/\ ∀n,aX (gm l r) n=(aX l n||Rn r n):=by cases l with|nil=>(exact⟨hr,cO _,fun n=>by simp[gm,aX,hr,Rn]⟩)|cons q qs=>(have o1:=fL.1 hr;have o2:=fL.1 (kF h);have UI:q.f<=r.f:=hf;simp only[gm];by_cases hc:r.f<q.t+2;{rw[if_pos hc];generalize ht:(if r.t>q.t then r.t else q.t)=t;(have ht':(t=r.t/\q.t<r.t)\/(t=q.t/\r.t<=q.t):=by split at ht<;>omega);have ho:fK ⟨q.f,t⟩=true:=fL.2 ⟨o2.1,by show q.f<=t;omega,by show t<=_;omega⟩;refine⟨?_,UI,fun n=> ?_⟩;{cases qs with|nil=>(exact ho)|cons p ps=>(exact⟨ho,h.2.1,h.2.2⟩)};{rw[vJ,vJ,ho,kF h];(have:Rn ⟨q.f,t⟩ n=(Rn q n||Rn r n):=by rw[bG];simp only[Rn,ae,bw,decide_eq_true_iff];omega);rw[this];simp only[aG];cases Rn q n<;>cases Rn r n<;>cases aX qs n<;>rfl}};{rw[if_neg hc];refine⟨⟨hr,by omega,h⟩,cO _,fun n=> ?_⟩;rw[vJ,hr];simp only[aG];cases Rn r n<;>cases aX (q::qs) n<;>rfl})
theorem JC(l:List bK)(r:bK):(gm l r).length<=l.length+1:=by cases l with|nil=>(simp[gm])|cons q qs=>(simp only[gm];split<;>simp)
theorem fold_push: ∀{l:List bK} {a:List bK},RR a->(∀r∈l,fK r=true)->l.Pairwise (fun x y=>x.f<=y.f)->(∀r∈l,lowF a r.f)->RR (l.foldl gm a)/\ ∀n,aX (l.foldl gm a) n=(aX a n||aX l n)| [],a,h,_,_,_=>⟨h,fun n=>by simp[aX]⟩|r::l,a,h,ho,hs,hf=>by obtain⟨h1,h2,h3⟩:=C5 h (ho r (by simp)) (hf r (by simp));rw[aV]at hs;obtain⟨h4,h5⟩:=fold_push (l:=l) h1 (fun q hq=>ho q (by simp[hq])) hs.2 (fun q hq=>by have:=hs.1 q hq;revert h2;cases gm a r with|nil=>(intro _;trivial)|cons p ps=>(intro h2;exact Int.le_trans h2 this));refine⟨h4,fun n=> ?_⟩;rw[bD,h5,h3,vJ,ho r (by simp)];simp only[aG,Bool.or_assoc]
theorem Ig{l:List bK}(ho: ∀r∈l,fK r=true)(hs:l.Pairwise (fun x y=>x.f<=y.f)):(l.foldl gm []).reverse=fX (aX l):=by obtain⟨h1,h2⟩:=fold_push (a:=[]) trivial ho hs (fun _ _=>trivial);exact wZ (wW.2 h1) fun n=>by rw[wY,h2];simp[aX]
end Go.Proofs.YtfnohjheonlnmaaGreat
namespace Go.Proofs.YtfnohjheonlnmaaGreat
open Go.eC
set_option linter.unusedSimpArgs false
set_option linter.unusedVariables false
def n_:List Int->Int->List Int| [],n=>[n]|x::xs,n=>if x<n then x::n_ xs n else if x=n then x::xs else n::x::xs
theorem z'(l:List Int)(n:Int):(n_ l n).length<=l.length+1:=by induction l with|nil=>(simp[n_])|cons x xs ih=>(simp only[n_];split;{simp;omega};{split<;>simp})
theorem U8(l:List Int)(n:Int):n_ l n≠ []:=by cases l with|nil=>(simp[n_])|cons x xs=>(simp only[n_];split;{simp};{split<;>simp})
theorem FU(l:List Int)(n x:Int):x∈n_ l n ↔ x=n\/x∈l:=by induction l with|nil=>(simp[n_])|cons y ys ih=>(simp only[n_];split;{rw[aA,ih,aA];exact⟨fun h=>by rcases h with h|h|h<;>simp[h],fun h=>by rcases h with h|h|h<;>simp[h]⟩};{split;{rename_i h1 h2;subst h2;simp};{simp}})
theorem U9{l:List Int}{n:Int}(h:l.Pairwise (· < ·)):(n_ l n).Pairwise (· < ·):=by induction l with|nil=>(simp[n_])|cons y ys ih=>(rw[aV]at h;simp only[n_];split;{rename_i h1;rw[aV];refine⟨fun x hx=> ?_,ih h.2⟩;rcases(FU ys n x).1 hx with rfl|hx;{exact h1};{exact h.1 x hx}};{split;{exact aV.2 h};{rename_i h1 h2;rw[aV];refine⟨fun x hx=> ?_,aV.2 h⟩;rcases aA.1 hx with rfl|hx;{omega};{have:=h.1 x hx;omega}}})
def jm:List Int->List bK->List Int|e,[]=>e|e,r::rs=>jm (if fK r then n_ (n_ e r.f) (r.t+1)else e) rs
theorem tT(e:List Int)(l:List bK):(jm e l).length<=e.length+2*l.length:=by induction l generalizing e with|nil=>(simp[jm])|cons r rs ih=>(simp only[jm,aw];refine bf (ih _) ?_;split;{have h1:=z' e r.f;have h2:=z' (n_ e r.f) (r.t+1);omega};{omega})
theorem C6(e:List Int)(l:List bK)(r:bK):jm e (l++[r])=if fK r then n_ (n_ (jm e l) r.f) (r.t+1)else jm e l:=by induction l generalizing e with|nil=>(simp[jm])|cons q rs ih=>(simp only[bF,jm];exact ih _)
theorem JD{e:List Int}{l:List bK}(h:e.Pairwise (· < ·)):(jm e l).Pairwise (· < ·):=by induction l generalizing e with|nil=>(exact h)|cons r rs ih=>(simp only[jm];apply ih;split;{exact U9 (U9 h)};{exact h})
theorem FV{l:List bK}{x:Int}: ∀{e:List Int},x∈jm e l ↔ x∈e\/ ∃r∈l,fK r=true/\(x=r.f\/x=r.t+1):=by induction l with|nil=>(intro e;simp[jm])|cons r rs ih=>(intro e;simp only[jm];rw[ih];cases h:fK r with|false=>(rw[if_neg (by simp)];constructor;{rintro(h1|⟨q,hq,h2⟩);{exact .inl h1};{exact .inr ⟨q,by simp[hq],h2⟩}};{rintro(h1|⟨q,hq,h2⟩);{exact .inl h1};{rcases aA.1 hq with rfl|hq;{rw[h]at h2;simp at h2};{exact .inr ⟨q,hq,h2⟩}}})|true=>(rw[if_pos rfl,FU,FU];constructor;{rintro((h1|h1|h1)|⟨q,hq,h2⟩);{exact .inr ⟨r,by simp,h,.inr h1⟩};{exact .inr ⟨r,by simp,h,.inl h1⟩};{exact .inl h1};{exact .inr ⟨q,by simp[hq],h2⟩}};{rintro(h1|⟨q,hq,h2⟩);{exact .inl (.inr (.inr h1))};{rcases aA.1 hq with rfl|hq;{rcases h2.2 with h3|h3;{exact .inl (.inr (.inl h3))};{exact .inl (.inl h3)}};{exact .inr ⟨q,hq,h2⟩}}}))
def df(a b:List bK):List Int:=jm (jm [] a) b
theorem oW(a b:List bK):(df a b).Pairwise (· < ·):=JD (JD List.Pairwise.nil)
theorem nr{a b:List bK}{x:Int}:x∈df a b ↔∃r∈a++b,fK r=true/\(x=r.f\/x=r.t+1):=by unfold df;rw[FV,FV];constructor;{rintro((h|⟨r,hr,h⟩)|⟨r,hr,h⟩);{cases h};{exact⟨r,by simp[hr],h⟩};{exact⟨r,by simp[hr],h⟩}};{rintro⟨r,hr,h⟩;rcases az.1 hr with hr|hr;{exact .inl (.inr ⟨r,hr,h⟩)};{exact .inr ⟨r,hr,h⟩}}
theorem tU{a b:List bK}{x:Int}(h:x∈df a b):1<=x/\x<=1099511627777:=by obtain⟨r,_,h1,h2⟩:=nr.1 h;have:=fL.1 h1;omega
theorem FW(a b:List bK):(df a b).length<=2*a.length+2*b.length:=by have h1:=tT [] a;have h2:=tT (jm [] a) b;simp only[bm]at h1;unfold df;omega
theorem OI{l:List bK}{x n:Int}(hx:x<=n)(h: ∀r∈l,fK r=true-> ¬(x<r.f/\r.f<=n)/\ ¬(x<r.t+1/\r.t+1<=n)):aX l n=aX l x:=by rw[bG,jy,jy];constructor;{rintro⟨r,hr,h1,h2,h3⟩;have:=h r hr h1;exact⟨r,hr,h1,by omega,by omega⟩};{rintro⟨r,hr,h1,h2,h3⟩;have:=h r hr h1;exact⟨r,hr,h1,by omega,by omega⟩}
def opF(op:Int)(x y:Bool):Bool:=if op=1 then x||y else if op=2 then x&&y else x&& !y
theorem opF_ff(op:Int):opF op false false=false:=by unfold opF;split<;>(try split)<;>rfl
def nR(op:Int)(a b:List bK)(n:Int):Bool:=opF op (aX a n) (aX b n)
section
variable{op:Int}{a b:List bK}
theorem opP_flat{x n:Int}(hx:x<=n)(h: ∀y∈df a b,¬(x<y/\y<=n)):nR op a b n=nR op a b x:=by have e1:aX a n=aX a x:=OI hx fun r hr h1=>⟨h _ (nr.2 ⟨r,by simp[hr],h1,.inl rfl⟩),h _ (nr.2 ⟨r,by simp[hr],h1,.inr rfl⟩)⟩;have e2:aX b n=aX b x:=OI hx fun r hr h1=>⟨h _ (nr.2 ⟨r,by simp[hr],h1,.inl rfl⟩),h _ (nr.2 ⟨r,by simp[hr],h1,.inr rfl⟩)⟩;unfold nR;rw[e1,e2]
theorem Lf{n:Int}(h: ∀y∈df a b,n<y):nR op a b n=false:=by (have e: ∀l:List bK,(∀r∈l,r∈a++b)->aX l n=false:=fun l hl=>by rw[<-dF,jy];rintro⟨r,hr,h1,h2,h3⟩;have:=h _ (nr.2 ⟨r,hl r hr,h1,.inl rfl⟩);omega);unfold nR;rw[e a (fun r hr=>by simp[hr]),e b (fun r hr=>by simp[hr]),opF_ff]
theorem OJ{n:Int}(h: ∀y∈df a b,y<=n):nR op a b n=false:=by (have e: ∀l:List bK,(∀r∈l,r∈a++b)->aX l n=false:=fun l hl=>by rw[<-dF,jy];rintro⟨r,hr,h1,h2,h3⟩;have:=h _ (nr.2 ⟨r,hl r hr,h1,.inr rfl⟩);omega);unfold nR;rw[e a (fun r hr=>by simp[hr]),e b (fun r hr=>by simp[hr]),opF_ff]
end
def BL(P:Int->Bool)(e:List Int):Nat->List bK|0=>[]|k+1=>if P (e[k]!)then gm (BL P e k) ⟨e[k]!,e[k+1]! -1⟩else BL P e k
def topT(l:List bK)(x:Int):Prop:=match l with| []=>True|q::_=>q.t<x
theorem Lg(P:Int->Bool)(e:List Int): ∀k,(BL P e k).length<=k|0=>ah _|k+1=>by have h1:=Lg P e k;have h2:=JC (BL P e k) ⟨e[k]!,e[k+1]! -1⟩;simp only[BL];split<;>omega
theorem yF{e:List Int}(h:e.Pairwise (· < ·)){i j:Nat}(BB:i<j)(hj:j<e.length):e[i]! <e[j]! :=by rw[getElem!_pos e i (by omega),getElem!_pos e j hj];exact ca.1 h i j (by omega) hj BB
theorem top_push{l:List bK}{r:bK}(h:topT l r.f)(hr:r.f<=r.t):topT (gm l r) (r.t+1):=by cases l with|nil=>(show r.t<r.t+1;omega)|cons q qs=>(have h':q.t<r.f:=h;simp only[gm];split;{show(if r.t>q.t then r.t else q.t)<r.t+1;split<;>omega};{show r.t<r.t+1;omega})
theorem Aa(op:Int)(a b:List bK): ∀k,k<(df a b).length->RR (BL (nR op a b) (df a b) k)/\topT (BL (nR op a b) (df a b) k) ((df a b)[k]!)/\lowF (BL (nR op a b) (df a b) k) ((df a b)[k]!)/\∀n,aX (BL (nR op a b) (df a b) k) n=(decide (n<(df a b)[k]!)&&nR op a b n)|0,hk=>by refine⟨trivial,trivial,trivial,fun n=> ?_⟩;by_cases h:n<(df a b)[0]!;{rw[Lf];{show aX [] n=_;rw[wX,bZ]};intro y hy;obtain⟨i,hi,rfl⟩:=dU.1 hy;have:(df a b)[i]! =(df a b)[i]:=getElem!_pos _ i hi;rcases Nat.eq_zero_or_pos i with rfl|hp;{omega};{have:=yF (oW a b) hp hi;omega}};{show aX [] n=_;rw[wX,decide_eq_false h,aO]}|k+1,hk=>by obtain⟨h1,h2,h3,h4⟩:=Aa op a b k (by omega);have a_:=yF (oW a b) (kM k) hk;have r1:=tU (a:=a) (b:=b) (x:=(df a b)[k]!) (by rw[getElem!_pos _ k (by omega)];exact aj _);have r2:=tU (a:=a) (b:=b) (x:=(df a b)[k+1]!) (by rw[getElem!_pos _ (k+1) hk];exact aj _);(have flat: ∀n,(df a b)[k]! <=n->n<(df a b)[k+1]! ->nR op a b n=nR op a b ((df a b)[k]!):=fun n hn mX=>opP_flat hn fun y hy=>by obtain⟨i,hi,rfl⟩:=dU.1 hy;have e:(df a b)[i]! =(df a b)[i]:=getElem!_pos _ i hi;rintro⟨g1,g2⟩;rcases ku i (k+1)with hh|hh|hh;{rcases fU (Nat.lt_succ_iff.1 hh)with OK|OK;{have:=yF (oW a b) OK (by omega);omega};{subst OK;omega}};{subst hh;omega};{have:=yF (oW a b) hh hi;omega});simp only[BL];generalize hx:(df a b)[k]! =x at*;generalize hy:(df a b)[k+1]! =y at*;generalize hm:BL (nR op a b) (df a b) k=m at*;cases hp:nR op a b x with|false=>(rw[if_neg (by simp)];refine⟨h1, ?_, ?_,fun n=> ?_⟩;{cases m with|nil=>(trivial)|cons q qs=>(show q.t<y;have:q.t<x:=h2;omega)};{cases m with|nil=>(trivial)|cons q qs=>(show q.f<=y;have:q.f<=x:=h3;omega)};{rw[h4];by_cases c1:n<x;{(have:n<y:=by omega);simp[c1,this]};{by_cases c2:n<y;{rw[flat n (by omega) c2,hp];simp};{simp[c1,c2]}}})|true=>(rw[if_pos rfl];have ho:fK ⟨x,y-1⟩=true:=fL.2 ⟨r1.1,by show x<=y-1;omega,by show y-1<=_;omega⟩;obtain⟨g1,g2,g3⟩:=C5 h1 ho h3;refine⟨g1, ?_, ?_,fun n=> ?_⟩;{have:=top_push (r:=⟨x,y-1⟩) h2 (by show x<=y-1;omega);simpa using this};{revert g2;cases gm m ⟨x,y-1⟩with|nil=>(intro _;trivial)|cons q qs=>(intro g2;have:q.f<=x:=g2;show q.f<=y;omega)};{rw[g3,h4];by_cases c1:n<x;{(have:n<y:=by omega);(have c3: ¬x<=n:=by omega);simp[c1,this,Rn,c3]};{by_cases c2:n<y;{rw[flat n (by omega) c2,hp];(have c3:x<=n:=by omega);(have c4:n<=y-1:=by omega);simp[Rn,c1,c2,c3,c4]};{(have c4: ¬n<=y-1:=by omega);simp[Rn,c1,c2,c4]}}})
theorem Lh(op:Int)(a b:List bK):(BL (nR op a b) (df a b) ((df a b).length-1)).reverse=fX (nR op a b):=by by_cases h:(df a b).length=0;{have e:df a b=[]:=aR.1 h;rw[h];refine wZ rfl fun n=> ?_;rw[Lf (fun y hy=>by rw[e]at hy;cases hy)];rfl};{obtain⟨h1,_,_,h4⟩:=Aa op a b ((df a b).length-1) (by omega);refine wZ (wW.2 h1) fun n=> ?_;rw[wY,h4];by_cases c:n<(df a b)[(df a b).length-1]!;{rw[decide_eq_true c,aG]};{rw[OJ];{simp};{intro y hy;obtain⟨i,hi,rfl⟩:=dU.1 hy;have e:(df a b)[i]! =(df a b)[i]:=getElem!_pos _ i hi;rcases fU (show i<=(df a b).length-1 by omega)with hh|hh;{have:=yF (oW a b) hh (by omega);omega};{subst hh;omega}}}}
theorem isR_op(op:Int)(a b:List bK):IsR (nR op a b):=by by_cases h:(df a b).length=0;{have e:df a b=[]:=aR.1 h;exact⟨[],rfl,fun n=>by rw[Lf (fun y hy=>by rw[e]at hy;cases hy)];rfl⟩};{refine⟨fX (nR op a b),mA _,fun n=> ?_⟩;have h0:=Lh op a b;obtain⟨h1,_,_,h4⟩:=Aa op a b ((df a b).length-1) (by omega);rw[<-h0,wY,h4];by_cases c:n<(df a b)[(df a b).length-1]!;{rw[decide_eq_true c,aG]};{rw[OJ];{simp};{intro y hy;obtain⟨i,hi,rfl⟩:=dU.1 hy;have e:(df a b)[i]! =(df a b)[i]:=getElem!_pos _ i hi;rcases fU (show i<=(df a b).length-1 by omega)with hh|hh;{have:=yF (oW a b) hh (by omega);omega};{subst hh;omega}}}}
theorem Ed(l:List bK):IsR (aX l):=by obtain⟨m,h1,h2⟩:=isR_op 1 l [];exact⟨m,h1,fun n=>by rw[h2];simp[nR,opF,aX]⟩
end Go.Proofs.YtfnohjheonlnmaaGreat
namespace Go.Proofs.YtfnohjheonlnmaaGreat
open Go.eC
set_option linter.unusedSimpArgs false
set_option linter.unusedVariables false
theorem SD: ∀{l:List bK},RR l ↔ l.Pairwise (fun r q=>q.t+2<=r.f)/\ ∀r∈l,fK r=true| []=>by simp[RR]|r::l=>by constructor;{intro h;obtain⟨h1,h2⟩:=SD.1 (z_ h);exact⟨aV.2 ⟨vI h,h1⟩,rr_all h⟩};{rintro⟨h1,h2⟩;rw[aV]at h1;have ih:=SD.2 ⟨h1.2,fun q hq=>h2 q (by simp[hq])⟩;cases l with|nil=>(exact h2 r (by simp))|cons q l=>(exact⟨h2 r (by simp),h1.1 q (by simp),ih⟩)}
theorem XF{l:List bK}:dB l=true ↔ l.Pairwise (fun r q=>r.t+2<=q.f)/\ ∀r∈l,fK r=true:=by rw[qv,SD,List.pairwise_reverse];simp
def vK(l:List bK):Int:=(l.map fun r=>r.t-r.f+1).sum
theorem U_: ∀{l:List bK} {p:Int},l.Pairwise (fun r q=>r.t+2<=q.f)->(∀r∈l,fK r=true)->(∀r∈l,p<=r.f)->1<=p->0<=vK l/\(l.length:Int)<=vK l/\vK l<=1099511627777-p\/l=[]| [],_,_,_,_,_=> .inr rfl|r::l,p,h,ho,hp,h1=>by rw[aV]at h;have o:=fL.1 (ho r (by simp));have hf:=hp r (by simp);(have e:vK (r::l)=(r.t-r.f+1)+vK l:=by simp[vK]);rcases U_ (l:=l) (p:=r.t+2) h.2 (fun q hq=>ho q (by simp[hq])) h.1 (by omega)with⟨g1,g2,g3⟩|rfl;{refine .inl ⟨by omega, ?_,by omega⟩;rw[e];simp only[aw];omega};{have e0:vK []=0:=rfl;rw[e0]at e;refine .inl ⟨by omega, ?_,by omega⟩;rw[e];simp only[aw,bm];omega}
theorem SE{l:List bK}(h:dB l=true):0<=vK l/\(l.length:Int)<=vK l/\vK l<=1099511627776:=by obtain⟨h1,h2⟩:=XF.1 h;rcases U_ (p:=1) h1 h2 (fun r hr=>(fL.1 (h2 r hr)).1) (cO _)with g|rfl;{omega};{simp[vK]}
theorem Va{l:List bK}(h:dB l=true):l.length<=1099511627776:=by have:=SE h;omega
structure aK where
 n:Int
 rs:List bK
 deriving DecidableEq
instance:Inhabited aK:=⟨⟨0,[]⟩⟩
def aK.cells(k:aK):List A:=[.int .i64 k.n,.aC (k.rs.map bK.enc)]
def aK.enc(k:aK):A:= .agg k.cells
def bH:List aK->Int->List bK| [],_=>[]|k::s,n=>if k.n=n then k.rs++bH s n else bH s n
theorem iN: ∀(s t:List aK) (n:Int),bH (s++t) n=bH s n++bH t n| [],_,_=>rfl|k::s,t,n=>by simp only[bF,bH,iN s t n];split;{rw[aU]};{rfl}
def du(n:Int):Bool:=decide (1<=n)&&decide (n<=16)
theorem eB{n:Int}:du n=true ↔ 1<=n/\n<=16:=by simp[du]
def tV(s:List aK)(n c:Int):Bool:=du n&&aX (bH s n) c
def OL(p:Int)(k:aK):Bool:=du k.n&&decide (p<k.n)&& !k.rs.isEmpty&&dB k.rs
def FX:Int->List aK->Bool|_,[]=>true|p,k::s=>OL p k&&FX k.n s
def dh(s:List aK):Bool:=FX 0 s
def rH(t:Int->List bK):Nat->List aK|0=>[]|k+1=>if(t (k+1)).isEmpty then rH t k else rH t k++[⟨k+1,t (k+1)⟩]
def rm(t:Int->List bK):List aK:=rH t 16
theorem tW(t:Int->List bK): ∀k,(rH t k).length<=k|0=>ah _|k+1=>by have:=tW t k;simp only[rH];split;{omega};{simp;omega}
theorem OM(t:Int->List bK)(n:Int): ∀k:Nat,bH (rH t k) n=if 1<=n/\n<=k then t n else []|0=>by rw[if_neg (by omega)];rfl|k+1=>by have ih:=OM t n k;simp only[rH];by_cases e:n=k+1;{subst e;rw[if_neg (by omega)]at ih;rw[if_pos (show 1<=(k:Int)+1/\(k:Int)+1<=((k+1:Nat):Int) by omega)];by_cases h:(t (k+1)).isEmpty=true;{rw[if_pos h,ih];exact(List.isEmpty_iff.1 h).symm};{rw[if_neg h,iN,ih];simp[bH]}};{(have h2:(1<=n/\n<=((k+1:Nat):Int)) ↔ (1<=n/\n<=(k:Int)):=by omega);split;{rw[ih];simp only[h2]};{rw[iN,ih];(have:bH [⟨(k:Int)+1,t (k+1)⟩] n=[]:=by simp only[bH];rw[if_neg (by omega)]);rw[this,bc];simp only[h2]}}
theorem w3(t:Int->List bK)(n:Int):bH (rm t) n=if du n=true then t n else []:=by unfold rm;rw[OM];simp only[eB];rfl
theorem ON: ∀(s:List aK) (p:Int) (k:aK),FX p (s++[k])=(FX p s&&OL (match s.getLast? with|some q=>q.n|none=>p) k)| [],p,k=>by simp[FX]|q::s,p,k=>by simp only[bF,FX,ON s q.n k,eD];congr 2;cases h:s.getLast? with|none=>(rw[List.getLast?_cons];simp[h])|some x=>(rw[List.getLast?_cons];simp[h])
theorem Ab{t:Int->List bK}{x:aK}: ∀{k:Nat},x∈rH t k->1<=x.n/\x.n<=k/\x.rs=t x.n/\x.rs≠ []|0,h=>by cases h|k+1,h=>by simp only[rH]at h;split at h;{have:=Ab h;exact⟨this.1,by omega,this.2.2⟩};{rename_i dL;rcases az.1 h with h|h;{have:=Ab h;exact⟨this.1,by omega,this.2.2⟩};{simp only[aI]at h;subst h;exact⟨by show(1:Int)<=(k:Int)+1;omega,by show(k:Int)+1<=((k+1:Nat):Int);omega,rfl,fun e=>dL (List.isEmpty_iff.2 e)⟩}}
theorem JE{t:Int->List bK}(h: ∀n,dB (t n)=true): ∀{k:Nat},k<=16->FX 0 (rH t k)=true|0,_=>rfl|k+1,hk=>by have ih:=JE (t:=t) h (k:=k) (by omega);simp only[rH];split;{exact ih};{rename_i dL;rw[ON,ih,aG];simp only[OL,h,b_,ae,decide_eq_true_iff,eB];refine⟨⟨by omega, ?_⟩,by simpa using dL⟩;split;{rename_i q hq;have:=Ab (List.mem_of_getLast? hq);omega};{omega}}
theorem FY{t:Int->List bK}(h: ∀n,dB (t n)=true):dh (rm t)=true:=JE h (ah _)
theorem JF{t u:Int->List bK}: ∀{k:Nat},(∀n:Int,1<=n->n<=k->t n=u n)->rH t k=rH u k|0,_=>rfl|k+1,h=>by have ih:=JF (t:=t) (u:=u) (k:=k) (fun n h1 h2=>h n h1 (by omega));have e:=h (k+1) (by omega) (by omega);simp only[rH,ih,e]
theorem nu{t u:Int->List bK}(h: ∀n,du n=true->t n=u n):rm t=rm u:=JF fun n h1 h2=>h n (eB.2 ⟨h1,by omega⟩)
theorem vL: ∀{s:List aK} {p n:Int},FX p s=true->n<=p->bH s n=[]| [],_,_,_,_=>rfl|k::s,p,n,h,hn=>by simp only[FX,OL,ae,decide_eq_true_iff]at h;simp only[bH];rw[if_neg (by omega)];exact vL h.2 (by omega)
theorem goK_rr: ∀{s:List aK} {p:Int},FX p s=true-> ∀n,dB (bH s n)=true| [],_,_,_=>rfl|k::s,p,h,n=>by simp only[FX,OL,ae,decide_eq_true_iff]at h;simp only[bH];split;{rename_i e;rw[vL h.2 (Int.le_of_eq e.symm),bc];exact h.1.2};{exact goK_rr h.2 n}
theorem goK_mk: ∀{s:List aK} {p:Nat},FX p s=true->p<=16->rm (bH s)=(rH (bH s) p)++s| [],p,_,hp=>by (have e: ∀k,rH (bH []) k=[]:=fun k=>by induction k with|zero=>(rfl)|succ k ih=>(have e:(bH [] ((k:Int)+1)).isEmpty=true:=rfl;simp only[rH,e,if_true];exact ih));unfold rm;rw[e,e];rfl|k::s,p,h,hp=>by have h0:=h;simp only[FX,OL,ae,decide_eq_true_iff]at h;obtain⟨⟨⟨⟨h1,h2⟩,h3⟩,h4⟩,h5⟩:=h;rw[eB]at h1;obtain⟨m,hm⟩: ∃m:Nat,k.n=((m+1:Nat):Int):=⟨(k.n-1).toNat,by omega⟩;(have mn:bH (k::s) k.n=k.rs:=by simp only[bH,if_true];rw[vL h5 (cO _),bc]);(have hrest: ∀n,k.n<n->bH (k::s) n=bH s n:=fun n hn=>by simp only[bH];rw[if_neg (by omega)]);(have sA: ∀n,n<k.n->bH (k::s) n=[]:=fun n hn=>by simp only[bH];rw[if_neg (by omega)];exact vL h5 (by omega));(have hz: ∀j:Nat,(j:Int)<k.n->rH (bH (k::s)) j=[]:=fun j=>by induction j with|zero=>(intro _;rfl)|succ j ih=>(intro hj;simp only[rH];rw[ih (by omega),sA _ (by omega)];rfl));(have hzs: ∀j:Nat,(j:Int)<=k.n->rH (bH s) j=[]:=fun j=>by induction j with|zero=>(intro _;rfl)|succ j ih=>(intro hj;simp only[rH];rw[ih (by omega),vL h5 (by omega)];rfl));(have XG: ∀j:Nat,m+1<=j->rH (bH (k::s)) j=k::rH (bH s) j:=fun j=>by induction j with|zero=>(intro hj;omega)|succ j ih=>(intro hj;rcases fU hj with hj|hj;{have hh:=ih (by omega);have e:=hrest (((j:Nat):Int)+1) (by omega);simp only[rH];rw[hh,e];split<;>simp};{(have e1:j=m:=by omega);subst e1;(have e2:((j:Nat):Int)+1=k.n:=by omega);rw[hzs (j+1) (by omega)];simp only[rH];rw[e2,mn,hz j (by omega)];cases hrs:k.rs with|nil=>(rw[hrs]at h3;simp at h3)|cons r rs=>(rw[if_neg (by simp)];cases k;simp_all)}));have ih:=goK_mk (s:=s) (p:=m+1) (by rw[<-hm];exact h5) (by omega);rw[hzs (m+1) (by omega)]at ih;rw[hz p (by omega)];unfold rm at ih⊢;rw[XG 16 (by omega),ih];rfl
theorem FZ{s:List aK}(h:dh s=true):rm (bH s)=s:=by have:=goK_mk (s:=s) (p:=0) h (by omega);simpa[rH]using this
theorem SF{s:List aK}(h:dh s=true):rm (fun n=>fX (aX (bH s n)))=s:=by have e:=FZ h;rw[<-nu (t:=bH s) fun n _=>wZ (goK_rr h n) fun _=>rfl];exact e
end Go.Proofs.YtfnohjheonlnmaaGreat
namespace Go.Iv
set_option linter.unusedSimpArgs false
set_option linter.unusedVariables false
set_option linter.unusedSectionVars false
section
variable{α β:Type}(lt:α->α->Bool)
def BM(l:List ((α×Option α)×β))(x:α)(b:β):Prop:= ∃i∈l,jN lt i.1 x=true/\i.2=b
def OO(i j:(α×Option α)×β):Prop:= ∃e,i.1.2=some e/\lt j.1.1 e=false/\(e=j.1.1->i.2≠j.2)
def qb:List ((α×Option α)×β)->Prop| []=>True| [i]=>below lt i.1.1 i.1.2=true|i::j::l=>below lt i.1.1 i.1.2=true/\OO lt i j/\qb (j::l)
def C7:List ((α×Option α)×β)->Prop| []=>True| [i]=>below lt i.1.1 i.1.2=true|i::j::l=>below lt i.1.1 i.1.2=true/\OO lt j i/\C7 (j::l)
def topL(l:List ((α×Option α)×β))(x:α):Prop:=match l with| []=>True|q::_=> ∃e,q.1.2=some e/\lt x e=false
def F4 [DecidableEq α] [DecidableEq β](l:List ((α×Option α)×β))(r:(α×Option α)×β):List ((α×Option α)×β):=match l with| []=>[r]|q::qs=>if q.1.2=some r.1.1/\q.2=r.2 then((q.1.1,r.1.2),q.2)::qs else r::q::qs
end
section
variable{α β:Type}{lt:α->α->Bool}(hl:Lin lt)
theorem tX{x:α}{b:β}: ¬BM lt [] x b:=by rintro⟨_,h,_⟩;cases h
theorem lW{i:(α×Option α)×β}{l:List ((α×Option α)×β)}{x:α}{b:β}:BM lt (i::l) x b ↔ (jN lt i.1 x=true/\i.2=b)\/BM lt l x b:=by simp[BM]
theorem inL_rev{l:List ((α×Option α)×β)}{x:α}{b:β}:BM lt l.reverse x b ↔ BM lt l x b:=by simp[BM]
theorem BN: ∀(l:List ((α×Option α)×β)) (i j:(α×Option α)×β),qb lt (l++[i,j]) ↔ qb lt (l++[i])/\OO lt i j/\below lt j.1.1 j.1.2=true| [],i,j=>by simp[qb]| [x],i,j=>by have e:=BN [] i j;simp only[bx,bF,qb]at e⊢;exact⟨fun⟨a,b,c,d,e⟩=>⟨⟨a,b,c⟩,d,e⟩,fun⟨⟨a,b,c⟩,d,e⟩=>⟨a,b,c,d,e⟩⟩|x::y::l,i,j=>by have e:=BN (y::l) i j;simp only[bF,qb]at e⊢;rw[e];exact⟨fun⟨a,b,c,d,e⟩=>⟨⟨a,b,c⟩,d,e⟩,fun⟨⟨a,b,c⟩,d,e⟩=>⟨a,b,c,d,e⟩⟩
theorem JG: ∀{l:List ((α×Option α)×β)},qb lt l.reverse ↔ C7 lt l| []=>by simp[qb,C7]| [i]=>by simp[qb,C7]|i::j::l=>by have ih:= @JG (j::l);simp only[g_,aU,bF,bx]at ih⊢;rw[BN,ih,C7];exact⟨fun⟨a,b,c⟩=>⟨c,b,a⟩,fun⟨a,b,c⟩=>⟨c,b,a⟩⟩
theorem sI{i:(α×Option α)×β}: ∀{l:List ((α×Option α)×β)},qb lt (i::l)->qb lt l| [],_=>trivial|_::_,h=>h.2.2
theorem JH{i:(α×Option α)×β}: ∀{l:List ((α×Option α)×β)},qb lt (i::l)->below lt i.1.1 i.1.2=true| [],h=>h|_::_,h=>h.1
include hl
theorem vM: ∀{l:List ((α×Option α)×β)} {i:(α×Option α)×β} {x:α} {b:β},qb lt (i::l)->BM lt (i::l) x b->lt x i.1.1=false|l,i,x,b,h,hm=>by rcases lW.1 hm with⟨hm,_⟩|hm;{simp only[jN,ae,bT]at hm;exact hm.1};{cases l with|nil=>(exact absurd hm tX)|cons j l=>(obtain⟨h1,⟨e,he,a_,_⟩,h2⟩:=h;have sA:=vM h2 hm;(have hi:lt i.1.1 e=true:=by rw[he]at h1;exact h1);have BB:lt i.1.1 j.1.1=true:=pK hl hi a_;cases hx:lt x i.1.1;{rfl};{have h4:=hl.tr _ _ _ hx BB;rw[h4]at sA;cases sA})}
theorem OP{i:(α×Option α)×β}{l:List ((α×Option α)×β)}{x:α}{b:β}(h:qb lt (i::l))(hm:BM lt l x b): ∃e,i.1.2=some e/\lt x e=false/\(x=e->i.2≠b):=by cases l with|nil=>(exact absurd hm tX)|cons j l=>(obtain⟨h1,⟨e,he,a_,dL⟩,h2⟩:=h;have sA:=vM hl h2 hm;refine⟨e,he,oV hl sA a_,fun hx=> ?_⟩;subst hx;have hej:x=j.1.1:=sD hl sA a_;(have hb:j.2=b:=by rcases lW.1 hm with⟨_,hm⟩|hm;{exact hm};{exfalso;cases l with|nil=>(exact absurd hm tX)|cons k l=>(obtain⟨g1,⟨e',Bc,ay,_⟩,g2⟩:=h2;have hlow':=vM hl g2 hm;rw[Bc]at g1;have g1':lt j.1.1 e'=true:=g1;rw[<-hej]at g1';have:=pK hl g1' ay;rw[this]at hlow';cases hlow')});rw[<-hb];exact dL hej)
theorem qw{i:(α×Option α)×β}{l:List ((α×Option α)×β)}{x:α}{b:β}(h:qb lt (i::l)):BM lt l x b ↔ BM lt (i::l) x b/\jN lt i.1 x=false:=by constructor;{intro hm;refine⟨lW.2 (.inr hm), ?_⟩;obtain⟨e,he,hx,_⟩:=OP hl h hm;simp[jN,he,below,hx]};{rintro⟨hm,h1⟩;rcases lW.1 hm with⟨h2,_⟩|h2;{rw[h1]at h2;cases h2};{exact h2}}
theorem OQ: ∀{l:List ((α×Option α)×β)} {x:α} {b c:β},qb lt l->BM lt l x b->BM lt l x c->b=c| [],_,_,_,_,h,_=>absurd h tX|i::l,x,b,c,h,h1,h2=>by cases hi:jN lt i.1 x with|true=>((have e: ∀d,BM lt (i::l) x d->i.2=d:=fun d hd=>by rcases lW.1 hd with⟨_,h3⟩|h3;{exact h3};{have:=(qw hl h).1 h3;rw[hi]at this;cases this.2});rw[<-e b h1,<-e c h2])|false=>(exact OQ (sI h) ((qw hl h).2 ⟨h1,hi⟩) ((qw hl h).2 ⟨h2,hi⟩))
theorem vN{i:(α×Option α)×β}{l:List ((α×Option α)×β)}(h:qb lt (i::l)):BM lt (i::l) i.1.1 i.2:=lW.2 (.inl ⟨by simp[jN,hl.C4,JH h],rfl⟩)
theorem Li{i j:(α×Option α)×β}{l m:List ((α×Option α)×β)}(h:qb lt (i::l))(h':qb lt (j::m))(hm: ∀x b,BM lt (i::l) x b ↔ BM lt (j::m) x b)(h0:i.1.1=j.1.1)(hb:i.2=j.2){e:α}(he:i.1.2=some e): ∃e',j.1.2=some e'/\lt e e'=false:=by (have hie:lt i.1.1 e=true:=by have:=JH h;rw[he]at this;exact this);(have hn: ¬BM lt (i::l) e i.2:=fun hi=>by rcases lW.1 hi with⟨h1,_⟩|h1;{simp[jN,he,below,hl.C4]at h1};{obtain⟨e',Bc,_,dL⟩:=OP hl h h1;rw[he]at Bc;exact dL (ag Bc) rfl});rw[hm]at hn;cases hj:j.1.2 with|none=>(exact absurd (lW.2 (.inl ⟨by simp[jN,hj,below,<-h0,asymm hl hie],hb.symm⟩)) hn)|some e'=>(refine⟨e',rfl, ?_⟩;cases hee:lt e e' with|false=>(rfl)|true=>(exact absurd (lW.2 (.inl ⟨by simp[jN,hj,below,<-h0,asymm hl hie,hee],hb.symm⟩)) hn))
theorem C8: ∀{l m:List ((α×Option α)×β)},qb lt l->qb lt m->(∀x b,BM lt l x b ↔ BM lt m x b)->l=m| [],[],_,_,_=>rfl| [],j::m,_,h,hm=>absurd ((hm _ _).2 (vN hl h)) tX|i::l,[],h,_,hm=>absurd ((hm _ _).1 (vN hl h)) tX|i::l,j::m,h,h',hm=>by have a1:=(hm _ _).1 (vN hl h);have a2:=(hm _ _).2 (vN hl h');have e0:i.1.1=j.1.1:=sD hl (vM hl h' a1) (vM hl h a2);(have eb:i.2=j.2:=by have:=vN hl h';rw[<-e0]at this;exact OQ hl h' a1 this);(have e1:i.1.2=j.1.2:=by cases hi:i.1.2 with|none=>(cases hj:j.1.2 with|none=>(rfl)|some e=>(obtain⟨e',h1,_⟩:=Li hl h' h (fun x b=>(hm x b).symm) e0.symm eb.symm hj;rw[hi]at h1;cases h1))|some e=>(obtain⟨e',h1,h2⟩:=Li hl h h' hm e0 eb hi;obtain⟨e'',h3,h4⟩:=Li hl h' h (fun x b=>(hm x b).symm) e0.symm eb.symm h1;rw[hi]at h3;obtain rfl:=ag h3;rw[h1,sD hl h2 h4]));(have e:i=j:=by obtain⟨⟨a,b⟩,c⟩:=i;obtain⟨⟨a',b'⟩,c'⟩:=j;simp_all);subst e;rw[C8 (sI h) (sI h') fun x b=>by rw[qw hl h,qw hl h',hm]]
theorem OR [DecidableEq α] [DecidableEq β]{l:List ((α×Option α)×β)}{r:(α×Option α)×β}(h:C7 lt l)(hr:below lt r.1.1 r.1.2=true)(ht:topL lt l r.1.1):C7 lt (F4 l r)/\(∀x b,BM lt (F4 l r) x b ↔ BM lt l x b\/(jN lt r.1 x=true/\r.2=b))/\ ∃q qs,F4 l r=q::qs/\q.1.2=r.1.2:=by cases l with|nil=>(exact⟨hr,fun x b=>by simp[F4,BM],r,[],rfl,rfl⟩)|cons q qs=>(obtain⟨e,he,hx⟩:=ht;simp only[F4];by_cases hc:q.1.2=some r.1.1/\q.2=r.2;{rw[if_pos hc];(have hq:lt q.1.1 r.1.1=true:=by (have h0:below lt q.1.1 q.1.2=true:=by cases qs with|nil=>(exact h)|cons _ _=>(exact h.1));rw[hc.1]at h0;exact h0);(have Vb:below lt q.1.1 r.1.2=true:=by cases Vc:r.1.2 with|none=>(rfl)|some e'=>(rw[Vc]at hr;exact hl.tr _ _ _ hq hr));refine⟨?_,fun x b=> ?_,_,_,rfl,rfl⟩;{cases qs with|nil=>(exact Vb)|cons p ps=>(exact⟨Vb,h.2.1,h.2.2⟩)};{rw[lW,lW];(have:jN lt (q.1.1,r.1.2) x=(jN lt q.1 x||jN lt r.1 x):=by have hb:below lt x (some r.1.1)=lt x r.1.1:=rfl;simp only[jN,hc.1,hb];cases h1:lt x q.1.1 with|true=>(have h2:lt x r.1.1=true:=hl.tr _ _ _ h1 hq;simp[h2])|false=>(cases h2:lt x r.1.1 with|true=>((have:below lt x r.1.2=true:=by cases Vc:r.1.2 with|none=>(rfl)|some e'=>(rw[Vc]at hr;exact hl.tr _ _ _ h2 hr));simp[this])|false=>(simp)));simp only[this,bw,hc.2];constructor;{rintro(⟨h1|h1,h2⟩|h1);{exact .inl (.inl ⟨h1,h2⟩)};{exact .inr ⟨h1,h2⟩};{exact .inl (.inr h1)}};{rintro((⟨h1,h2⟩|h1)|⟨h1,h2⟩);{exact .inl ⟨.inl h1,h2⟩};{exact .inr h1};{exact .inl ⟨.inr h1,h2⟩}}}};{rw[if_neg hc];refine⟨⟨hr,⟨e,he,hx,fun hee hb=>hc ⟨by rw[he,hee],hb⟩⟩,h⟩,fun x b=> ?_,_,_,rfl,rfl⟩;rw[lW];exact⟨fun h=>h.symm,fun h=>h.symm⟩})
end
end Go.Iv
namespace Go.Proofs.YtfnohjheonlnmaaGreat
open Go.eC
set_option linter.unusedSimpArgs false
set_option linter.unusedVariables false
structure Pc where
 r:bj
 s:List aK
 deriving DecidableEq
instance:Inhabited Pc:=⟨⟨⟨[],[],true⟩,[]⟩⟩
def setAt(k:List Pc)(x:List UInt8):List aK:=(k.filter fun p=>dW p.r x).flatMap (·.s)
theorem od(k m:List Pc)(x:List UInt8):setAt (k++m) x=setAt k x++setAt m x:=by simp[setAt]
def eG(k:List Pc)(x:List UInt8)(n c:Int):Bool:=k.any fun p=>dW p.r x&&tV p.s n c
theorem hasP_at(k:List Pc)(x:List UInt8)(n c:Int):eG k x n c=tV (setAt k x) n c:=by induction k with|nil=>(simp[eG,setAt,tV,bH,aX])|cons p k ih=>((have e:setAt (p::k) x=(if dW p.r x=true then p.s else [])++setAt k x:=by unfold setAt;by_cases h:dW p.r x=true;{simp[h]};{simp[h]});have e2:eG (p::k) x n c=((dW p.r x&&tV p.s n c)||eG k x n c):=rfl;rw[e,e2,ih];unfold tV;rw[iN,lN];cases dW p.r x<;>cases du n<;>simp[bH,aX])
def jd(p:Pc):Bool:=br p.r&& !p.s.isEmpty&&dh p.s
def BO(q p:Pc):Bool:= !q.r.op&& !cF p.r.lo q.r.hi&& !(q.r.hi==p.r.lo&&decide (q.s=p.s))
def Lj:Option Pc->List Pc->Bool|_,[]=>true|q,p::k=>jd p&&(match q with|none=>true|some q=>BO q p)&&Lj (some p) k
def cS(k:List Pc):Bool:=Lj none k
def Bf(p:Pc):(List UInt8×Option (List UInt8))×List aK:=(rh p.r,p.s)
theorem ivP_inj{p q:Pc}(hp:jd p=true)(hq:jd q=true)(h:Bf p=Bf q):p=q:=by simp only[jd,ae]at hp hq;have h1:rh p.r=rh q.r:=congrArg Prod.fst h;have h2:p.s=q.s:=congrArg Prod.snd h;have:=iv_inj hp.1.1 hq.1.1 h1;cases p;cases q;simp_all
theorem Vd{q p:Pc}:BO q p=true ↔ Iv.OO cF (Bf q) (Bf p):=by simp only[BO,Iv.OO,Bf,rh,ae,bT,Bool.and_eq_false_iff,beq_eq_false_iff_ne,decide_eq_false_iff_not];constructor;{rintro⟨⟨h1,h2⟩,h3⟩;exact⟨q.r.hi,by simp[h1],h2,fun e=>by rcases h3 with h3|h3;{exact absurd e h3};{exact h3}⟩};{rintro⟨e,h1,h2,h3⟩;cases ho:q.r.op with|true=>(rw[ho]at h1;simp at h1)|false=>(rw[ho]at h1;simp at h1;subst h1;refine⟨⟨rfl,h2⟩, ?_⟩;by_cases h:q.r.hi=p.r.lo;{exact .inr (h3 h)};{exact .inl h})}
theorem Ve: ∀{k:List Pc} {q:Option Pc},Lj q k=true ↔ (∀p∈k,jd p=true)/\Iv.qb cF (k.map Bf)/\ ∀u,q=some u-> ∀p,k.head? =some p->BO u p=true| [],q=>by simp[Lj,Iv.qb]|p::k,q=>by have ih:= @Ve k (some p);simp only[Lj,ae,ih];constructor;{rintro⟨⟨h1,h2⟩,h3,h4,h5⟩;refine⟨fun r hr=> ?_, ?_,fun u hu r hr=> ?_⟩;{rcases aA.1 hr with rfl|hr;{exact h1};{exact h3 r hr}};{(have hb:Iv.below cF (Bf p).1.1 (Bf p).1.2=true:=by simp only[jd,ae]at h1;exact U5 h1.1.1);cases k with|nil=>(exact hb)|cons r k=>(exact⟨hb,Vd.1 (h5 p rfl r rfl),h4⟩)};{subst hu;simp at hr;subst hr;exact h2}};{rintro⟨h1,h2,h3⟩;refine⟨⟨h1 p (by simp), ?_⟩,fun r hr=>h1 r (by simp[hr]),Iv.sI h2,fun u hu r hr=> ?_⟩;{cases q with|none=>(rfl)|some u=>(exact h3 u rfl p rfl)};{obtain rfl:=ag hu;cases k with|nil=>(cases hr)|cons w k=>(simp at hr;subst hr;exact Vd.2 h2.2.1)}}
theorem iK{k:List Pc}:cS k=true ↔ (∀p∈k,jd p=true)/\Iv.qb cF (k.map Bf):=by unfold cS;rw[Ve];simp
def vO(k:List Pc)(x:List UInt8)(l:List aK):Prop:=Iv.BM cF (k.map Bf) x l
theorem C9: ∀{k m:List Pc},(∀p∈k,jd p=true)->(∀p∈m,jd p=true)->k.map Bf=m.map Bf->k=m| [],[],_,_,_=>rfl| [],_::_,_,_,h=>by simp at h|_::_,[],_,_,h=>by simp at h|p::k,q::m,h1,h2,h=>by simp only[aP,dt]at h;rw[ivP_inj (h1 p (by simp)) (h2 q (by simp)) h.1,C9 (fun r hr=>h1 r (by simp[hr])) (fun r hr=>h2 r (by simp[hr])) h.2]
theorem Ih{k m:List Pc}(h:cS k=true)(h':cS m=true)(hm: ∀x l,vO k x l ↔ vO m x l):k=m:=by rw[iK]at h h';exact C9 h.1 h'.1 (Iv.C8 uW h.2 h'.2 hm)
open Classical in /-- THE right list of what is meant. -/def di(P:List UInt8->List aK):List Pc:=if h: ∃k,cS k=true/\ ∀x l,vO k x l ↔ P x=l/\l≠ []then Classical.choose h else []
def IsP(P:List UInt8->List aK):Prop:= ∃k,cS k=true/\ ∀x l,vO k x l ↔ P x=l/\l≠ []
theorem nv(P:List UInt8->List aK):cS (di P)=true:=by unfold di;split;{rename_i h;exact(dc h).1};{rfl}
theorem JI{P:List UInt8->List aK}(h:IsP P)(x:List UInt8)(l:List aK):vO (di P) x l ↔ P x=l/\l≠ []:=by unfold di;rw[dif_pos (show∃k,cS k=true/\ ∀x l,vO k x l ↔ P x=l/\l≠ []from h)];exact(dc h).2 x l
theorem Vf{P:List UInt8->List aK}{k:List Pc}(h:cS k=true)(hp: ∀x l,vO k x l ↔ P x=l/\l≠ []):k=di P:=Ih h (nv P) fun x l=>by rw[hp,JI ⟨k,h,hp⟩]
theorem Ac{k:List Pc}(hk: ∀p∈k,jd p=true){x:List UInt8}{l:List aK}:vO k x l ↔∃p∈k,dW p.r x=true/\p.s=l:=by unfold vO Iv.BM;constructor;{rintro⟨i,hi,h1,h2⟩;obtain⟨p,hp,rfl⟩:=bS.1 hi;have:=hk p hp;simp only[jd,ae]at this;exact⟨p,hp,by rw[tO,this.1.1];exact h1,h2⟩};{rintro⟨p,hp,h1,h2⟩;refine⟨Bf p,bS.2 ⟨p,hp,rfl⟩, ?_,h2⟩;rw[tO,ae]at h1;exact h1.2}
theorem vP: ∀{k:List Pc},cS k=true-> ∀{x:List UInt8} {p:Pc},p∈k->dW p.r x=true->setAt k x=p.s| [],_,_,_,h,_=>by cases h|q::k,hr,x,p,hp,hx=>by have hc:=iK.1 hr;have ht:cS k=true:=iK.2 ⟨fun r h=>hc.1 r (by simp[h]),Iv.sI hc.2⟩;(have e:setAt (q::k) x=(if dW q.r x=true then q.s else [])++setAt k x:=by unfold setAt;by_cases h:dW q.r x=true;{simp[h]};{simp[h]});rw[e];cases hq:dW q.r x with|true=>((have rY: ∀r∈k,dW r.r x=false:=fun r Vc=>by rw[<-dF];intro hrx;have h1:Iv.BM cF (k.map Bf) x r.s:=(Ac (fun r h=>hc.1 r (by simp[h]))).2 ⟨r,Vc,hrx,rfl⟩;have h2:=(Iv.qw uW hc.2).1 h1;rw[tO,ae]at hq;have h3:Iv.jN cF (Bf q).1 x=true:=hq.2;rw[h2.2]at h3;cases h3);(have h0:setAt k x=[]:=by unfold setAt;rw[d_.2 (fun r h=>by rw[rY r h];simp)];rfl);(have hpq:p=q:=by rcases aA.1 hp with h|h;{exact h};{rw[rY p h]at hx;cases hx});rw[h0,hpq];simp)|false=>((have Ro:p∈k:=by rcases aA.1 hp with h|h;{subst h;rw[hq]at hx;cases hx};{exact h});simp only[aB,if_false,bx];exact vP ht Ro hx)
def fm:List Pc->Pc->List Pc| [],r=>[r]|q::qs,r=>if(!q.r.op&&q.r.hi==r.r.lo&&decide (q.s=r.s))=true then⟨⟨q.r.lo,r.r.hi,r.r.op⟩,q.s⟩::qs else r::q::qs
theorem pushP_iv(l:List Pc)(r:Pc):(fm l r).map Bf=Iv.F4 (l.map Bf) (Bf r):=by cases l with|nil=>(rfl)|cons q qs=>(simp only[fm,aP,Iv.F4];(have:((!q.r.op&&q.r.hi==r.r.lo&&decide (q.s=r.s))=true) ↔ ((Bf q).1.2=some (Bf r).1.1/\(Bf q).2=(Bf r).2):=by simp only[Bf,rh,ae,bT,beq_iff_eq,decide_eq_true_iff];cases q.r.op<;>simp);by_cases h:(!q.r.op&&q.r.hi==r.r.lo&&decide (q.s=r.s))=true;{rw[if_pos h,if_pos (this.1 h)];rfl};{rw[if_neg h,if_neg (fun e=>h (this.2 e))];rfl})
theorem XH(l:List Pc)(r:Pc):(fm l r).length<=l.length+1:=by cases l with|nil=>(simp[fm])|cons q qs=>(simp only[fm];split<;>simp)
def pw(es:List (List UInt8))(k:Nat):bj:=if k+1<es.length then⟨es[k]!,es[k+1]!,false⟩else⟨es[k]!,[],true⟩
def qc(P:List UInt8->List aK)(es:List (List UInt8)):Nat->List Pc|0=>[]|k+1=>if P (es[k]!)=[]then qc P es k else fm (qc P es k) ⟨pw es k,P (es[k]!)⟩
theorem Ad(P:List UInt8->List aK)(es:List (List UInt8)): ∀k,(qc P es k).length<=k|0=>ah _|k+1=>by have h1:=Ad P es k;have h2:=XH (qc P es k) ⟨pw es k,P (es[k]!)⟩;simp only[qc];split<;>omega
theorem w4{e:List (List UInt8)}(h:e.Pairwise (fun x y=>cF x y=true)){i j:Nat}(BB:i<j)(hj:j<e.length):cF (e[i]!) (e[j]!)=true:=by rw[getElem!_pos e i (by omega),getElem!_pos e j hj];exact ca.1 h i j (by omega) hj BB
structure OS(P:List UInt8->List aK)(es:List (List UInt8)):Prop where
 up:es.Pairwise (fun x y=>cF x y=true)
 nil: []∈es
 len: ∀e∈es,e.length<=17
 flat: ∀x e,e∈es->cF x e=false->(∀y∈es,cF e y=true->cF x y=true)->P x=P e
 right: ∀x,dh (P x)=true
theorem Lk(x:List UInt8):cF x []=false:=by cases x<;>rfl
theorem OT{P:List UInt8->List aK}{es:List (List UInt8)}(h:OS P es):es[0]! =[]/\0<es.length:=by obtain⟨i,hi,he⟩:=dU.1 h.nil;refine⟨?_,by omega⟩;rcases Nat.eq_zero_or_pos i with rfl|hp;{rw[getElem!_pos es 0 hi,he]};{have:=w4 h.up hp hi;rw[getElem!_pos es i hi,he,Lk]at this;cases this}
theorem SG{P:List UInt8->List aK}{es:List (List UInt8)}(h:OS P es){k:Nat}(hk:k<es.length):br (pw es k)=true:=by have h1:=h.len (es[k]!) (by rw[getElem!_pos es k hk];exact aj _);unfold pw;by_cases hn:k+1<es.length;{have h2:=h.len (es[k+1]!) (by rw[getElem!_pos es (k+1) hn];exact aj _);rw[if_pos hn];exact vD h1 h2 (fun e=>by cases e) (fun _=>w4 h.up (kM k) hn)};{rw[if_neg hn];exact vD h1 (by simp) (fun _=>rfl) (fun e=>by cases e)}
theorem rngE_lo{es:List (List UInt8)}{k:Nat}:(pw es k).lo=es[k]! :=by unfold pw;split<;>rfl
theorem XI{l:List Pc}{r:Pc}(hl: ∀p∈l,jd p=true)(hr:jd r=true): ∀p∈fm l r,jd p=true:=by cases l with|nil=>(intro p hp;simp only[fm,aI]at hp;subst hp;exact hr)|cons q qs=>(intro p hp;simp only[fm]at hp;split at hp;{rename_i hc;rcases aA.1 hp with rfl|hp;{have hq:=hl q (by simp);simp only[ae,bT,beq_iff_eq,decide_eq_true_iff]at hc;simp only[jd,ae]at hq hr⊢;refine⟨⟨?_,hq.1.2⟩,hq.2⟩;have a:=hq.1.1;have b:=hr.1.1;simp only[br,ae,decide_eq_true_iff,hc.1.1,aB,if_false]at a b⊢;refine⟨⟨a.1.1,b.1.2⟩, ?_⟩;cases ho:r.r.op with|true=>(have:=b.2;rw[ho]at this;simpa using this)|false=>(have:=b.2;rw[ho]at this;simp only[aB,if_false]at this⊢;rw[<-hc.1.2]at this;exact fb a.2 this)};{exact hl p (by simp[hp])}};{rcases aA.1 hp with rfl|hp;{exact hr};{exact hl p hp}})
theorem vQ{P:List UInt8->List aK}{es:List (List UInt8)}(h:OS P es): ∀k,k<=es.length-> (∀p∈qc P es k,jd p=true)/\Iv.C7 cF ((qc P es k).map Bf)/\(k<es.length->Iv.topL cF ((qc P es k).map Bf) (es[k]!))/\∀x l,Iv.BM cF ((qc P es k).map Bf) x l ↔ (0<k/\(k<es.length->cF x (es[k]!)=true))/\P x=l/\l≠ []|0,_=>⟨fun p hp=>(by cases hp),trivial,fun _=>trivial,fun x l=>⟨fun hi=>absurd hi Iv.tX,fun hi=>by omega⟩⟩|k+1,hk=>by obtain⟨h0,h1,h2,h3⟩:=vQ h k (by omega);have pq:=h2 (by omega);(have hek:es[k]! ∈es:=by rw[getElem!_pos es k (by omega)];exact aj _);(have XJ: ∀x,Iv.jN cF (rh (pw es k)) x=true ↔ (cF x (es[k]!)=false/\(k+1<es.length->cF x (es[k+1]!)=true)):=fun x=>by unfold pw;by_cases hn:k+1<es.length;{rw[if_pos hn];simp[Iv.jN,rh,Iv.below,hn]};{rw[if_neg hn];simp[Iv.jN,rh,Iv.below,hn]});(have zy: ∀x,Iv.jN cF (rh (pw es k)) x=true->P x=P (es[k]!):=fun x hx=>by obtain⟨a,b⟩:=(XJ x).1 hx;refine h.flat x _ hek a fun y hy hly=> ?_;obtain⟨i,hi,rfl⟩:=dU.1 hy;have e:es[i]! =es[i]:=getElem!_pos _ i hi;rw[<-e]at hly⊢;rcases ku i k with hh|hh|hh;{have:=w4 h.up hh (by omega);rw[kZ this]at hly;cases hly};{subst hh;rw[lt_irrefl]at hly;cases hly};{have hb:=b (by omega);rcases fU (show k+1<=i by omega)with OK|OK;{exact fb hb (w4 h.up OK hi)};{subst OK;exact hb}});(have qN: ∀x,(0<k+1/\(k+1<es.length->cF x (es[k+1]!)=true)) ↔ (0<k/\(k<es.length->cF x (es[k]!)=true))\/Iv.jN cF (rh (pw es k)) x=true:=fun x=>by rw[XJ];constructor;{rintro⟨_,hb⟩;cases hx:cF x (es[k]!)with|false=>(exact .inr ⟨rfl,hb⟩)|true=>(refine .inl ⟨?_,fun _=>rfl⟩;rcases Nat.eq_zero_or_pos k with h0|h0;{subst h0;rw[(OT h).1,Lk]at hx;cases hx};{exact h0})};{rintro(⟨h4,h5⟩|⟨_,h5⟩);{exact⟨by omega,fun hn=>fb (h5 (by omega)) (w4 h.up (kM k) hn)⟩};{exact⟨by omega,h5⟩}});simp only[qc];by_cases hP:P (es[k]!)=[];{rw[if_pos hP];refine⟨h0,h1,fun hn=> ?_,fun x l=> ?_⟩;{revert pq;cases hm:(qc P es k).map Bf with|nil=>(intro _;trivial)|cons q qs=>(rintro⟨e,he,a_⟩;exact⟨e,he,Iv.oV uW (kZ (w4 h.up (kM k) hn)) a_⟩)};{rw[h3,qN];constructor;{rintro⟨a,b⟩;exact⟨.inl a,b⟩};{rintro⟨a|a,b⟩;{exact⟨a,b⟩};{rw[zy x a,hP]at b;exact absurd b.1.symm b.2}}}};{rw[if_neg hP];have Rk:=SG h (k:=k) (by omega);(have gT:jd ⟨pw es k,P (es[k]!)⟩=true:=by simp only[jd,Rk,h.right,aG,b_,bT];cases hPk:P (es[k]!)with|nil=>(exact absurd hPk hP)|cons _ _=>(rfl));obtain⟨g1,g2,q,qs,g3,g4⟩:=Iv.OR uW (r:=Bf ⟨pw es k,P (es[k]!)⟩) h1 (U5 Rk) (by show Iv.topL cF _ (pw es k).lo;rw[rngE_lo];exact pq);rw[<-pushP_iv]at g1 g2 g3;refine⟨fun p hp=>XI h0 gT p hp,g1,fun hn=> ?_,fun x l=> ?_⟩;{rw[g3];refine⟨es[k+1]!, ?_,lt_irrefl _⟩;rw[g4];show(rh (pw es k)).2=_;unfold pw;rw[if_pos hn];rfl};{rw[g2,h3,qN];constructor;{rintro(⟨a,b⟩|⟨a,b⟩);{exact⟨.inl a,b⟩};{have a':Iv.jN cF (rh (pw es k)) x=true:=a;have b':P (es[k]!)=l:=b;exact⟨.inr a',by rw[zy x a'];exact b',by rw[<-b'];exact hP⟩}};{rintro⟨a|a,b⟩;{exact .inl ⟨a,b⟩};{exact .inr ⟨a,by rw[<-zy x a];exact b.1⟩}}}}
theorem rI{P:List UInt8->List aK}{es:List (List UInt8)}(h:OS P es):(qc P es es.length).reverse=di P/\IsP P:=by obtain⟨h0,h1,_,h3⟩:=vQ h es.length (ah _);(have hr:cS (qc P es es.length).reverse=true:=by rw[iK];refine⟨fun p hp=>h0 p (kO.1 hp), ?_⟩;rw[List.map_reverse];exact Iv.JG.2 h1);(have hs: ∀x l,vO (qc P es es.length).reverse x l ↔ P x=l/\l≠ []:=fun x l=>by unfold vO;rw[List.map_reverse,Iv.inL_rev,h3];have:=(OT h).2;exact⟨fun h=>h.2,fun h=>⟨⟨this,fun hn=>by omega⟩,h⟩⟩);exact⟨Vf hr hs,_,hr,hs⟩
set_option maxRecDepth 20000
set_option maxHeartbeats 4000000
theorem strI{q:IntKind}(l:List Int):((l.map (A.int q)).isEmpty||eN (l.map (A.int q))==1)=true:=by cases l<;>rfl
theorem JJ{l:List Int}{n:Int}{k:Nat}(hk:k<=l.length)(hd:n_ l n=l.take k++n::l.drop k):k+1<=((l.take k).map (A.int .i64)++[A.int .i64 n]).length/\k+1+(l.length-k)<=(((l.take k).map (A.int .i64)++[A.int .i64 n]).take (k+1)++(l.drop k).map (A.int .i64)).length/\ (((l.take k).map (A.int .i64)++[A.int .i64 n]).take (k+1)++(l.drop k).map (A.int .i64)).take (k+1+(l.length-k))=(n_ l n).map (A.int .i64):=by (have e:((l.take k).map (A.int .i64)++[A.int .i64 n]).length=k+1:=by simp;omega);rw[ab (dm e)];(have e2:((l.take k).map (A.int .i64)++[A.int .i64 n]++(l.drop k).map (A.int .i64)).length=k+1+(l.length-k):=by rw[ai,e,aa,bU]);rw[ab (dm e2)];exact⟨by omega,by omega,by rw[hd];simp⟩
theorem OU(l:List Int)(n:Int)(hl:l.length<=1000000):bh Tryz.prog 271 [.aC (l.map (A.int .i64)),.int .i64 n] (· = .aC ((n_ l n).map (A.int .i64))):=by refine aF tS mixed Tryz.func271 ?_;unfold Tryz.f271;simp-implicitDefEqProofs (disch:=first|omega|decide) only[go_sem,↓reduceIte,seval,aa];refine aQ [0,1,4] (ι:={k:Nat//k<=l.length/\n_ l n=l.take k++n_ (l.drop k) n}) (fun p=>[(5,.int .i64 p.1)]) (fun _=>[]) (fun p=>l.length-p.1) ⟨0,by omega,rfl⟩ (ak _) ?_ ?_;{simp-implicitDefEqProofs (disch:=first|omega|decide) only[go_sem,↓reduceIte,seval]};{rintro⟨k,hk,hd⟩;simp only;by_cases a_:k<l.length;{(have ay:(k:Int)<(l.length:Int):=by omega);(have e1:(l.map (A.int .i64))[k]? =some (.int .i64 l[k]):=by rw[aL,ad a_];rfl);(have tk:(l.take k).length=k:=by rw[aD];omega);have t1:=(ao a_).symm;rw[ar a_]at hd;generalize hx:l[k]=x at*;simp only[n_]at hd;by_cases h1:x<n;{rw[if_pos h1]at hd;simp-implicitDefEqProofs (disch:=first|omega|decide) only[go_sem,↓reduceIte,seval,ay,e1,h1,wrap_i64,aa];exact⟨⟨k+1,a_,by rw[hd,t1,aU];rfl⟩,by simp,by show l.length-(k+1)<l.length-k;omega⟩};{rw[if_neg h1]at hd;cases h2:x==n with|true=>(simp-implicitDefEqProofs (disch:=first|omega|decide) only[go_sem,↓reduceIte,seval,ay,e1,h1,h2,wrap_i64,aa];(have hxn:x=n:=by simpa using h2);rw[if_pos hxn,<-hx,<-ar a_,bn]at hd;rw[hd])|false=>((have hxn:x≠n:=by simpa using h2);have l1:(l.take k).length=k:=tk;have l2:(l.drop k).length=l.length-k:=bU ..;simp-implicitDefEqProofs (disch:=first|omega|decide) only[go_sem,↓reduceIte,seval,ay,e1,h1,h2,wrap_i64,<-gZ,<-jM,strI,aa,bC,l1,l2];obtain⟨c1,c2,c3⟩:=JJ hk (by rw[hd,if_neg hxn,<-hx,<-ar a_]);exact⟨by omega,by omega,⟨by omega,by omega⟩,⟨by omega,by omega⟩,⟨c1,by omega⟩,c2,c3⟩)}};{(have ay: ¬(k:Int)<(l.length:Int):=by omega);(have l1:(l.take k).length=k:=by rw[aD];omega);have l2:(l.drop k).length=l.length-k:=bU ..;have l3:l.drop k=[]:=ax (by omega);obtain⟨c1,c2,c3⟩:=JJ hk (by rw[hd,l3];rfl);simp-implicitDefEqProofs (disch:=first|omega|decide) only[go_sem,↓reduceIte,seval,ay,wrap_i64,<-gZ,<-jM,strI,aa,bC,l1,l2];exact⟨by omega,by omega,⟨by omega,by omega⟩,⟨by omega,by omega⟩,⟨c1,by omega⟩,c2,c3⟩}}
def XK:aN:=Ic.add 271 (entry (fun(v:List Int×Int)=>[.aC (v.1.map (A.int .i64)),.int .i64 v.2]) (fun v=>v.1.length<=1000000) (fun v=> .aC ((n_ v.1 v.2).map (A.int .i64))))
theorem Vg:aH Tryz.prog XK:=tS.en Tryz.func271 fun v h=>OU v.1 v.2 h
@[go_sem] theorem T13c_s:XK.nx Ic 271:=aN.BF T13b_s.2
theorem F5(v:List Int×Int)(h:v.1.length<=1000000):XK.f 271 [.aC (v.1.map (A.int .i64)),.int .i64 v.2]=some (.aC ((n_ v.1 v.2).map (A.int .i64))):=aN.en (Γ:=Ic) v h
@[go_sem] theorem t_ref13_put{l:List Int}{n:Int}(h:l.length<=1000000):XK.f 271 [.aC (l.map (A.int .i64)),.int .i64 n]=some (.aC ((n_ l n).map (A.int .i64))):=F5 (l,n) h
def slI:List Int->A| []=> .eo|x::xs=> .aC ((x::xs).map (A.int .i64))
theorem slI_ne{l:List Int}(h:l≠ []):slI l= .aC (l.map (A.int .i64)):=by cases l with|nil=>(exact absurd rfl h)|cons x xs=>(rfl)
theorem BP{m:Nat}(l:List Int):(slI l).under m=true:=by cases l<;>rfl
@[go_sem] theorem view_slI{H:List Go.eC.Obj}{l:List Int}:view H (slI l)=some (.aC (l.map (A.int .i64))):=by cases l<;>rfl
@[go_sem] theorem pure_slI{l:List Int}:(slI l).pure=true:=by cases l<;>rfl
theorem Ii(a b:List bK)(ha:a.length<=50000)(hb:b.length<=50000):bh Tryz.prog 246 [.aC (a.map bK.enc),.aC (b.map bK.enc)] (· = .aC ((df a b).map (A.int .i64))):=by refine aF Vg mixed Tryz.func246 ?_;unfold Tryz.f246;simp-implicitDefEqProofs (disch:=first|omega|decide) only[go_sem,↓reduceIte,seval,aa];refine aQ [0,1,4] (ι:={k:Nat//k<=a.length}) (fun p=>[(6,.int .i64 p.1),(5,slI (jm [] (a.take p.1)))]) (fun _=>[]) (fun p=>a.length-p.1) ⟨0,by omega⟩ (ak _) ?_ ?_;{simp-implicitDefEqProofs (disch:=first|omega|decide) only[go_sem,↓reduceIte,seval];simp[jm,slI,A.under]};{rintro⟨k,hk⟩;simp only;have hlen:=tT [] (a.take k);(have No:(a.take k).length=k:=by rw[aD];omega);by_cases a_:k<a.length;{(have ay:(k:Int)<(a.length:Int):=by omega);have e1:=run_get a_;have ht:a.take (k+1)=a.take k++[a[k]]:=(ao a_).symm;generalize hx:a[k]=x at*;obtain⟨f,t⟩:=x;have hs:=C6 [] (a.take k) ⟨f,t⟩;rw[<-ht]at hs;generalize EV:jm [] (a.take k)=es at*;simp only[bm]at hlen;cases h1:fK ⟨f,t⟩with|false=>(rw[h1]at hs;simp-implicitDefEqProofs (disch:=first|omega|decide) only[go_sem,↓reduceIte,seval,ay,e1,h1,wrap_i64,aa];exact⟨⟨k+1,a_⟩,by simp[hs,BP],by show a.length-(k+1)<a.length-k;omega⟩)|true=>(rw[h1,if_pos rfl]at hs;obtain⟨o1,o2,o3⟩:=nG h1;simp only at o1 o2 o3 hs;have p1:=z' es f;have na:=slI_ne (U8 (n_ es f) (t+1));simp-implicitDefEqProofs (disch:=first|omega|decide) only[go_sem,↓reduceIte,seval,ay,e1,h1,wrap_i64,aa];exact⟨⟨k+1,a_⟩,by simp[hs,na,A.under],by show a.length-(k+1)<a.length-k;omega⟩)};{(have ay: ¬(k:Int)<(a.length:Int):=by omega);rw[ab (by omega)]at*;simp-implicitDefEqProofs (disch:=first|omega|decide) only[go_sem,↓reduceIte,seval,ay,aa];generalize hea:jm [] a=ea at*;simp only[bm]at hlen;refine aQ [1,4] (ι:={k:Nat//k<=b.length}) (fun p=>[(7,.int .i64 p.1),(5,slI (jm ea (b.take p.1)))]) (fun _=>[]) (fun p=>b.length-p.1) ⟨0,by omega⟩ (ak _) ?_ ?_;{simp-implicitDefEqProofs (disch:=first|omega|decide) only[go_sem,↓reduceIte,seval];simp[jm,BP]};{rintro⟨j,hj⟩;simp only;have hlen2:=tT ea (b.take j);(have htj:(b.take j).length=j:=by rw[aD];omega);by_cases mo:j<b.length;{(have F6:(j:Int)<(b.length:Int):=by omega);have e1:=run_get mo;have ht:b.take (j+1)=b.take j++[b[j]]:=(ao mo).symm;generalize hx:b[j]=x at*;obtain⟨f,t⟩:=x;have hs:=C6 ea (b.take j) ⟨f,t⟩;rw[<-ht]at hs;generalize EV:jm ea (b.take j)=es at*;cases h1:fK ⟨f,t⟩with|false=>(rw[h1]at hs;simp-implicitDefEqProofs (disch:=first|omega|decide) only[go_sem,↓reduceIte,seval,F6,e1,h1,wrap_i64,aa];exact⟨⟨j+1,mo⟩,by simp[hs,BP],by show b.length-(j+1)<b.length-j;omega⟩)|true=>(rw[h1,if_pos rfl]at hs;obtain⟨o1,o2,o3⟩:=nG h1;simp only at o1 o2 o3 hs;have p1:=z' es f;have na:=slI_ne (U8 (n_ es f) (t+1));simp-implicitDefEqProofs (disch:=first|omega|decide) only[go_sem,↓reduceIte,seval,F6,e1,h1,wrap_i64,aa];exact⟨⟨j+1,mo⟩,by simp[hs,na,A.under],by show b.length-(j+1)<b.length-j;omega⟩)};{(have F6: ¬(j:Int)<(b.length:Int):=by omega);rw[ab (by omega)]at*;(have na:jm ea b=df a b:=by rw[<-hea];rfl);simp-implicitDefEqProofs (disch:=first|omega|decide) only[go_sem,↓reduceIte,seval,F6,na,aa]}}}}
def XL:aN:=XK.add 183 (entry (fun(v:List bK×Int)=>[.aC (v.1.map bK.enc),.int .i64 v.2]) (fun v=>v.1.length<=4611686018427387904) (fun v=> .bool (aX v.1 v.2)))
theorem T13d_ok:aH Tryz.prog XL:=Vg.en Tryz.func183 fun v h=>OG v.1 v.2 h
theorem F7(v:List bK×Int)(h:v.1.length<=4611686018427387904):XL.f 183 [.aC (v.1.map bK.enc),.int .i64 v.2]=some (.bool (aX v.1 v.2)):=aN.en (Γ:=XK) v h
@[go_sem] theorem t_ref13_Has{l:List bK}{n:Int}(h:l.length<=4611686018427387904):XL.f 183 [.aC (l.map bK.enc),.int .i64 n]=some (.bool (aX l n)):=F7 (l,n) h
def SH:aN:=XL.add 246 (entry (fun(v:List bK×List bK)=>[.aC (v.1.map bK.enc),.aC (v.2.map bK.enc)]) (fun v=>v.1.length<=50000/\v.2.length<=50000) (fun v=> .aC ((df v.1 v.2).map (A.int .i64))))
theorem Vh:aH Tryz.prog SH:=T13d_ok.en Tryz.func246 fun v h=>Ii v.1 v.2 h.1 h.2
@[go_sem] theorem T13e_s:SH.nx XL 246:=⟨fun _ _ h=>aN.aS h,fun _=>rfl,fun _=>rfl,rfl,fun _=>rfl,rfl,fun _=>rfl,rfl⟩
theorem BQ(v:List bK×List bK)(h:v.1.length<=50000/\v.2.length<=50000):SH.f 246 [.aC (v.1.map bK.enc),.aC (v.2.map bK.enc)]=some (.aC ((df v.1 v.2).map (A.int .i64))):=aN.en (Γ:=XL) v h
@[go_sem] theorem t_ref13_Edges{a b:List bK}(h:a.length<=50000/\b.length<=50000):SH.f 246 [.aC (a.map bK.enc),.aC (b.map bK.enc)]=some (.aC ((df a b).map (A.int .i64))):=BQ (a,b) h
theorem F8{α:List A}{x v:A}: ∀{l:List A},fG (l++[x]) l.length v=l++[v]| []=>rfl|y::l=>by simp only[bF,aw,fG,F8 (α:=α)]
theorem mB{x:A}: ∀{l:List A},(l++[x])[l.length]? =some x| []=>rfl|y::l=>by simp[mB]
theorem Vi{l:List Int}{k:Nat}(h:k<l.length):(l.map (A.int .i64))[k]? =some (.int .i64 (l[k]!)):=by rw[aL,ad h,getElem!_pos l k h];rfl
def sJ(acc:List bK):List A:=acc.reverse.map bK.enc
theorem w5(q:bK)(qs:List bK):sJ (q::qs)=sJ qs++[.agg [.int .i64 q.f,.int .i64 q.t]]:=by simp[sJ,bK.enc,bK.cells]
theorem Ae(l:List bK):(sJ l).length=l.length:=by simp[sJ]
theorem OV:sJ []=[]:=rfl
def OW(op:Int):Prop:=op=1\/op=2\/op=3
theorem Ll(op:Int)(a b:List bK)(ho:OW op)(ha:a.length<=50000)(hb:b.length<=50000):bh Tryz.prog 223 [.int .i64 op,.aC (a.map bK.enc),.aC (b.map bK.enc)] (· = .aC ((fX (nR op a b)).map bK.enc)):=by refine aF Vh mixed Tryz.func223 ?_;unfold Tryz.f223;have Vj:=FW a b;have m_:=Lh op a b;have Af:=Aa op a b;have XG:=oW a b;have hrng: ∀k,k<(df a b).length->1<=(df a b)[k]! /\(df a b)[k]! <=1099511627777:=fun k hk=>tU (a:=a) (b:=b) (by rw[getElem!_pos _ k hk];exact aj _);simp-implicitDefEqProofs (disch:=first|omega|decide) only[go_sem,↓reduceIte,seval,aa,ha,hb];generalize he:df a b=e at*;refine cr 8 2 rfl ?_;refine aQ [0,1,2,6,7] (ι:={k:Nat//k<=e.length-1}) (fun p=>[(9,.int .i64 p.1),(8,.row 0 0 2 (BL (nR op a b) e p.1).length false)]) (fun p=>[(0,.row 2 (sJ (BL (nR op a b) e p.1)))]) (fun p=>e.length-p.1) ⟨0,by omega⟩ (ak _) ?_ ?_;{simp-implicitDefEqProofs (disch:=first|omega|decide) only[go_sem,↓reduceIte,seval,BL,OV];done};{rintro⟨k,hk⟩;simp only;have hlen:=Lg (nR op a b) e k;by_cases a_:k+1<e.length;{(have ay:(k:Int)+1<(e.length:Int):=by omega);have e1:=Vi (l:=e) (k:=k) (by omega);have e2:=Vi (l:=e) (k:=k+1) a_;obtain⟨s1,s2,s3,s4⟩:=Af k (by omega);have BR:=yF XG (kM k) a_;have r1:=hrng k (by omega);have r2:=hrng (k+1) a_;have hmk:BL (nR op a b) e (k+1)=if nR op a b (e[k]!)then gm (BL (nR op a b) e k) ⟨e[k]!,e[k+1]! -1⟩else BL (nR op a b) e k:=rfl;generalize hx:e[k]! =x at*;generalize hy:e[k+1]! =y at*;generalize hm:BL (nR op a b) e k=m at*;have hP:nR op a b x=opF op (aX a x) (aX b x):=rfl;(have t1:((k:Int)+1).toNat=k+1:=by omega);(have t2:(0:Int)<=(k:Int)+1:=by omega);(have t3:(0:Int)<=(k:Int):=by omega);(have skip:nR op a b x=false->BL (nR op a b) e (k+1)=m:=fun h=>by rw[hmk,h];rfl);have fin: ∀m',BL (nR op a b) e (k+1)=m'-> ∃j:{k:Nat//k<=e.length-1},(((k:Int)+1=(j.1:Int)/\m'.length=(BL (nR op a b) e j.1).length)/\sJ m'=sJ (BL (nR op a b) e j.1))/\e.length-j.1<e.length-k:=fun m' oB=>⟨⟨k+1,by omega⟩,⟨⟨by simp,by rw[oB]⟩,by rw[oB]⟩,by show e.length-(k+1)<e.length-k;omega⟩;cases hp:nR op a b x with|false=>(have hs:=skip hp;rcases ho with rfl|rfl|rfl<;>cases hax:aX a x<;>cases hbx:aX b x<;>rw[hax,hbx]at hP<;>simp[opF,hp]at hP<;>simp-implicitDefEqProofs (maxSteps:=9^6) (disch:=first|omega|decide) only[go_sem,↓reduceIte,seval,ay,e1,e2,hax,hbx,t1,t2,t3,wrap_i64,aa];all_goals exact fin m hs)|true=>((have hs:BL (nR op a b) e (k+1)=gm m ⟨x,y-1⟩:=by rw[hmk,hp];rfl);have qQ:=fin _ hs;cases m with|nil=>(rw[OV];rcases ho with rfl|rfl|rfl<;>cases hax:aX a x<;>cases hbx:aX b x<;>rw[hax,hbx]at hP<;>simp[opF,hp]at hP<;>simp-implicitDefEqProofs (maxSteps:=9^6) (disch:=first|omega|decide) only[go_sem,↓reduceIte,seval,ay,e1,e2,hax,hbx,t1,t2,t3,wrap_i64,aa];all_goals exact qQ)|cons q qs=>(have hqt:q.t<x:=s2;rw[w5]at*;have OX:qs.length+1<=k:=hlen;(have c0:(0:Int)<((qs.length+1:Nat):Int):=by omega);(have c1:(((qs.length+1:Nat):Int)-1).toNat=qs.length:=by omega);(have c2:(0:Int)<=((qs.length+1:Nat):Int)-1:=by omega);(have c3:((qs.length+1:Nat):Int)-1<((qs.length+1:Nat):Int):=by omega);(have g1:(sJ qs++[A.agg [.int .i64 q.f,.int .i64 q.t]])[qs.length]? =some (.agg [.int .i64 q.f,.int .i64 q.t]):=by have:=mB (x:=A.agg [.int .i64 q.f,.int .i64 q.t]) (l:=sJ qs);rwa [Ae]at this);(have g2: ∀v,fG (sJ qs++[A.agg [.int .i64 q.f,.int .i64 q.t]]) qs.length v=sJ qs++[v]:=fun v=>by have:=F8 (x:=A.agg [.int .i64 q.f,.int .i64 q.t]) (v:=v) (l:=sJ qs) (α:=[]);rwa [Ae]at this);(have gl:(sJ qs++[A.agg [.int .i64 q.f,.int .i64 q.t]]).length=qs.length+1:=by rw[ai,Ae];rfl);have gt:(sJ qs++[A.agg [.int .i64 q.f,.int .i64 q.t]]).take (qs.length+1)=sJ qs++[A.agg [.int .i64 q.f,.int .i64 q.t]]:=ab (dm gl);cases hq:(q.t==x-1)with|true=>((have Nn:q.t=x-1:=by simpa using hq);(have Lm:gm (q::qs) ⟨x,y-1⟩=⟨q.f,y-1⟩::qs:=by simp only[gm];rw[if_pos (by omega),if_pos (by omega)]);rw[Lm,w5]at qQ;rcases ho with rfl|rfl|rfl<;>cases hax:aX a x<;>cases hbx:aX b x<;>rw[hax,hbx]at hP<;>simp[opF,hp]at hP<;>simp-implicitDefEqProofs (maxSteps:=9^6) (disch:=first|omega|decide) only[go_sem,↓reduceIte,seval,ay,e1,e2,hax,hbx,t1,t2,t3,c0,c1,c2,c3,g1,g2,hq,wrap_i64,aa];all_goals exact qQ)|false=>((have Nn:q.t≠x-1:=by simpa using hq);(have Lm:gm (q::qs) ⟨x,y-1⟩=⟨x,y-1⟩::q::qs:=by simp only[gm];rw[if_neg (by omega)]);rw[Lm,w5,w5]at qQ;rcases ho with rfl|rfl|rfl<;>cases hax:aX a x<;>cases hbx:aX b x<;>rw[hax,hbx]at hP<;>simp[opF,hp]at hP<;>simp-implicitDefEqProofs (maxSteps:=9^6) (disch:=first|omega|decide) only[go_sem,↓reduceIte,seval,ay,e1,e2,hax,hbx,t1,t2,t3,c0,c1,c2,c3,g1,g2,gl,gt,hq,wrap_i64,aa];all_goals exact⟨⟨ah _,by omega⟩,qQ⟩)))};{(have ay: ¬(k:Int)+1<(e.length:Int):=by omega);(have mT:k=e.length-1:=by omega);subst mT;(have na:(sJ (BL (nR op a b) e (e.length-1)))=(fX (nR op a b)).map bK.enc:=by unfold sJ;rw[m_]);(have Ee:(BL (nR op a b) e (e.length-1)).length=(sJ (BL (nR op a b) e (e.length-1))).length:=by rw[Ae]);simp-implicitDefEqProofs (disch:=first|omega|decide) only[go_sem,↓reduceIte,seval,ay,wrap_i64,Ee,aa,bC];rw[na];exact⟨ah _,rfl⟩}}
end Go.Proofs.YtfnohjheonlnmaaGreat
namespace Go.eC
theorem JK{P:Program}{f:FuncId}{xs:List A}{S:List Nat}(k:Nat)(h:ja P f xs [] .eo [] S):ja P f xs [] (.row 0 0 k 0 false) [.row k []] S:=by intro N φ w vs hN mL dP gq;refine Calls.mono (h N φ w vs hN mL dP gq) ?_;rintro e w' ⟨v,kq,rfl,hv,hrel',ht,hl⟩;have e1:φ=[]:=aR.1 mL.len;have e2:kq=[]:=aR.1 hrel'.len;subst e1;subst e2;refine⟨v,[.nil],rfl, ?_, ?_, ?_,ak _⟩;{simp only[bV]at hv⊢;exact .inl ⟨.nil,rfl,by simp,trivial,fun _=>trivial,none,hv⟩};{exact{len:=rfl,ia:=fun n o p ho hp=>by cases n with|succ n=>(simp[fj]at ho)|zero=>(simp only[fj,ba]at ho;simp at hp;subst ho;subst hp;simp[cg]),own:=fun n b k' hn=>by cases n<;>simp at hn,inj:=fun n m b k' HR hn=>by cases n<;>simp at hn}};{exact{os:=ht.os,tape:=ht.tape,output:=ht.output,drawn:=ht.drawn,size:=ht.size,block:=ht.block,shape:=ht.shape,own:=fun n b k' hn=>by cases n<;>simp at hn,stay:=fun n p _ hn=>by simp at hn}}
theorem JL{P:Program}{f:FuncId}{H H':List Obj}{r:A}{S:List Nat}(h1:ja P f [.emp true] H r H' S)(h2:ja P f [.emp false] H r H' S):ja P f [.aC []] H r H' S:=fun N φ w vs hN mL dP hr=>by simp only[cJ,bV]at hr;obtain⟨v,_,rfl,⟨_,a,cap,rfl,_,_⟩,rfl⟩:=hr;cases a with|none=>(exact h1 N φ w _ hN mL dP (by simp only[cJ,bV];exact⟨_,_,rfl,⟨none,cap,rfl,rfl⟩,rfl⟩))|some q=>(exact h2 N φ w _ hN mL dP (by simp only[cJ,bV];exact⟨_,_,rfl,⟨some q,cap,rfl,rfl⟩,rfl⟩))
theorem F9{P:Program}{f:FuncId}{xs ys:List A}{r:A}(h:bh P f ys (· =r))(hx: ∀(E:Env) (vs:List Value),cJ E xs vs->cJ E ys vs)(hp:r.pure=true):ja P f xs [] r [] []:=by intro N φ w vs hN mL dP gq;have e1:φ=[]:=aR.1 mL.len;subst e1;(have SI: ∀b,(bB N [] w).N b->b<w.heap.size:=fun b hb=>by rcases hb with hb|⟨n,k,hn⟩;{exact hN b hb};{simp at hn});refine Calls.mono (h (bB N [] w).N w vs SI (hx _ _ gq)) ?_;rintro e w' ⟨v,r',rfl,rfl,hr,hg⟩;refine⟨v,[],rfl, ?_, ?_, ?_,ah _⟩;{exact hr};{exact{len:=rfl,ia:=fun n o p ho=>by cases n<;>simp[fj]at ho,own:=fun n b k hn=>by simp at hn,inj:=fun n m b k k' hn=>by simp at hn}};{exact{os:=hg.os,tape:=hg.tape,output:=hg.output,drawn:=hg.drawn,size:=hg.size,block:=fun b hb _=>hg.block b hb,shape:=fun b c e fr hb=>⟨c,fr,by rw[hg.block b (bR.1 hb).1];exact hb,rfl⟩,own:=fun n b k hn=>by simp at hn,stay:=fun n p _ hn=>hn}}
theorem Ln{E:Env}{es:List A}{v:Value}(h:bV E (.clip es) v):bV E (.aC es) v:=by simp only[bV]at h⊢;obtain⟨hp,a,hv,hl⟩:=h;exact⟨hp,a,_,hv,ah _,hl⟩
theorem mC{x v:A}: ∀{l:List A},fG (l++[x]) l.length v=l++[v]| []=>rfl|y::l=>by simp only[bF,aw,fG,mC]
theorem mB{x:A}: ∀{l:List A},(l++[x])[l.length]? =some x| []=>rfl|y::l=>by simp[mB]
open Go.RowKit
structure OY(b:Nat)(D:List Value)(w w':World):Prop where
 os:w'.os=w.os
 tape:w'.tape=w.tape
 output:w'.output=w.output
 drawn:w.drawn<=w'.drawn
 size:w.heap.size<=w'.heap.size
 block: ∀c,c<w.heap.size->c≠b->w'.heap[c]? =w.heap[c]?
 self: ∀(cc:Array Value) (e:TypeId) (fr:Nat×Nat),w.heap[b]? =some (.cells cc e fr)-> ∃NP,w'.heap[b]? =some (.cells NP e fr)/\NP.size=cc.size
 cells:w'.rangeAt b 0 D
theorem Ag{P:Program}{f g:FuncId}{k:Nat}{c:Bool}{es Dt:List A}{D:List Value}(hk:0<k)(hD: ∀E,bI E k Dt D)(hp:A.pure.cX Dt=true)(h1: ∀u∈D,u.oneCell'=true)(hlen:Dt.length=es.length)(KS:es=[]-> ∀(w:World) (q:Option Addr) (cap:Nat),Calls P f #[.slice q 0 cap,.func (.func g) #[] #[]] w fun e w'=>e= .returned (.tuple #[])/\w'=w)(vm: ∀(E:Env) (b cap:Nat) (cc:Array Value) (e:TypeId) (fr:Nat×Nat),es≠ []->E.w.heap[b]? =some (.cells cc e fr)->sr cc fr->j7 E k b 0 es->k*cap<=cc.size->es.length<=cap->Calls P f #[.slice (some ⟨b,0,none⟩) es.length cap,.func (.func g) #[] #[]] E.w fun e w'=>e= .returned (.tuple #[])/\OY b D E.w w'):ja P f [.row 0 0 k es.length c,.fn g []] [.row k es] (.eU []) [.row k Dt] []:=by intro N φ w vs hN mL dP gq;simp only[cJ]at gq;obtain⟨v0,_,rfl,hv0,v1,_,rfl,hv1,rfl⟩:=gq;simp only[bV,cJ]at hv1;obtain⟨us,rfl,rfl⟩:=hv1;have hφl:φ.length=1:=mL.len;(have stay: ∀(w':World),w'=w-> ∃v kq,(Ending.returned (.tuple #[]):Ending)= .returned v/\bV (bB N kq w') (.eU []) v/\tC N kq [.row k es] w'/\NY φ w [] kq w'/\1<=1:=by rintro w' rfl;exact⟨_,φ,rfl,by simp[bV,cJ],mL,⟨rfl,rfl,rfl,ah _,ah _,fun _ _ _=>rfl,fun _ c _ fr h=>⟨c,fr,h,rfl⟩,fun n b k hn=> .inr ⟨n,k,hn⟩,fun _ _ _ h=>h⟩,ah _⟩);(have zN:es=[]-> ∀(q:Option Addr) (cap:Nat),Calls P f #[.slice q 0 cap,.func (.func g) #[] #[]] w fun e w'=> ∃v kq,e= .returned v/\bV (bB N kq w') (.eU []) v/\tC N kq [.row k Dt] w'/\NY φ w [] kq w'/\ [Obj.row k es].length<=[Obj.row k Dt].length:=by intro EV q cap;(have hes':Dt=es:=by subst EV;exact aR.1 (by simpa using hlen));rw[hes'];refine Calls.mono (KS EV w q cap) ?_;rintro e w' ⟨rfl,hw⟩;exact stay w' hw);by_cases EV:es=[];{(have hl0:es.length=0:=by rw[EV];rfl);simp only[bV]at hv0;rcases hv0 with⟨o,_,_,_,_,q,rfl⟩|⟨b,cap,c',e',fr,ly,rfl,wF,_,hb,H0⟩;{exact zN EV q 0};{rw[hl0];exact zN EV _ cap}};{simp only[bV]at hv0;rcases hv0 with⟨o,_,_,h0,_⟩|⟨b,cap,c',e',fr,ly,rfl,wF,_,hb,H0⟩;{exact absurd (aR.1 h0) EV};{have lz:=mL.ia 0 (.row k es) (.loc b k) rfl ly;simp only[cg]at lz;obtain⟨_,Nf,⟨cc,ee,ffr,Ri,XM⟩,hE⟩:=lz;have vi:w.heap[b]? =some (.cells c' e' fr):=hb;have vl:w.heap[b]? =some (.cells cc ee ffr):=Ri;rw[vi]at vl;simp only[ba,Go.Obj.cells.injEq]at vl;obtain⟨rfl,rfl,rfl⟩:=vl;rw[kf]at H0⊢;refine Calls.mono (vm (bB N φ w) b cap c' e' fr EV vi XM hE (by omega) wF) ?_;rintro e w' ⟨rfl,hT⟩;obtain⟨NP,vl,qn⟩:=hT.self c' e' fr vi;have hwid:w'.heap.size>=w.heap.size:=hT.size;refine⟨_,φ,rfl,by simp[bV,cJ], ?_, ?_,ah _⟩;{exact{len:=by simpa using hφl,ia:=fun n o p ho u'=>by cases n with|succ n=>(simp[fj]at ho)|zero=>(simp only[fj,ba]at ho;subst ho;have KH:φ[0]? =some (iv.loc b k):=ly;rw[KH]at u';obtain rfl:=ag u';simp only[cg];refine⟨trivial,hp,⟨NP,e',fr,vl,fun j hj=>XM j (by omega)⟩, ?_⟩;exact bI.mem (hD (bB N φ w')) hT.cells h1),own:=fun n b' k' hn=>⟨cH (mL.own n b' k' hn).1 hT.size,(mL.own n b' k' hn).2⟩,inj:=mL.inj}};{exact{os:=hT.os,tape:=hT.tape,output:=hT.output,drawn:=hT.drawn,size:=hT.size,block:=fun b' vi rY=>hT.block b' vi fun e=>by subst e;exact rY 0 k ly,shape:=fun b' c₁ e₁ fr₁ h₁=>by by_cases hbb:b'=b;{subst hbb;obtain⟨c₂,h₂,h₃⟩:=hT.self c₁ e₁ fr₁ h₁;exact⟨c₂,fr₁,h₂,h₃⟩};{have:b'<w.heap.size:=(bR.1 h₁).1;exact⟨c₁,fr₁,by rw[hT.block b' this hbb];exact h₁,rfl⟩},own:=fun n b' k' hn=> .inr ⟨n,k',hn⟩,stay:=fun _ _ _ h=>h}}}}
def mN:A->Value| .int k n=> .int k n| .bool b=> .bool b| .str s=> .string ⟨s.toArray⟩|_=>undef
def scalar:A->Bool| .int _ _=>true| .bool _=>true| .str _=>true|_=>false
theorem oZ{E:Env}{x:A}{v:Value}(h:scalar x=true):bV E x v ↔ v=mN x:=by cases x<;>simp[scalar]at h<;>simp[bV,mN]
theorem yG{x:A}(h:scalar x=true):(mN x).oneCell'=true:=by cases x<;>simp[scalar]at h<;>rfl
theorem C_{x:A}(h:scalar x=true):x.pure=true:=by cases x<;>simp[scalar]at h<;>simp[A.pure]
theorem qd{E:Env}: ∀{xs:List A},(∀x∈xs,scalar x=true)->cJ E xs (xs.map mN)| [],_=>by simp[cJ]|x::xs,h=>by simp only[aP,cJ];exact⟨_,_,rfl,(oZ (h x (by simp))).2 rfl,qd fun y hy=>h y (by simp[hy])⟩
theorem xP: ∀{xs:List A},(∀x∈xs,scalar x=true)->A.pure.cX xs=true| [],_=>rfl|x::xs,h=>by simp only[A.pure.cX,ae];exact⟨C_ (h x (by simp)),xP fun y hy=>h y (by simp[hy])⟩
theorem C'{α:Type}{k:Nat}(hk:0<k): ∀{ls:List (List α)},(∀l∈ls,l.length=k)-> ∀j:Nat,ls.flatten[j]? =(ls[j/k]?).bind fun l=>l[j % k]?| [],_,j=>by simp|l::ls,h,j=>by have hl:=h l (by simp);rw[iS];by_cases hj:j<k;{rw[cm (by omega),Nat.div_eq_of_lt hj,kL hj];simp};{rw[bY (by omega),C' hk (fun x hx=>h x (by simp[hx])) (j-l.length),hl];(have h1:j/k=(j-k)/k+1:=by rw[Nat.div_eq_sub_div hk (by omega)]);(have h2:j % k=(j-k) % k:=by rw[Nat.mod_eq_sub_mod (by omega)]);rw[h1,h2];simp}
theorem Da{E:Env}{k:Nat}{β:Type}{enc:β->List A}(hk: ∀x,(enc x).length=k)(hs: ∀x,∀a∈enc x,scalar a=true): ∀l:List β,bI E k (l.map fun x=> .agg (enc x)) ((l.map fun x=>(enc x).map mN).flatten)| []=>by simp[bI]|x::l=>by (have h1:((enc x).map mN).length=k:=by rw[aa,hk]);simp only[aP,bI,A.cells,iS];refine⟨hk x,by rw[ai];omega, ?_, ?_⟩;{rw[cA (by omega),ab (by omega)];exact qd (hs x)};{rw[eE (by omega),ax (by omega)];exact Da hk hs l}
theorem F_{E:Env}{β:Type}{enc:β->A}(hs: ∀x,scalar (enc x)=true): ∀l:List β,bI E 1 (l.map enc) (l.map fun x=>mN (enc x))| []=>by simp[bI]|x::l=>by (have hc:(enc x).cells=[enc x]:=by have:=hs x;cases h:enc x<;>rw[h]at this<;>simp[scalar]at this<;>rfl);simp only[aP,bI,hc];refine⟨rfl,by simp, ?_, ?_⟩;{simp only[ig,iZ,cJ];exact⟨_,[],rfl,(oZ (hs x)).2 rfl,rfl⟩};{simpa using F_ hs l}
theorem BS{β:Type}{f:β->A}(h: ∀x,(f x).pure=true): ∀l:List β,A.pure.cX (l.map f)=true| []=>rfl|x::l=>by simp[A.pure.cX,h x,BS h l]
open Go.Sort in theorem JM{w w':World}(g:j_ w w'): ∃q os,w'=Sort.grow (w.drewN q) os:=by refine⟨w'.drawn-w.drawn,w'.heap.extract w.heap.size w'.heap.size, ?_⟩;(have hh:w.heap++w'.heap.extract w.heap.size w'.heap.size=w'.heap:=by have qn:=g.size;apply Array.ext_getElem?;intro i;by_cases hi:i<w.heap.size;{rw[fP hi,g.block i hi]};{rw[Array.getElem?_append_right (by omega),Array.getElem?_extract];by_cases h2:i<w'.heap.size;{rw[if_pos (by omega),show w.heap.size+(i-w.heap.size)=i by omega]};{rw[if_neg (by omega),Array.getElem?_eq_none (by omega)]}});have hd:=g.drawn;unfold Sort.grow World.drewN;rw[show w.drawn+(w'.drawn-w.drawn)=w'.drawn by omega];obtain⟨heap,tape,drawn,os,output⟩:=w';have h1:=g.os;have h2:=g.tape;have h3:=g.output;simp only at h1 h2 h3 hh⊢;rw[hh,h1,h2,h3]
open Go.Sort in
theorem Db{w:World}{b n:Nat}{F F0:Array Value}{os:Array Go.Obj}(h0:Holds id w b 0 F0)(hs:F.size=F0.size)(hb:b<w.heap.size):OY b F.toList w (Sort.grow (putRow id (Sort.ahead w n) b 0 F) os) where
 os:=rfl
 tape:=rfl
 output:=rfl
 drawn:=Nat.le_add_right _ _
 size:=by show w.heap.size<=((w.heap.modify b _)++os).size;simp
 block:=fun c hc dL=>by show((w.heap.modify b _)++os)[c]? =_;rw[fP (by simpa using hc),Array.getElem?_modify,if_neg (dA dL)]
 self:=fun cc e fr Ri=>by
  refine⟨putCells id 0 F cc, ?_,by simp[putCells]⟩
  show((w.heap.modify b _)++os)[b]? =_;rw[fP (by simpa using hb),Array.getElem?_modify,if_pos rfl,Ri]
  rfl
 cells:=fun j v hj=>by
  have hjF:j<F.size:=by have:=(an.1 hj).1;simpa using this
  have h1:=cell?_putRow id (Sort.ahead w n) b 0 F0 F (holds_ahead id w n b 0 F0 h0) hs j hjF
  have h2:(Sort.grow (putRow id (Sort.ahead w n) b 0 F) os).cell? ⟨b,0+j,none⟩=(putRow id (Sort.ahead w n) b 0 F).cell? ⟨b,0+j,none⟩:=by
   unfold World.cell?;show(match((putRow id (Sort.ahead w n) b 0 F).heap++os)[b]? with|some (.cells c _ _)=>_|_=>none)=_;rw[fP (by simpa using hb)]
   rfl
  rw[h2,h1]
  have:F[j]! =v:=by
   rw[getElem!_pos F j hjF]
   have:=(an.1 hj).2;simpa using this
  rw[this];rfl
theorem Dc{w:World}{b:Nat}{c:Array Value}{e:TypeId}{fr:Nat×Nat}(hb:w.heap[b]? =some (.cells c e fr))(hf:sr c fr){j:Nat}(hj:j<c.size):w.frozen? ⟨b,j,none⟩=false:=by have:=(vk (w:=w) (b:=b) (off:=j) (n:=1) hb hf (by omega) 0 (by omega)).2;simpa using this
def im{β:Type} [Inhabited β](cf:β->β->Int)(l:List β):List β:=(Sort.pdq (Go.Proofs.ltOf cf) l.toArray 0 l.toArray.size (Lib.bitLen l.toArray.size) true true).toList
theorem jn{β:Type} [Inhabited β]{cf:β->β->Int}(hO:Sort.SWO (Go.Proofs.ltOf cf))(l:List β):(im cf l).Perm l/\(im cf l).Pairwise (fun x y=> ¬cf y x<0):=by obtain⟨⟨h1,_,h3⟩,h4⟩:=Sort.pdq_sorts (Go.Proofs.ltOf cf) hO l.toArray 0 l.toArray.size (Lib.bitLen l.toArray.size) true true (ak _) (ah _) (Or.inl rfl);refine⟨?_, ?_⟩;{unfold im;(have e: ∀d:Array β,d.size=l.toArray.size->d.extract 0 l.toArray.size=d:=fun d hd=>by rw[<-hd];simp);rw[e _ h1,e _ rfl]at h3;simpa using h3};{unfold im;rw[ca];intro i j hi hj BB;(have Be:j<l.toArray.size:=by rw[<-h1];simpa using hj);have:=h4 i j (ak _) BB Be;(have hi2:i<(Sort.pdq (Go.Proofs.ltOf cf) l.toArray 0 l.toArray.size (Lib.bitLen l.toArray.size) true true).size:=by simpa using hi);(have hj2:j<(Sort.pdq (Go.Proofs.ltOf cf) l.toArray 0 l.toArray.size (Lib.bitLen l.toArray.size) true true).size:=by simpa using hj);rw[getElem!_pos _ i hi2,getElem!_pos _ j hj2]at this;simpa[Go.Proofs.ltOf]using this}
open Go.Shelf Go.Lib Go.Sort Go.Proofs in
/-- slices.SortFunc of structs, by a function that captures nothing. -/
theorem vR{P:Program}{ρ:Ren}{β:Type} [Inhabited β](L:SlLaysF0.n6 P ρ){k:Nat}(zw:0<k)(aE: ∀w,(isAgg (ρ.t 24)).run P w= .ok true w)(zE: ∀w,(Go.sizeOf (ρ.t 24)).run P w= .ok k w)(enc:β->List A)(hk: ∀x,(enc x).length=k)(hs: ∀x,∀a∈enc x,scalar a=true)
 (cf:β->β->Int) (hO:SWO (ltOf cf)) {g:FuncId} (hg:nZ P g) (hcmp: ∀x y,bh P g [.agg (enc x),.agg (enc y)] (· = .int .i64 (cf x y))) (l:List β) (qn:l.length<4611686018427387904) (c:Bool):
 ja P (ρ.f 6) [.row 0 0 k l.length c,.fn g []] [.row k (l.map fun x=> .agg (enc x))] (.eU []) [.row k ((im cf l).map fun x=> .agg (enc x))] []:=by
 have hperm:=(jn hO l).1;have XN:(l.map fun x=>A.agg (enc x)).length=l.length:=aa _;have hle: ∀x,((enc x).map mN).length=k:=fun x=>by rw[aa,hk]
 have gT: ∀x,∀v∈(enc x).map mN,v.oneCell'=true:=fun x v hv=>by obtain⟨a,ha,rfl⟩:=bS.1 hv;exact yG (hs x a ha)
 have:=Ag (P:=P) (f:=ρ.f 6) (g:=g) (k:=k) (c:=c) (es:=l.map fun x=>A.agg (enc x)) (Dt:=(im cf l).map fun x=>A.agg (enc x)) (D:=((im cf l).map fun x=>(enc x).map mN).flatten) zw
  (fun E=>Da hk hs _) (BS (fun x=>by simp only[A.pure];exact xP (hs x)) _) (fun u hu=>by obtain⟨ys,CD,hu⟩:=List.mem_flatten.1 hu;obtain⟨x,_,rfl⟩:=bS.1 CD;exact gT x u hu) (by rw[aa,aa];exact hperm.length_eq)
  (fun _ w q cap=>AnyF.slices_SortFunc_none L q cap _ w) ?_
 · rw[XN]at this;exact this
 intro E b cap cc e fr dL hb XM hE H0 wF;rw[XN]at wF⊢;have hbs:b<E.w.heap.size:=(bR.1 hb).1;have hmul:l.length*k<=cc.size:=bf (by rw[jh];exact Nat.mul_le_mul_left _ wF) H0
 have hH:HoldsK (fun x=>(enc x).map mN) k E.w b 0 l.toArray:=by
  intro j hj;rw[size_flatK]at hj;have Be:j<l.length*k:=by simpa using hj
  have hq:j/k<l.length:=(kE zw).2 Be;have hr:j % k<k:=l6 _ zw;refine⟨?_,by rw[bM];exact Dc hb XM (by omega)⟩
  obtain⟨_,hM⟩:=ij.1 hE (j/k) (.agg (enc l[j/k])) (by simp[hq])
  have hrl:j % k<(enc l[j/k]).length:=by rw[hk];exact hr
  obtain⟨v,hv,_,gq⟩:=de.1 hM (j % k) _ (ad (by simpa[A.cells]using hrl))
  have Bs:=(oZ (hs _ _ (aj _))).1 gq;rw[show 0+j/k*k+j % k=0+j by rw[bM,bM,jh];exact Nat.div_add_mod j k]at hv;rw[hv,Bs,get_flatK _ _ _ _ hj]
  simp only[id]
  have e1:l.toArray[j/k]! =l[j/k]:=by rw[getElem!_pos _ _ (by simpa using hq)];simp
  rw[e1,getElem!_pos _ _ (by rw[aa];exact hrl)]
  simp only[A.cells,List.getElem_map]
  rfl
 have nS:CmpLays P g #[] (fun x=>(enc x).map mN) k cf b 0 l.toArray.size E.w:=by
  intro m os dk hdk x y
  have gq:cJ ⟨fun _=>False,[],sortWorldK (fun x=>(enc x).map mN) k E.w b 0 m dk os⟩ [.agg (enc x),.agg (enc y)] [.agg ((enc x).map mN).toArray,.agg ((enc y).map mN).toArray]:=by
   simp only[cJ,bV]
   exact⟨_,_,rfl,⟨_,rfl,qd (hs x),gT x⟩,_,_,rfl,⟨_,rfl,qd (hs y),gT y⟩,rfl⟩
  refine Calls.mono (hcmp x y (fun _=>False) _ _ (fun b h=>h.elim) gq) ?_;rintro e w' ⟨v,r,rfl,rfl,hr,hgr⟩
  simp only[bV]at hr;subst hr;exact⟨rfl,JM hgr⟩
 have OZ:=AnyQ.slices_SortFunc_eq L k aE zE (fun x=>(enc x).map mN) hle gT cf hO g #[] b 0 cap l.toArray E.w (fun args w=>pW hg args w) nS hH hbs (by simpa using qn)
 have O0:(pdq (ltOf cf) l.toArray 0 l.toArray.size (Lib.bitLen l.toArray.size) true true).size=l.toArray.size:=(pdq_sorts (ltOf cf) hO l.toArray 0 l.toArray.size (Lib.bitLen l.toArray.size) true true (ak _) (ah _) (Or.inl rfl)).1.1;have te:l.toArray.size=l.length:=by simp
 rw[te]at OZ;refine Calls.mono OZ ?_;rintro e w' ⟨rfl,n,os,rfl⟩
 refine⟨rfl, ?_⟩
 have zy:((im cf l).map fun x=>(enc x).map mN).flatten=(flatK (fun x=>(enc x).map mN) k (pdq (ltOf cf) l.toArray 0 l.length (Lib.bitLen l.length) true true)).toList:=by
  rw[te]at O0;have hsl2:(im cf l)=(pdq (ltOf cf) l.toArray 0 l.length (Lib.bitLen l.length) true true).toList:=by unfold im;rw[te]
  rw[hsl2]
  generalize pdq (ltOf cf) l.toArray 0 l.length (Lib.bitLen l.length) true true=d at O0⊢;apply km;intro j;rw[C' zw (fun ys CD=>by obtain⟨x,_,rfl⟩:=bS.1 CD;exact hle x)]
  by_cases hj:j<d.size*k
  · have hq:j/k<d.size:=(kE zw).2 hj
    have hr:j % k<k:=l6 _ zw;have e1:(flatK (fun x=>(enc x).map mN) k d).toList[j]? =some ((flatK (fun x=>(enc x).map mN) k d)[j]!):=by rw[getElem!_pos _ j (by rw[size_flatK];exact hj)];simp[hj]
    rw[e1,get_flatK _ _ _ _ hj]
    rw[getElem!_pos d _ hq]
    have Nn:j/k<d.toList.length:=by simpa using hq
    simp only[aL,ad Nn,dR,aW]
    rw[getElem!_pos _ _ (by simp only[aa,hk];exact hr)]
    rw[ad (by simp only[aa,hk];exact hr)]
    simp
  · have hq:d.size<=j/k:=by
     rcases f_ (j/k) d.size with h|h
     · exact absurd ((kE zw).1 h) hj
     · exact h
    have e1:(flatK (fun x=>(enc x).map mN) k d).toList[j]? =none:=by rw[eJ];rw[il,size_flatK];omega
    rw[e1]
    simp[hq]
 rw[zy]
 unfold sortWorldK putRowK;exact Db hH (by rw[size_flatK,size_flatK];rw[te]at O0;rw[O0,te]) hbs
open Go.Shelf Go.Lib Go.Sort Go.Proofs in
/-- slices.SortFunc of scalars. -/
theorem O2{P:Program}{ρ:Ren}{β:Type} [Inhabited β](L:SlLaysF.n6 P ρ)(L0:SlLaysF0.n6 P ρ)(enc:β->A)(hs: ∀x,scalar (enc x)=true)
 (cf:β->β->Int) (hO:SWO (ltOf cf)) {g:FuncId} (hg:nZ P g) (hcmp: ∀x y,bh P g [enc x,enc y] (· = .int .i64 (cf x y))) (l:List β) (qn:l.length<4611686018427387904) (c:Bool):
 ja P (ρ.f 6) [.row 0 0 1 l.length c,.fn g []] [.row 1 (l.map enc)] (.eU []) [.row 1 ((im cf l).map enc)] []:=by
 have hperm:=(jn hO l).1;have XN:(l.map enc).length=l.length:=aa _;have hcell: ∀x,(enc x).cells=[enc x]:=fun x=>by have:=hs x;cases h:enc x<;>rw[h]at this<;>simp[scalar]at this<;>rfl
 have:=Ag (P:=P) (f:=ρ.f 6) (g:=g) (k:=1) (c:=c) (es:=l.map enc) (Dt:=(im cf l).map enc) (D:=(im cf l).map fun x=>mN (enc x)) (by omega)
  (fun E=>F_ hs _) (BS (fun x=>C_ (hs x)) _) (fun u hu=>by obtain⟨x,_,rfl⟩:=bS.1 hu;exact yG (hs x)) (by rw[aa,aa];exact hperm.length_eq)
  (fun _ w q cap=>AnyF.slices_SortFunc_none L0 q cap _ w) ?_
 · rw[XN]at this;exact this
 intro E b cap cc e fr dL hb XM hE H0 wF;rw[XN]at wF⊢;have hbs:b<E.w.heap.size:=(bR.1 hb).1
 have hH:Holds (fun x=>mN (enc x)) E.w b 0 l.toArray:=by
  intro j hj;have Be:j<l.length:=by simpa using hj
  refine⟨?_,by rw[bM];exact Dc hb XM (by omega)⟩
  obtain⟨_,hM⟩:=ij.1 hE j (enc l[j]) (by simp[Be])
  rw[hcell]at hM;obtain⟨v,hv,_,gq⟩:=NF.1 hM;have Bs:=(oZ (hs _)).1 gq;rw[Nat.mul_one]at hv;rw[hv,Bs,getElem!_pos l.toArray j hj];simp
 have nS:CmpLays1 P g #[] (fun x=>mN (enc x)) cf b 0 l.toArray.size E.w:=by
  intro m os dk hdk x y
  have gq:cJ ⟨fun _=>False,[],sortWorld (fun x=>mN (enc x)) E.w b 0 m dk os⟩ [enc x,enc y] [mN (enc x),mN (enc y)]:=by
   simp only[cJ]
   exact⟨_,_,rfl,(oZ (hs x)).2 rfl,_,_,rfl,(oZ (hs y)).2 rfl,rfl⟩
  refine Calls.mono (hcmp x y (fun _=>False) _ _ (fun b h=>h.elim) gq) ?_;rintro e w' ⟨v,r,rfl,rfl,hr,hgr⟩
  simp only[bV]at hr;subst hr;exact⟨rfl,JM hgr⟩
 have OZ:=Any.slices_SortFunc_eq L (fun x=>mN (enc x)) (fun x=>yG (hs x)) cf hO g #[] b 0 cap l.toArray E.w (fun args w=>pW hg args w) nS hH hbs (by simpa using qn)
 have O0:(pdq (ltOf cf) l.toArray 0 l.toArray.size (Lib.bitLen l.toArray.size) true true).size=l.toArray.size:=(pdq_sorts (ltOf cf) hO l.toArray 0 l.toArray.size (Lib.bitLen l.toArray.size) true true (ak _) (ah _) (Or.inl rfl)).1.1;have te:l.toArray.size=l.length:=by simp
 rw[te]at OZ O0;refine Calls.mono OZ ?_;rintro e w' ⟨rfl,n,os,rfl⟩
 refine⟨rfl, ?_⟩
 have hsl2:(im cf l)=(pdq (ltOf cf) l.toArray 0 l.length (Lib.bitLen l.length) true true).toList:=by unfold im;rw[te]
 rw[hsl2]
 generalize pdq (ltOf cf) l.toArray 0 l.length (Lib.bitLen l.length) true true=d at O0⊢
 have hput: ∀(w:World) (d:Array β),putRow (fun x=>mN (enc x)) w b 0 d=putRow id w b 0 (d.map fun x=>mN (enc x)):=fun w d=>by
  unfold putRow
  congr 1
  funext c
  unfold putCells;apply Array.ext
  · simp
  · intro i h1 h2
    simp only[Array.getElem_mapIdx,Array.size_map,ak,true_and,bM,Nat.sub_zero,id]
    split
    · rename_i hi
      rw[getElem!_pos d i hi,getElem!_pos _ i (by simpa using hi)];simp
    · rfl
 have hH':Holds id E.w b 0 (l.toArray.map fun x=>mN (enc x)):=fun j hj=>by
  have Be:j<l.toArray.size:=by simpa using hj
  obtain⟨h1,h2⟩:=hH j Be;refine⟨?_,h2⟩
  rw[h1,getElem!_pos l.toArray j Be,getElem!_pos (l.toArray.map fun x=>mN (enc x)) j hj];simp
 have he:(d.toList.map fun x=>mN (enc x))=(d.map fun x=>mN (enc x)).toList:=by simp
 rw[he]
 unfold sortWorld;rw[hput]
 exact Db hH' (by simp[O0]) hbs
end Go.eC
namespace Go.Proofs
open Go.Shelf
def YtfnohjheonlnmaaGreat.O3:Go.Shelf.Ren:=⟨fun|6=>234|15=>222|14=>265|28=>244|29=>245|20=>279|21=>280|22=>281|23=>282|24=>283|25=>284|26=>285|27=>286|46=>290|47=>267|48=>268|49=>291|50=>292|57=>293|n=>n,fun|22=>141|24=>146|25=>237|3=>3|39=>228|0=>0|53=>62|55=>248|4=>4|46=>240|45=>239|50=>244|5=>5|9=>9|66=>261|70=>265|76=>278|77=>279|n=>n,fun|n=>n⟩
theorem YtfnohjheonlnmaaGreat.sortRun:Go.Proofs.SlLaysF0.n6 Tryz.prog YtfnohjheonlnmaaGreat.O3:={mixed:=by kernel_rfl,f6:=⟨Tryz.f234.name,by decide,Tryz.func234.trans (congrArg some (by kernel_rfl))⟩,f14:=⟨Tryz.f265.name,by decide,Tryz.func265.trans (congrArg some (by kernel_rfl))⟩,f15:=Tryz.func222.trans (congrArg some (by kernel_rfl)),f20:=⟨Tryz.f279.name,by decide,Tryz.func279.trans (congrArg some (by kernel_rfl))⟩,f21:=⟨Tryz.f280.name,by decide,Tryz.func280.trans (congrArg some (by kernel_rfl))⟩,f22:=⟨Tryz.f281.name,by decide,Tryz.func281.trans (congrArg some (by kernel_rfl))⟩,f23:=⟨Tryz.f282.name,by decide,Tryz.func282.trans (congrArg some (by kernel_rfl))⟩,f24:=⟨Tryz.f283.name,by decide,Tryz.func283.trans (congrArg some (by kernel_rfl))⟩,f25:=⟨Tryz.f284.name,by decide,Tryz.func284.trans (congrArg some (by kernel_rfl))⟩,f26:=⟨Tryz.f285.name,by decide,Tryz.func285.trans (congrArg some (by kernel_rfl))⟩,f27:=⟨Tryz.f286.name,by decide,Tryz.func286.trans (congrArg some (by kernel_rfl))⟩,f28:=Tryz.func244.trans (congrArg some (by kernel_rfl)),f29:=Tryz.func245.trans (congrArg some (by kernel_rfl)),f46:=⟨Tryz.f290.name,by decide,Tryz.func290.trans (congrArg some (by kernel_rfl))⟩,f47:=Tryz.func267.trans (congrArg some (by kernel_rfl)),f48:=Tryz.func268.trans (congrArg some (by kernel_rfl)),f49:=⟨Tryz.f291.name,by decide,Tryz.func291.trans (congrArg some (by kernel_rfl))⟩,f50:=⟨Tryz.f292.name,by decide,Tryz.func292.trans (congrArg some (by kernel_rfl))⟩,f57:=⟨Tryz.f293.name,by decide,Tryz.func293.trans (congrArg some (by kernel_rfl))⟩,t0:=Tryz.underlying0,a0:=Tryz.isAgg0,z0:=Tryz.sizeOf0,v0:=Tryz.zeroValue0,t3:=Tryz.underlying3,a3:=Tryz.isAgg3,z3:=Tryz.sizeOf3,v3:=Tryz.zeroValue3,t4:=Tryz.underlying4,a4:=Tryz.isAgg4,z4:=Tryz.sizeOf4,v4:=Tryz.zeroValue4,t5:=Tryz.underlying5,a5:=Tryz.isAgg5,z5:=Tryz.sizeOf5,v5:=Tryz.zeroValue5,t9:=Tryz.underlying9,a9:=Tryz.isAgg9,z9:=Tryz.sizeOf9,v9:=Tryz.zeroValue9,t22:=Tryz.underlying141,a22:=Tryz.isAgg141,z22:=Tryz.sizeOf141,v22:=Tryz.zeroValue141,t25:=Tryz.underlying237,a25:=Tryz.isAgg237,z25:=Tryz.sizeOf237,v25:=Tryz.zeroValue237,t39:=Tryz.underlying228,a39:=Tryz.isAgg228,z39:=Tryz.sizeOf228,v39:=Tryz.zeroValue228,t45:=Tryz.underlying239,a45:=Tryz.isAgg239,z45:=Tryz.sizeOf239,v45:=Tryz.zeroValue239,t46:=Tryz.underlying240,a46:=Tryz.isAgg240,z46:=Tryz.sizeOf240,v46:=Tryz.zeroValue240,t50:=Tryz.underlying244,a50:=Tryz.isAgg244,z50:=Tryz.sizeOf244,v50:=Tryz.zeroValue244,t53:=Tryz.underlying62,a53:=Tryz.isAgg62,z53:=Tryz.sizeOf62,v53:=Tryz.zeroValue62,t55:=Tryz.underlying248,a55:=Tryz.isAgg248,z55:=Tryz.sizeOf248,v55:=Tryz.zeroValue248,t66:=Tryz.underlying261,a66:=Tryz.isAgg261,z66:=Tryz.sizeOf261,v66:=Tryz.zeroValue261,t70:=Tryz.underlying265,a70:=Tryz.isAgg265,z70:=Tryz.sizeOf265,v70:=Tryz.zeroValue265,t76:=Tryz.underlying278,a76:=Tryz.isAgg278,z76:=Tryz.sizeOf278,v76:=Tryz.zeroValue278,t77:=Tryz.underlying279,a77:=Tryz.isAgg279,z77:=Tryz.sizeOf279,v77:=Tryz.zeroValue279}
end Go.Proofs
namespace Go.Proofs.YtfnohjheonlnmaaGreat
open Go.eC
set_option linter.unusedSimpArgs false
set_option linter.unusedVariables false
set_option maxRecDepth 20000
set_option maxHeartbeats 4000000
theorem BT:gD Tryz.prog XC Tryz.f219.ntmps (Tryz.f219.body.getD .skip)=true:=by kernel_rfl
theorem Dd(l:List bK)(hl:l.length<=4398046511104):ja Tryz.prog 219 [.aC (l.map bK.enc)] [] (.row 0 0 2 l.length false) [.row 2 (l.map bK.enc)] []:=by cases l with|nil=>(refine JL (JK 2 ?_) ?_;{refine dY n9 mixed Tryz.func219 rfl (aZ rfl) (by simp) (by simp) (ah _) BT ?_;unfold Tryz.f219;simp-implicitDefEqProofs (disch:=first|omega|decide) only[go_sem,↓reduceIte,seval]};{refine dY n9 mixed Tryz.func219 rfl (aZ rfl) (by simp) (by simp) (ak _) BT ?_;unfold Tryz.f219;simp-implicitDefEqProofs (disch:=first|omega|decide) only[go_sem,↓reduceIte,seval]})|cons r l=>(refine dY n9 mixed Tryz.func219 rfl (aZ rfl) (by simp) (by simp) (ak _) BT ?_;unfold Tryz.f219;obtain⟨f,t⟩:=r;simp only[aw]at hl;simp-implicitDefEqProofs (disch:=first|omega|decide) only[go_sem,↓reduceIte,seval,aa];omega)
theorem c_Of1(f t f' t':Int)(h:0<=f/\f<=1099511627776/\0<=f'/\f'<=1099511627776):bh Tryz.prog 235 [.agg [.int .i64 f,.int .i64 t],.agg [.int .i64 f',.int .i64 t']] (· = .int .i64 (f-f')):=by refine aF n9 mixed Tryz.func235 ?_;unfold Tryz.f235;simp-implicitDefEqProofs (disch:=first|omega|decide) only[go_sem,↓reduceIte,seval,wrap_i64]
abbrev Ah:={r:bK//fK r=true}
instance:Inhabited Ah:=⟨⟨⟨1,1⟩,by decide⟩⟩
def cfB(a b:Ah):Int:=a.1.f-b.1.f
def Ah.cells(r:Ah):List A:=r.1.cells
theorem swoB:Go.Sort.SWO (Go.Proofs.ltOf cfB):=by (have hl: ∀a b,Go.Proofs.ltOf cfB a b=decide (a.1.f<b.1.f):=fun a b=>by unfold Go.Proofs.ltOf cfB;by_cases h:a.1.f<b.1.f;{(have:a.1.f-b.1.f<0:=by omega);simp[this,h]};{(have: ¬a.1.f-b.1.f<0:=by omega);simp[this,h]});refine⟨fun x=> ?_,fun x y z h1 h2=> ?_,fun x y z h1 h2=> ?_⟩;{rw[hl];simp};{rw[hl]at*;rw[decide_eq_true_iff]at*;omega};{rw[hl]at*;rw[decide_eq_false_iff_not]at*;omega}
theorem F'(l:List Ah)(hl:l.length<4611686018427387904):ja Tryz.prog 234 [.row 0 0 2 l.length false,.fn 235 []] [.row 2 (l.map fun x=> .agg x.cells)] (.eU []) [.row 2 ((im cfB l).map fun x=> .agg x.cells)] []:=vR Go.Proofs.YtfnohjheonlnmaaGreat.sortRun (by omega) Tryz.isAgg146 Tryz.sizeOf146 Ah.cells (fun _=>rfl) (fun x a ha=>by simp only[Ah.cells,bK.cells,aA,cv,or_false]at ha;rcases ha with rfl|rfl<;>rfl) cfB swoB (db Tryz.func235 (by kernel_rfl) (by kernel_rfl)) (fun x y=>by have h1:=fL.1 x.2;have h2:=fL.1 y.2;exact c_Of1 x.1.f x.1.t y.1.f y.1.t (by omega)) l hl false
def oI(l:List bK):List Ah:=(l.filter fK).attach.map fun x=>⟨x.1,(aT.1 x.2).2⟩
theorem BU(l:List bK):(oI l).map (·.1)=l.filter fK:=by unfold oI;rw[dO];exact List.attach_map_subtype_val _
theorem O4(l:List bK):(oI l).map (fun x=>A.agg x.cells)=(l.filter fK).map bK.enc:=by rw[<-BU,dO];rfl
def DE(l:List bK):List bK:=(im cfB (oI l)).map (·.1)
theorem SJ(l:List bK):(im cfB (oI l)).map (fun x=>A.agg x.cells)=(DE l).map bK.enc:=by unfold DE;rw[dO];rfl
theorem BV(l:List bK):(DE l).Perm (l.filter fK):=by rw[<-BU];exact(jn swoB (oI l)).1.map _
theorem O5(l:List bK): ∀r∈DE l,fK r=true:=fun r hr=>by unfold DE at hr;obtain⟨x,_,rfl⟩:=bS.1 hr;exact x.2
theorem Vk(l:List bK):(DE l).Pairwise (fun x y=>x.f<=y.f):=by unfold DE;rw[kv];exact(jn swoB (oI l)).2.imp fun{x y} h=>by unfold cfB at h;omega
theorem srtL_has(l:List bK)(n:Int):aX (DE l) n=aX l n:=by rw[has_perm (BV l),SB]
theorem O6(l:List bK):((DE l).foldl gm []).reverse=fX (aX l):=by rw[Ig (O5 l) (Vk l)];congr 1;funext n;exact srtL_has l n
def srE(l:List Ah):List A:=[.row 0 0 2 l.length false,.fn 235 []]
def srO(l:List Ah):List Go.eC.Obj:=[.row 2 (l.map fun x=> .agg x.cells)]
def srK(l:List Ah):Prop:=l.length<4611686018427387904
def srR(l:List Ah):A×List Go.eC.Obj×List Nat:=(.eU [],[.row 2 ((im cfB l).map fun x=> .agg x.cells)],[])
theorem runB_inj(x y:Ah)(h:A.agg x.cells=A.agg y.cells):x=y:=Subtype.ext (bK.gh _ _ h)
theorem srO_inj(i j:List Ah)(h:srO i=srO j):i=j:=by simp only[srO,dt,Go.eC.Obj.row.injEq,true_and,and_true]at h;rwa [map_inj runB_inj]at h
def SK:aN:=Ic.add 209 (entry (fun(l:List bK)=>[.aC (l.map bK.enc)]) (fun l=>l.length<=4611686018427387904) (fun l=> .bool (dB l)))
theorem T13f_ok:aH Tryz.prog SK:=tS.en Tryz.func209 fun l h=>vH l h
@[go_sem] theorem T13f_old{g:FuncId}{xs:List A}(h:g≠209):SK.f g xs=Ic.f g xs:=aN.aS h
theorem Ai(l:List bK)(h:l.length<=4611686018427387904):SK.f 209 [.aC (l.map bK.enc)]=some (.bool (dB l)):=aN.en (Γ:=Ic) l h
def Lo:aN:=SK.add 219 (entry (fun(l:List bK)=>[.aC (l.map bK.enc)]) (fun l=>l.length<=4398046511104) (fun l=> .aC (l.map bK.enc)))
theorem Vl:aH Tryz.prog Lo:=T13f_ok.en Tryz.func219 fun l h=>OF l h
@[go_sem] theorem T13g_old{g:FuncId}{xs:List A}(h:g≠219):Lo.f g xs=SK.f g xs:=aN.aS h
theorem jO(l:List bK)(h:l.length<=4398046511104):Lo.f 219 [.aC (l.map bK.enc)]=some (.aC (l.map bK.enc)):=aN.en (Γ:=SK) l h
@[go_sem] theorem t_counts_Right{l:List bK}(h:l.length<=4611686018427387904):SK.f 209 [.aC (l.map bK.enc)]=some (.bool (dB l)):=Ai l h
@[go_sem] theorem t_Clone_Run{l:List bK}(h:l.length<=4398046511104):Lo.f 219 [.aC (l.map bK.enc)]=some (.aC (l.map bK.enc)):=jO l h
def C13Sa:aN:=Lo.kr 234 (dz srE srO srK srR)
def O7:aN:={C13Sa with pN:=fun f=>f==234}
theorem O8:aH Tryz.prog C13Sa:=Vl.kr (db Tryz.func234 (by kernel_rfl) (by kernel_rfl)) (fS fun l h=>F' l h)
theorem C13S_ok:aH Tryz.prog O7:=⟨O8.f,O8.hp⟩
@[go_sem] theorem C13S_f:O7.f=Lo.f:=rfl
@[go_sem] theorem C13S_eff{g:FuncId}:O7.pN g=(g==234):=rfl
@[go_sem] theorem C13S_frz{g:FuncId}:O7.u3 g=false:=rfl
@[go_sem] theorem C13S_fix{n:Nat}:O7.fix n=false:=rfl
@[go_sem] theorem C13S_ords{n:Nat}:O7.fV n=[]:=rfl
theorem XO{l:List bK}{n:Nat}(hn:n=(l.filter fK).length)(h:l.length<4611686018427387904):O7.hp 234 [.row 0 0 2 n false,.fn 235 []] [.row 2 ((l.filter fK).map bK.enc)]=some (.eU [],[.row 2 ((DE l).map bK.enc)],[]):=by subst hn;(have hlen:(oI l).length=(l.filter fK).length:=by rw[<-BU];simp);have h0:C13Sa.hp 234 (srE (oI l)) (srO (oI l))=dz srE srO srK srR (srE (oI l)) (srO (oI l)):=aN.jx;have h1:O7.hp 234 (srE (oI l)) (srO (oI l))=dz srE srO srK srR (srE (oI l)) (srO (oI l)):=h0;have h2:=h1.trans (fT (fun i j _ h=>srO_inj i j h) (oI l) (show(oI l).length<4611686018427387904 by rw[hlen];exact Nat.lt_of_le_of_lt (b9 _ _) h));simp only[srE,srO,srR,hlen,O4,SJ]at h2;exact h2
def rZ(acc:List bK):List A:=acc.reverse.map bK.enc
theorem w6(q:bK)(qs:List bK):rZ (q::qs)=rZ qs++[.agg [.int .i64 q.f,.int .i64 q.t]]:=by simp[rZ,bK.enc,bK.cells]
theorem Aj(l:List bK):(rZ l).length=l.length:=by simp[rZ]
theorem rowG_nil:rZ []=[]:=rfl
theorem XP(l:List bK)(k:Nat)(h:k<l.length):(l.take (k+1)).foldl gm []=gm ((l.take k).foldl gm []) l[k]:=by rw[<-ao h,cG];rfl
theorem Ga: ∀(l:List bK) (a:List bK),(l.foldl gm a).length<=a.length+l.length| [],a=>by simp|r::l,a=>by have h1:=Ga l (gm a r);have h2:=JC a r;simp only[bD,aw];omega
theorem De(l:List bK)(hl:l.length<=4398046511104):bh Tryz.prog 220 [.aC (l.map bK.enc)] (· = .aC ((fX (aX l)).map bK.enc)):=by refine aF C13S_ok mixed Tryz.func220 ?_;unfold Tryz.f220;cases hr:dB l with|true=>(have e:=wZ hr (fun _=>rfl);simp-implicitDefEqProofs (disch:=first|omega|decide) only[go_sem,↓reduceIte,seval,hr,aa];rw[<-e])|false=>(simp-implicitDefEqProofs (disch:=first|omega|decide) only[go_sem,↓reduceIte,seval,hr,aa];refine cr 3 2 rfl ?_;refine aQ [2,14,15] (ι:={k:Nat//k<=l.length}) (fun p=>[(16,.int .i64 p.1),(3,.row 0 0 2 ((l.take p.1).filter fK).length false)]) (fun p=>[(0,.row 2 (((l.take p.1).filter fK).map bK.enc))]) (fun p=>l.length-p.1) ⟨0,by omega⟩ (ak _) ?_ ?_;{simp-implicitDefEqProofs (disch:=first|omega|decide) only[go_sem,↓reduceIte,seval];simp};{rintro⟨k,hk⟩;simp only;have hf:((l.take k).filter fK).length<=k:=bf (b9 _ _) (by rw[aD];omega);by_cases a_:k<l.length;{(have ay:(k:Int)<(l.length:Int):=by omega);have ht:l.take (k+1)=l.take k++[l[k]]:=(ao a_).symm;have e1:=run_get a_;generalize hx:l[k]=x at*;obtain⟨f,t⟩:=x;cases h1:fK ⟨f,t⟩with|true=>(simp-implicitDefEqProofs (disch:=first|omega|decide) only[go_sem,↓reduceIte,seval,ay,e1,h1,wrap_i64,aa];refine⟨⟨ah _,by omega⟩,⟨k+1,a_⟩,⟨⟨by simp, ?_⟩, ?_⟩,by show l.length-(k+1)<l.length-k;omega⟩;{rw[ht,bO];simp[h1]};{rw[ht,bO,ab (by simp)];simp[h1,bK.enc,bK.cells]})|false=>(simp-implicitDefEqProofs (disch:=first|omega|decide) only[go_sem,↓reduceIte,seval,ay,e1,h1,wrap_i64,aa];refine⟨⟨k+1,a_⟩,⟨⟨by simp, ?_⟩, ?_⟩,by show l.length-(k+1)<l.length-k;omega⟩;{rw[ht,bO];simp[h1]};{rw[ht,bO];simp[h1]})};{(have ay: ¬(k:Int)<(l.length:Int):=by omega);rw[ab (by omega)]at*;have hs:=XO (l:=l) rfl (by omega);have hp:=(BV l).length_eq;have m_:=O6 l;have gT:=O5 l;have XG:=Vk l;rw[<-hp]at hf;simp-implicitDefEqProofs (disch:=first|omega|decide) only[go_sem,↓reduceIte,seval,ay,hs,aa,cj,cb];rw[<-hp];generalize DE l=s at*;refine cr 6 2 rfl ?_;refine aQ [2,29,30] (ι:={j:Nat//j<=s.length}) (fun p=>[(31,.int .i64 p.1),(6,.row 1 0 2 ((s.take p.1).foldl gm []).length false)]) (fun p=>[(1,.row 2 (rZ ((s.take p.1).foldl gm [])))]) (fun p=>s.length-p.1) ⟨0,by omega⟩ (ak _) ?_ ?_;{simp-implicitDefEqProofs (disch:=first|omega|decide) only[go_sem,↓reduceIte,seval];simp[rZ]};{rintro⟨j,hj⟩;simp only;have uA:=Ga (s.take j) [];rw[aD,bm,fA hj,bM]at uA;by_cases Lp:j<s.length;{(have rJ:(j:Int)<(s.length:Int):=by omega);have e2:=run_get Lp;have eK:=XP s j Lp;have ho:=gT _ (aj Lp);have hR:RR ((s.take j).foldl gm []):=(fold_push (a:=[]) trivial (fun r hr=>gT r (bX hr)) (XG.sublist (List.take_sublist _ _)) (fun _ _=>trivial)).1;have fin: ∀m',(s.take (j+1)).foldl gm []=m'-> ∃i:{j:Nat//j<=s.length},(((j:Int)+1=(i.1:Int)/\m'.length=((s.take i.1).foldl gm []).length)/\rZ m'=rZ ((s.take i.1).foldl gm []))/\s.length-i.1<s.length-j:=fun m' oB=>⟨⟨j+1,Lp⟩,⟨⟨by simp,by rw[oB]⟩,by rw[oB]⟩,by show s.length-(j+1)<s.length-j;omega⟩;generalize hx:s[j]=x at*;generalize(s.take j).foldl gm []=m at*;obtain⟨f,t⟩:=x;obtain⟨o1,o2,o3⟩:=nG ho;simp only at o1 o2 o3;have qQ:=fin _ eK;cases m with|nil=>(rw[rowG_nil];simp-implicitDefEqProofs (disch:=first|omega|decide) only[go_sem,↓reduceIte,seval,rJ,e2,wrap_i64,aa];exact qQ)|cons q qs=>(obtain⟨p1,p2,p3⟩:=nG (kF hR);rw[w6]at*;have OX:qs.length+1<=j:=uA;(have c0:(0:Int)<((qs.length+1:Nat):Int):=by omega);(have c1:(((qs.length+1:Nat):Int)-1).toNat=qs.length:=by omega);(have c2:(0:Int)<=((qs.length+1:Nat):Int)-1:=by omega);(have c3:((qs.length+1:Nat):Int)-1<((qs.length+1:Nat):Int):=by omega);(have g1:(rZ qs++[A.agg [.int .i64 q.f,.int .i64 q.t]])[qs.length]? =some (.agg [.int .i64 q.f,.int .i64 q.t]):=by have:=mB (x:=A.agg [.int .i64 q.f,.int .i64 q.t]) (l:=rZ qs);rwa [Aj]at this);(have g2: ∀v,fG (rZ qs++[A.agg [.int .i64 q.f,.int .i64 q.t]]) qs.length v=rZ qs++[v]:=fun v=>by have:=mC (x:=A.agg [.int .i64 q.f,.int .i64 q.t]) (v:=v) (l:=rZ qs);rwa [Aj]at this);(have gl:(rZ qs++[A.agg [.int .i64 q.f,.int .i64 q.t]]).length=qs.length+1:=by rw[ai,Aj];rfl);have gt:(rZ qs++[A.agg [.int .i64 q.f,.int .i64 q.t]]).take (qs.length+1)=rZ qs++[A.agg [.int .i64 q.f,.int .i64 q.t]]:=ab (dm gl);by_cases hq:f-q.t<2;{(have Lm:gm (q::qs) ⟨f,t⟩=⟨q.f,if t>q.t then t else q.t⟩::qs:=by simp only[gm];rw[if_pos (by omega)]);rw[Lm,w6]at qQ;simp-implicitDefEqProofs (disch:=first|omega|decide) only[go_sem,↓reduceIte,seval,rJ,e2,c0,c1,c2,c3,g1,g2,hq,wrap_i64,aa];exact qQ};{(have Lm:gm (q::qs) ⟨f,t⟩=⟨f,t⟩::q::qs:=by simp only[gm];rw[if_neg (by omega)]);rw[Lm,w6,w6]at qQ;simp-implicitDefEqProofs (disch:=first|omega|decide) only[go_sem,↓reduceIte,seval,rJ,e2,c0,c1,c2,c3,g1,g2,gl,gt,hq,wrap_i64,aa];exact⟨⟨ah _,by omega⟩,qQ⟩})};{(have rJ: ¬(j:Int)<(s.length:Int):=by omega);rw[ab (by omega)]at*;(have na:rZ (s.foldl gm [])=(fX (aX l)).map bK.enc:=by unfold rZ;rw[m_]);(have Ee:(s.foldl gm []).length=(rZ (s.foldl gm [])).length:=by rw[Aj]);simp-implicitDefEqProofs (disch:=first|omega|decide) only[go_sem,↓reduceIte,seval,rJ,wrap_i64,Ee,aa,bC];rw[na];exact⟨ah _,rfl⟩}}}})
end Go.Proofs.YtfnohjheonlnmaaGreat
namespace Go.Proofs.YtfnohjheonlnmaaGreat
open Go.eC
set_option linter.unusedSimpArgs false
set_option linter.unusedVariables false
set_option linter.unusedSectionVars false
set_option maxRecDepth 20000
set_option maxHeartbeats 8000000
section
variable{D:List bK}{p e:Int}
end
section
variable{kp:Bool->Bool->Bool}{a b:List bK}(hra:dB a=true)(hrb:dB b=true)
include hra hrb
end
end Go.Proofs.YtfnohjheonlnmaaGreat
namespace Go.Proofs.YtfnohjheonlnmaaGreat
open Go.eC
set_option linter.unusedSimpArgs false
set_option linter.unusedVariables false
set_option maxRecDepth 20000
set_option maxHeartbeats 8000000
theorem of_len{l:List bK}(h:dB l=true):l.length<=1099511627776:=by (have key: ∀m:List bK,RR m->match m with| []=>True|r::l=>((r::l).length:Int)<=r.t:=by intro m;induction m with|nil=>(intro _;trivial)|cons r l ih=>(intro h;have o:=fL.1 (kF h);have ih:=ih (z_ h);cases l with|nil=>(show((1:Nat):Int)<=r.t;omega)|cons q l=>(have h2:=h.2.1;have ih':((q::l).length:Int)<=q.t:=ih;show(((q::l).length+1:Nat):Int)<=r.t;omega)));have h1:=key l.reverse (qv.1 h);cases hm:l.reverse with|nil=>((have:l=[]:=by simpa using hm);subst this;simp)|cons r m=>(rw[hm]at h1;have o:=fL.1 (kF (by rw[<-hm];exact qv.1 h));(have hl:l.length=(r::m).length:=by rw[<-hm];simp);have oH:((r::m).length:Int)<=r.t:=h1;omega)
def XQ:aN:=Lo.add 220 (entry (fun(l:List bK)=>[.aC (l.map bK.enc)]) (fun l=>l.length<=4398046511104) (fun l=> .aC ((fX (aX l)).map bK.enc)))
theorem Vm:aH Tryz.prog XQ:=Vl.en Tryz.func220 fun l h=>De l h
@[go_sem] theorem T13u_s:XQ.pl Lo:=⟨fun _=>rfl,fun _=>rfl,rfl,fun _=>rfl,rfl,fun _=>rfl,rfl⟩
theorem Gb(l:List bK)(h:l.length<=4398046511104):XQ.f 220 [.aC (l.map bK.enc)]=some (.aC ((fX (aX l)).map bK.enc)):=aN.en (Γ:=Lo) l h
@[go_sem] theorem O9{l:List bK}(h:l.length<=4398046511104):XQ.f 220 [.aC (l.map bK.enc)]=some (.aC ((fX (aX l)).map bK.enc)):=Gb l h
def kI(l:List bK):Int:=match l.getLast? with|none=>0|some r=>r.t
theorem Ij(l:List bK)(hl:l.length<=4398046511104):bh Tryz.prog 216 [.aC (l.map bK.enc)] (· = .int .i64 (kI (fX (aX l)))):=by refine aF Vm mixed Tryz.func216 ?_;unfold Tryz.f216;have hu:= @O9 l hl;have hn:(fX (aX l)).length<=1099511627776:=Va (mA (aX l));generalize fX (aX l)=s at*;rcases List.eq_nil_or_concat s with rfl|⟨rs,r,rfl⟩;{simp-implicitDefEqProofs (disch:=first|omega|decide) only[go_sem,↓reduceIte,seval,hu,kI,aa,List.getLast?_nil]};{rw[List.concat_eq_append]at*;obtain⟨f,t⟩:=r;(have hm:(rs++[(⟨f,t⟩:bK)]).map bK.enc=rs.map bK.enc++[.agg [.int .i64 f,.int .i64 t]]:=by simp[bK.enc,bK.cells]);(have XN:(rs.map bK.enc++[A.agg [.int .i64 f,.int .i64 t]]).length=rs.length+1:=by simp);(have hv:kI (rs++[⟨f,t⟩])=t:=by simp[kI]);rw[hm]at hu;rw[hv];(have c0:(0:Int)<((rs.length+1:Nat):Int):=by omega);(have c1:(((rs.length+1:Nat):Int)-1).toNat=rs.length:=by omega);(have c2:(0:Int)<=((rs.length+1:Nat):Int)-1:=by omega);(have g1:(rs.map bK.enc++[A.agg [.int .i64 f,.int .i64 t]])[rs.length]? =some (.agg [.int .i64 f,.int .i64 t]):=by have:=mB (x:=A.agg [.int .i64 f,.int .i64 t]) (l:=rs.map bK.enc);rwa [aa]at this);simp only[ai,cU]at hn;simp-implicitDefEqProofs (disch:=first|omega|decide) only[go_sem,↓reduceIte,seval,hu,XN,c0,c1,c2,g1,wrap_i64,aa]}
def dV(p:Int->Bool):Nat->Int|0=>0|N+1=>dV p N+if p ((N:Int)+1)then 1 else 0
theorem XR{s:List bK}(h:dB s=true):0<=kI s/\kI s<=1099511627776/\(0<kI s->aX s (kI s)=true)/\ ∀n,aX s n=true->n<=kI s:=by rcases List.eq_nil_or_concat s with rfl|⟨rs,r,rfl⟩;{exact⟨cO _,by simp[kI],fun h=>by simp[kI]at h,fun n h=>by simp[wX]at h⟩};{rw[List.concat_eq_append]at*;(have hv:kI (rs++[r])=r.t:=by simp[kI]);have h1:=qv.1 h;rw[List.reverse_append]at h1;have oH:RR (r::rs.reverse):=h1;have o:=fL.1 (kF oH);rw[hv];refine⟨by omega,o.2.2,fun _=> ?_,fun n hn=> ?_⟩;{rw[lN,vJ,kF oH,aG];(have:Rn r r.t=true:=by simp[Rn];omega);rw[this];simp};{refine SC oH n ?_;rw[<-wY]at hn;rw[List.reverse_append]at hn;exact hn}}
def XS:aN:=SH.add 223 (entry (fun(v:Int×List bK×List bK)=>[.int .i64 v.1,.aC (v.2.1.map bK.enc),.aC (v.2.2.map bK.enc)]) (fun v=>OW v.1/\v.2.1.length<=50000/\v.2.2.length<=50000) (fun v=> .aC ((fX (nR v.1 v.2.1 v.2.2)).map bK.enc)))
theorem T13m_ok:aH Tryz.prog XS:=Vh.en Tryz.func223 fun v h=>Ll v.1 v.2.1 v.2.2 h.1 h.2.1 h.2.2
@[go_sem] theorem T13m_old{g:FuncId}{xs:List A}(h:g≠223):XS.f g xs=SH.f g xs:=aN.aS h
theorem DF(v:Int×List bK×List bK)(h:OW v.1/\v.2.1.length<=50000/\v.2.2.length<=50000):XS.f 223 [.int .i64 v.1,.aC (v.2.1.map bK.enc),.aC (v.2.2.map bK.enc)]=some (.aC ((fX (nR v.1 v.2.1 v.2.2)).map bK.enc)):=aN.en (Γ:=SH) v h
theorem op2(a b:List bK):nR 2 a b=fun n=>aX a n&&aX b n:=rfl
def C13Aa:aN:=XQ.kr 219 (dz (fun l:List bK=>[.aC (l.map bK.enc)]) (fun _=>[]) (fun l=>l.length<=4398046511104) (fun l=>(.row 0 0 2 l.length false,[.row 2 (l.map bK.enc)],[])))
def SL:aN:={C13Aa with pN:=fun f=>f==220||f==219,u3:=fun f=>f==220}
theorem O_:aH Tryz.prog C13Aa:=Vm.kr (db Tryz.func219 (by kernel_rfl) (by kernel_rfl)) (fS fun l h=>Dd l h)
theorem C13A_ok:aH Tryz.prog SL:=⟨O_.f,O_.hp⟩
@[go_sem] theorem C13A_f:SL.f=XQ.f:=rfl
@[go_sem] theorem C13A_eff{g:FuncId}:SL.pN g=(g==220||g==219):=rfl
@[go_sem] theorem C13A_frz{g:FuncId}:SL.u3 g=(g==220):=rfl
@[go_sem] theorem C13A_fix{n:Nat}:SL.fix n=false:=rfl
@[go_sem] theorem C13A_ords{n:Nat}:SL.fV n=[]:=rfl
theorem SM{l:List bK}(h:l.length<=4398046511104):SL.hp 219 [.aC (l.map bK.enc)] []=some (.row 0 0 2 l.length false,[.row 2 (l.map bK.enc)],[]):=by have h0:C13Aa.hp 219 [.aC (l.map bK.enc)] []=dz (fun l:List bK=>[A.aC (l.map bK.enc)]) (fun _=>[]) (fun l=>l.length<=4398046511104) (fun l=>(.row 0 0 2 l.length false,[.row 2 (l.map bK.enc)],[])) [.aC (l.map bK.enc)] []:=aN.jx;exact h0.trans (fT (enc:=fun l:List bK=>[A.aC (l.map bK.enc)]) (Fz:=fun _=>[]) (fun i j h _=>by simpa using h) l h)
def rn(m:List Int):List bK:=m.map fun n=>⟨n,n⟩
theorem Lq(l:List bK)(m:List Int)(hl:l.length<=1000000)(hm:m.length<=1000000):bh Tryz.prog 187 [.aC (l.map bK.enc),.aC (m.map (A.int .i64))] (· = .aC ((fX (aX (l++rn m))).map bK.enc)):=by refine aF C13A_ok mixed Tryz.func187 ?_;unfold Tryz.f187;have h0:=SM (l:=l) (by omega);simp-implicitDefEqProofs (disch:=first|omega|decide) only[go_sem,↓reduceIte,seval,h0,aa,cj,cb];refine aQ [4,10,11] (ι:={k:Nat//k<=m.length}) (fun p=>[(12,.int .i64 p.1),(5,.row 0 0 2 (l.length+p.1) false)]) (fun p=>[(0,.row 2 ((l++rn (m.take p.1)).map bK.enc))]) (fun p=>m.length-p.1) ⟨0,by omega⟩ (ak _) ?_ ?_;{simp-implicitDefEqProofs (disch:=first|omega|decide) only[go_sem,↓reduceIte,seval];simp[rn]};{rintro⟨k,hk⟩;simp only;(have hlen:(l++rn (m.take k)).length=l.length+k:=by simp[rn];omega);by_cases a_:k<m.length;{(have ay:(k:Int)<(m.length:Int):=by omega);(have e1:(m.map (A.int .i64))[k]? =some (.int .i64 m[k]):=by rw[aL,ad a_];rfl);have ht:m.take (k+1)=m.take k++[m[k]]:=(ao a_).symm;(have hh:l++rn (m.take (k+1))=(l++rn (m.take k))++[⟨m[k],m[k]⟩]:=by rw[ht];unfold rn;rw[bk,<-aU];rfl);have tl:((l++rn (m.take k)).map bK.enc).take (l.length+k)=(l++rn (m.take k)).map bK.enc:=ab (dm (by rw[aa,hlen]));simp-implicitDefEqProofs (disch:=first|omega|decide) only[go_sem,↓reduceIte,seval,ay,e1,tl,hlen,wrap_i64,aa];exact⟨⟨ah _,by omega⟩,⟨k+1,a_⟩,⟨⟨by simp,by show l.length+k+1=l.length+(k+1);omega⟩,by rw[hh,bk (l₁:=l++rn (m.take k))];rfl⟩,by show m.length-(k+1)<m.length-k;omega⟩};{(have ay: ¬(k:Int)<(m.length:Int):=by omega);have tl:((l++rn (m.take k)).map bK.enc).take (l.length+k)=(l++rn (m.take k)).map bK.enc:=ab (dm (by rw[aa,hlen]));rw[ab (show m.length<=k by omega)]at*;simp-implicitDefEqProofs (disch:=first|omega|decide) only[go_sem,↓reduceIte,seval,ay,tl,hlen,aa,cj,cb];exact ah _}}
def Gc:aN:=XS.add 209 (entry (fun(l:List bK)=>[.aC (l.map bK.enc)]) (fun l=>l.length<=4398046511104) (fun l=> .bool (dB l)))
theorem C13L0_ok:aH Tryz.prog Gc:=T13m_ok.en Tryz.func209 fun l h=>vH l (by omega)
@[go_sem] theorem C13L0_old{g:FuncId}{xs:List A}(h:g≠209):Gc.f g xs=XS.f g xs:=aN.aS h
theorem yH(l:List bK)(h:l.length<=4398046511104):Gc.f 209 [.aC (l.map bK.enc)]=some (.bool (dB l)):=aN.en (Γ:=XS) l h
@[go_sem] theorem l_counts_Right{l:List bK}(h:l.length<=4398046511104):Gc.f 209 [.aC (l.map bK.enc)]=some (.bool (dB l)):=yH l h
def Gd:aN:=Gc.add 194 (entry (fun(l:List bK)=>[.aC (l.map bK.enc)]) (fun l=>l.length<=4398046511104) (fun l=> .bool (dB l)))
theorem C13L1_ok:aH Tryz.prog Gd:=C13L0_ok.en Tryz.func194 fun l h=>Ie l (by omega)
@[go_sem] theorem C13L1_old{g:FuncId}{xs:List A}(h:g≠194):Gd.f g xs=Gc.f g xs:=aN.aS h
theorem Ak(l:List bK)(h:l.length<=4398046511104):Gd.f 194 [.aC (l.map bK.enc)]=some (.bool (dB l)):=aN.en (Γ:=Gc) l h
@[go_sem] theorem l_ref13_Right{l:List bK}(h:l.length<=4398046511104):Gd.f 194 [.aC (l.map bK.enc)]=some (.bool (dB l)):=Ak l h
def Ge:aN:=Gd.add 199 (entry (fun(v:List bK×Int)=>[.aC (v.1.map bK.enc),.int .i64 v.2]) (fun v=>v.1.length<=4398046511104) (fun v=> .bool (aX v.1 v.2)))
theorem C13L2_ok:aH Tryz.prog Ge:=C13L1_ok.en Tryz.func199 fun v h=>Lc v.1 v.2 (by omega)
@[go_sem] theorem C13L2_old{g:FuncId}{xs:List A}(h:g≠199):Ge.f g xs=Gd.f g xs:=aN.aS h
theorem BW(v:List bK×Int)(h:v.1.length<=4398046511104):Ge.f 199 [.aC (v.1.map bK.enc),.int .i64 v.2]=some (.bool (aX v.1 v.2)):=aN.en (Γ:=Gd) v h
@[go_sem] theorem l_counts_Has{a:List bK}{b:Int}(h:a.length<=4398046511104):Ge.f 199 [.aC (a.map bK.enc),.int .i64 b]=some (.bool (aX a b)):=BW (a,b) h
def Gf:aN:=Ge.add 193 (entry (fun(v:List bK×List bK)=>[.aC (v.1.map bK.enc),.aC (v.2.map bK.enc)]) (fun v=>v.1.length<=4398046511104/\v.2.length<=4398046511104) (fun v=> .bool (lV v.1 v.2)))
theorem C13L3_ok:aH Tryz.prog Gf:=C13L2_ok.en Tryz.func193 fun v h=>Ld v.1 v.2 (by omega) (by omega)
@[go_sem] theorem C13L3_old{g:FuncId}{xs:List A}(h:g≠193):Gf.f g xs=Ge.f g xs:=aN.aS h
theorem BX(v:List bK×List bK)(h:v.1.length<=4398046511104/\v.2.length<=4398046511104):Gf.f 193 [.aC (v.1.map bK.enc),.aC (v.2.map bK.enc)]=some (.bool (lV v.1 v.2)):=aN.en (Γ:=Ge) v h
@[go_sem] theorem l_ref13_Same{a:List bK}{b:List bK}(h:a.length<=4398046511104/\b.length<=4398046511104):Gf.f 193 [.aC (a.map bK.enc),.aC (b.map bK.enc)]=some (.bool (lV a b)):=BX (a,b) h
def JN:aN:=Gf.add 220 (entry (fun(l:List bK)=>[.aC (l.map bK.enc)]) (fun l=>l.length<=4398046511104) (fun l=> .aC ((fX (aX l)).map bK.enc)))
theorem C13L4_ok:aH Tryz.prog JN:=C13L3_ok.en Tryz.func220 fun l h=>De l h
@[go_sem] theorem C13L4_old{g:FuncId}{xs:List A}(h:g≠220):JN.f g xs=Gf.f g xs:=aN.aS h
theorem DG(l:List bK)(h:l.length<=4398046511104):JN.f 220 [.aC (l.map bK.enc)]=some (.aC ((fX (aX l)).map bK.enc)):=aN.en (Γ:=Gf) l h
@[go_sem] theorem l_counts_Of{l:List bK}(h:l.length<=4398046511104):JN.f 220 [.aC (l.map bK.enc)]=some (.aC ((fX (aX l)).map bK.enc)):=DG l h
def O':aN:=JN
theorem C13L5_ok:aH Tryz.prog O':=C13L4_ok
@[go_sem] theorem C13L5_old{g:FuncId}{xs:List A}:O'.f g xs=JN.f g xs:=rfl
def JO:aN:=O'.add 187 (entry (fun(v:List bK×List Int)=>[.aC (v.1.map bK.enc),.aC (v.2.map (A.int .i64))]) (fun v=>v.1.length<=1000000/\v.2.length<=1000000) (fun v=> .aC ((fX (aX (v.1++rn v.2))).map bK.enc)))
theorem C13L6_ok:aH Tryz.prog JO:=C13L5_ok.en Tryz.func187 fun v h=>Lq v.1 v.2 h.1 h.2
@[go_sem] theorem C13L6_old{g:FuncId}{xs:List A}(h:g≠187):JO.f g xs=O'.f g xs:=aN.aS h
theorem BY(v:List bK×List Int)(h:v.1.length<=1000000/\v.2.length<=1000000):JO.f 187 [.aC (v.1.map bK.enc),.aC (v.2.map (A.int .i64))]=some (.aC ((fX (aX (v.1++rn v.2))).map bK.enc)):=aN.en (Γ:=O') v h
@[go_sem] theorem Lr{a:List bK}{b:List Int}(h:a.length<=1000000/\b.length<=1000000):JO.f 187 [.aC (a.map bK.enc),.aC (b.map (A.int .i64))]=some (.aC ((fX (aX (a++rn b))).map bK.enc)):=BY (a,b) h
def Vn:aN:=JO
theorem C13L7_ok:aH Tryz.prog Vn:=C13L6_ok
@[go_sem] theorem C13L7_old{g:FuncId}{xs:List A}:Vn.f g xs=JO.f g xs:=rfl
def Vo:aN:=Vn
theorem C13L8_ok:aH Tryz.prog Vo:=C13L7_ok
@[go_sem] theorem C13L8_old{g:FuncId}{xs:List A}:Vo.f g xs=Vn.f g xs:=rfl
def Vp:aN:=Vo
theorem C13L9_ok:aH Tryz.prog Vp:=C13L8_ok
@[go_sem] theorem C13L9_old{g:FuncId}{xs:List A}:Vp.f g xs=Vo.f g xs:=rfl
def Gg:aN:=Vp
theorem XT:aH Tryz.prog Gg:=C13L9_ok
@[go_sem] theorem C13L10_old{g:FuncId}{xs:List A}:Gg.f g xs=Vp.f g xs:=rfl
def yI:aN:=Gg.add 216 (entry (fun(l:List bK)=>[.aC (l.map bK.enc)]) (fun l=>l.length<=4398046511104) (fun l=> .int .i64 (kI (fX (aX l)))))
theorem XU:aH Tryz.prog yI:=XT.en Tryz.func216 fun l h=>Ij l h
@[go_sem] theorem C13L11_old{g:FuncId}{xs:List A}(h:g≠216):yI.f g xs=Gg.f g xs:=aN.aS h
theorem yJ(l:List bK)(h:l.length<=4398046511104):yI.f 216 [.aC (l.map bK.enc)]=some (.int .i64 (kI (fX (aX l)))):=aN.en (Γ:=Gg) l h
@[go_sem] theorem l_counts_Most{l:List bK}(h:l.length<=4398046511104):yI.f 216 [.aC (l.map bK.enc)]=some (.int .i64 (kI (fX (aX l)))):=yJ l h
def BZ:aN:=yI
theorem JP:aH Tryz.prog BZ:=XU
@[go_sem] theorem C13L12_old{g:FuncId}{xs:List A}:BZ.f g xs=yI.f g xs:=rfl
@[go_sem] theorem C13L12_s:BZ.pl yI:=⟨fun _=>rfl,fun _=>rfl,rfl,fun _=>rfl,rfl,fun _=>rfl,rfl⟩
set_option maxHeartbeats 4000000
def T12z:aN:=BD
theorem tY:aH Tryz.prog T12z:=KW _
@[go_sem] theorem T12z_eq:T12z=BD:=rfl
structure fo where
 r:Int
 c:Int
 deriving DecidableEq,Inhabited
def fo.cells(v:fo):List A:=[.int .i64 v.r,.int .i64 v.c]
def fo.enc(v:fo):A:= .agg v.cells
@[go_sem] theorem fo.vC{a b:Int}:fo.enc ⟨a,b⟩= .agg [.int .i64 a,.int .i64 b]:=rfl
theorem fo.gh(v w:fo)(h:v.enc=w.enc):v=w:=by cases v;cases w;simpa[fo.enc,fo.cells]using h
@[simp] theorem map_ver_inj{l m:List fo}:(l.map fo.enc=m.map fo.enc)=(l=m):=map_inj fo.gh
def cu(v:fo):Bool:=decide (1<=v.r)&&decide (v.r<=16)&&decide (1<=v.c)&&decide (v.c<=1099511627776)
def Ef(a b:fo):Bool:=decide (a.r<b.r)||(a.r==b.r)&&decide (a.c<b.c)
def mf(a b:fo):Int:=if a=b then 0 else if Ef a b then-1 else 1
theorem uC(r c:Int):bh Tryz.prog 161 [.agg [.int .i64 r,.int .i64 c]] (· = .bool (cu ⟨r,c⟩)):=by refine aF tY mixed Tryz.func161 ?_;unfold Tryz.f161;by_cases h1:1<=r;{by_cases h2:r<=16;{by_cases h3:1<=c;{simp-implicitDefEqProofs (disch:=first|omega|decide) only[go_sem,↓reduceIte,seval,h1,h2,h3,cu]};{simp-implicitDefEqProofs (disch:=first|omega|decide) only[go_sem,↓reduceIte,seval,h1,h2,h3,cu]}};{simp-implicitDefEqProofs (disch:=first|omega|decide) only[go_sem,↓reduceIte,seval,h1,h2,cu]}};{simp-implicitDefEqProofs (disch:=first|omega|decide) only[go_sem,↓reduceIte,seval,h1,cu]}
theorem r_(r c:Int):bh Tryz.prog 101 [.agg [.int .i64 r,.int .i64 c]] (· = .bool (cu ⟨r,c⟩)):=by refine aF tY mixed Tryz.func101 ?_;unfold Tryz.f101;by_cases h1:1<=r;{by_cases h2:r<=16;{by_cases h3:1<=c;{simp-implicitDefEqProofs (disch:=first|omega|decide) only[go_sem,↓reduceIte,seval,h1,h2,h3,cu]};{simp-implicitDefEqProofs (disch:=first|omega|decide) only[go_sem,↓reduceIte,seval,h1,h2,h3,cu]}};{simp-implicitDefEqProofs (disch:=first|omega|decide) only[go_sem,↓reduceIte,seval,h1,h2,cu]}};{simp-implicitDefEqProofs (disch:=first|omega|decide) only[go_sem,↓reduceIte,seval,h1,cu]}
theorem sc(a b:fo):bh Tryz.prog 190 [.agg [.int .i64 a.r,.int .i64 a.c],.agg [.int .i64 b.r,.int .i64 b.c]] (· = .int .i64 (mf a b)):=by refine aF tY mixed Tryz.func190 ?_;unfold Tryz.f190;obtain⟨r,c⟩:=a;obtain⟨r',c'⟩:=b;by_cases h1:r=r';{subst h1;by_cases h2:c=c';{subst h2;(have e:mf ⟨r,c⟩ ⟨r,c⟩=0:=by simp[mf]);(have e1:(r==r)=true:=by simp);(have e2:(c==c)=true:=by simp);simp-implicitDefEqProofs (disch:=first|omega|decide) only[go_sem,↓reduceIte,seval,e,e1,e2]};{(have h3:(c==c')=false:=by simpa using h2);(have e1:(r==r)=true:=by simp);(have h4: ¬r<r:=by omega);by_cases h5:c<c';{(have e:mf ⟨r,c⟩ ⟨r,c'⟩= -1:=by simp[mf,Ef,h2,h5]);simp-implicitDefEqProofs (disch:=first|omega|decide) only[go_sem,↓reduceIte,seval,e,e1,h3,h4,h5]};{(have e:mf ⟨r,c⟩ ⟨r,c'⟩=1:=by simp[mf,Ef,h2,h5]);simp-implicitDefEqProofs (disch:=first|omega|decide) only[go_sem,↓reduceIte,seval,e,e1,h3,h4,h5]}}};{(have h3:(r==r')=false:=by simpa using h1);by_cases h4:r<r';{(have e:mf ⟨r,c⟩ ⟨r',c'⟩= -1:=by simp[mf,Ef,h1,h4]);simp-implicitDefEqProofs (disch:=first|omega|decide) only[go_sem,↓reduceIte,seval,e,h3,h4]};{(have e:mf ⟨r,c⟩ ⟨r',c'⟩=1:=by simp[mf,Ef,h1,h4]);simp-implicitDefEqProofs (disch:=first|omega|decide) only[go_sem,↓reduceIte,seval,e,h3,h4]}}
theorem Al(a b:fo):bh Tryz.prog 134 [.agg [.int .i64 a.r,.int .i64 a.c],.agg [.int .i64 b.r,.int .i64 b.c]] (· = .bool (Ef a b)):=by refine aF tY mixed Tryz.func134 ?_;unfold Tryz.f134;obtain⟨r,c⟩:=a;obtain⟨r',c'⟩:=b;by_cases h4:r<r';{simp-implicitDefEqProofs (disch:=first|omega|decide) only[go_sem,↓reduceIte,seval,h4,Ef]};{cases h3:r==r'<;>simp-implicitDefEqProofs (disch:=first|omega|decide) only[go_sem,↓reduceIte,seval,h3,h4,Ef]}
def T12a:aN:=T12z.add 161 (entry (fun(v:Int×Int)=>[.agg [.int .i64 v.1,.int .i64 v.2]]) (fun v=>True) (fun v=> .bool (cu ⟨v.1,v.2⟩)))
theorem T12a_ok:aH Tryz.prog T12a:=tY.en Tryz.func161 fun v h=>uC v.1 v.2
theorem yK(v:Int×Int)(h:True):T12a.f 161 [.agg [.int .i64 v.1,.int .i64 v.2]]=some (.bool (cu ⟨v.1,v.2⟩)):=aN.en (Γ:=T12z) v h
def T12b:aN:=T12a.add 101 (entry (fun(v:Int×Int)=>[.agg [.int .i64 v.1,.int .i64 v.2]]) (fun v=>True) (fun v=> .bool (cu ⟨v.1,v.2⟩)))
theorem T12b_ok:aH Tryz.prog T12b:=T12a_ok.en Tryz.func101 fun v h=>r_ v.1 v.2
@[go_sem] theorem T12b_old{g:FuncId}{xs:List A}(h:g≠101):T12b.f g xs=T12a.f g xs:=aN.aS h
def T12c:aN:=T12b.add 190 (entry (fun(v:(Int×Int)×(Int×Int))=>[.agg [.int .i64 v.1.1,.int .i64 v.1.2],.agg [.int .i64 v.2.1,.int .i64 v.2.2]]) (fun v=>True) (fun v=> .int .i64 (mf ⟨v.1.1,v.1.2⟩ ⟨v.2.1,v.2.2⟩)))
theorem T12c_ok:aH Tryz.prog T12c:=T12b_ok.en Tryz.func190 fun v h=>sc ⟨v.1.1,v.1.2⟩ ⟨v.2.1,v.2.2⟩
@[go_sem] theorem T12c_old{g:FuncId}{xs:List A}(h:g≠190):T12c.f g xs=T12b.f g xs:=aN.aS h
def T12d:aN:=T12c.add 134 (entry (fun(v:(Int×Int)×(Int×Int))=>[.agg [.int .i64 v.1.1,.int .i64 v.1.2],.agg [.int .i64 v.2.1,.int .i64 v.2.2]]) (fun v=>True) (fun v=> .bool (Ef ⟨v.1.1,v.1.2⟩ ⟨v.2.1,v.2.2⟩)))
theorem T12d_ok:aH Tryz.prog T12d:=T12c_ok.en Tryz.func134 fun v h=>Al ⟨v.1.1,v.1.2⟩ ⟨v.2.1,v.2.2⟩
@[go_sem] theorem T12d_old{g:FuncId}{xs:List A}(h:g≠134):T12d.f g xs=T12c.f g xs:=aN.aS h
@[go_sem] theorem t_version_Right{r c:Int}:T12a.f 161 [.agg [.int .i64 r,.int .i64 c]]=some (.bool (cu ⟨r,c⟩)):=yK (r,c) trivial
def T12e:aN:=T12d
theorem T12e_ok:aH Tryz.prog T12e:=T12d_ok
@[go_sem] theorem T12e_old{g:FuncId}{xs:List A}:T12e.f g xs=T12d.f g xs:=rfl
end Go.Proofs.YtfnohjheonlnmaaGreat
