/- What the laws of this claim rest on: the abstract executor, its soundness, and what the functions compute on pure data. No condition. -/
import Derived.Test.YtjfdlpagcgpaoaaGreatU9
import Derived.Shelf.Sort.Plain
import Derived.Shelf.Slices.In.SortNone
import Derived.Ground.NamesProg
import Derived.Test.YtjfdlpagcgpaoaaGreatProg
set_option linter.unusedVariables false
set_option linter.unusedSimpArgs false
namespace Go.Proofs.YtjfdlpagcgpaoaaGreat
open Go.Abs
set_option linter.unusedSimpArgs false
set_option linter.unusedVariables false
set_option maxRecDepth 20000
set_option maxHeartbeats 8000000
noncomputable def L46b:Tab:=L46a.add 97 (entry (fun (v:Sta × Int)=>[v.1.enc,.int .i64 v.2]) (fun v=>OkS v.1) (fun v=>.bool (aloneF v.1 v.2)))
theorem L46b_ok:TabOK Tryz.prog L46b:=L46a_ok.add (callable_of Tryz.func97 (by kernel_rfl) (by kernel_rfl)) (entry_ok fun v h=>c_ref46_Alone v.1 v.2 h)
@[go_sem] theorem L46b_old {g:FuncId} {xs:List A} (h:g ≠ 97):L46b.f g xs = L46a.f g xs:=Tab.add_ne h
theorem L46b_ref46_Alone (v:Sta × Int) (h:OkS v.1):L46b.f 97 [v.1.enc,.int .i64 v.2] = some (.bool (aloneF v.1 v.2)):=
 (Tab.add_eq:L46b.f 97 [v.1.enc,.int .i64 v.2] = (entry (fun (v:Sta × Int)=>[v.1.enc,.int .i64 v.2]) (fun v=>OkS v.1) (fun v=>.bool (aloneF v.1 v.2))) [v.1.enc,.int .i64 v.2]).trans (entry_eq (fun i j h=>by first | (cases i; cases j; rfl; done) | simpa [Prod.ext_iff,and_assoc] using h | (simp at h; omega) | (simp at h; exact Prod.ext h.1 (Prod.ext h.2.1 (by omega)))) v h)
noncomputable def L46c:Tab:=L46b.add 98 (entry (fun (v:Sta × Int × Nat)=>[v.1.enc,.int .i64 v.2.1,.int .i64 (v.2.2:Int)]) (fun v=>OkS v.1 ∧ v.2.2 < v.1.its.length) (fun v=>.bool (itemF v.1 v.2.1 v.2.2)))
theorem L46c_ok:TabOK Tryz.prog L46c:=L46b_ok.add (callable_of Tryz.func98 (by kernel_rfl) (by kernel_rfl)) (entry_ok fun v h=>c_ref46_Item v.1 v.2.1 v.2.2 h.1 h.2)
@[go_sem] theorem L46c_old {g:FuncId} {xs:List A} (h:g ≠ 98):L46c.f g xs = L46b.f g xs:=Tab.add_ne h
theorem L46c_ref46_Item (v:Sta × Int × Nat) (h:OkS v.1 ∧ v.2.2 < v.1.its.length):L46c.f 98 [v.1.enc,.int .i64 v.2.1,.int .i64 (v.2.2:Int)] = some (.bool (itemF v.1 v.2.1 v.2.2)):=
 (Tab.add_eq:L46c.f 98 [v.1.enc,.int .i64 v.2.1,.int .i64 (v.2.2:Int)] = (entry (fun (v:Sta × Int × Nat)=>[v.1.enc,.int .i64 v.2.1,.int .i64 (v.2.2:Int)]) (fun v=>OkS v.1 ∧ v.2.2 < v.1.its.length) (fun v=>.bool (itemF v.1 v.2.1 v.2.2))) [v.1.enc,.int .i64 v.2.1,.int .i64 (v.2.2:Int)]).trans (entry_eq (fun i j h=>by first | (cases i; cases j; rfl; done) | simpa [Prod.ext_iff,and_assoc] using h | (simp at h; omega) | (simp at h; exact Prod.ext h.1 (Prod.ext h.2.1 (by omega)))) v h)
noncomputable def L46d:Tab:=L46c.add 99 (entry (fun (v:Sta × Int × Nat)=>[v.1.enc,.int .i64 v.2.1,.int .i64 (v.2.2:Int)]) (fun v=>OkS v.1 ∧ v.2.2 < v.1.kn.length) (fun v=>.bool (pieceF v.1 v.2.1 v.2.2)))
theorem L46d_ok:TabOK Tryz.prog L46d:=L46c_ok.add (callable_of Tryz.func99 (by kernel_rfl) (by kernel_rfl)) (entry_ok fun v h=>c_ref46_Piece v.1 v.2.1 v.2.2 h.1 h.2)
@[go_sem] theorem L46d_old {g:FuncId} {xs:List A} (h:g ≠ 99):L46d.f g xs = L46c.f g xs:=Tab.add_ne h
@[go_sem] theorem L46d_eff {g:FuncId}:L46d.eff g = false:=rfl
@[go_sem] theorem L46d_fix {n:Nat}:L46d.fix n = false:=rfl
@[go_sem] theorem L46d_ords {n:Nat}:L46d.ords n = []:=rfl
theorem L46d_ref46_Piece (v:Sta × Int × Nat) (h:OkS v.1 ∧ v.2.2 < v.1.kn.length):L46d.f 99 [v.1.enc,.int .i64 v.2.1,.int .i64 (v.2.2:Int)] = some (.bool (pieceF v.1 v.2.1 v.2.2)):=
 (Tab.add_eq:L46d.f 99 [v.1.enc,.int .i64 v.2.1,.int .i64 (v.2.2:Int)] = (entry (fun (v:Sta × Int × Nat)=>[v.1.enc,.int .i64 v.2.1,.int .i64 (v.2.2:Int)]) (fun v=>OkS v.1 ∧ v.2.2 < v.1.kn.length) (fun v=>.bool (pieceF v.1 v.2.1 v.2.2))) [v.1.enc,.int .i64 v.2.1,.int .i64 (v.2.2:Int)]).trans (entry_eq (fun i j h=>by first | (cases i; cases j; rfl; done) | simpa [Prod.ext_iff,and_assoc] using h | (simp at h; omega) | (simp at h; exact Prod.ext h.1 (Prod.ext h.2.1 (by omega)))) v h)
theorem v_Alone {s:Sta} {c:Int} (h:OkS s):L46b.f 97 [.agg [.int .i64 s.id,.slc (s.fl.map Rng.enc),.slc (s.its.map It.enc),.slc (s.kn.map Pc.enc),.int .i64 s.ct],.int .i64 c] = some (.bool (aloneF s c)):=L46b_ref46_Alone (s,c) h
theorem v_Item {s:Sta} {c:Int} {i:Nat} (h:OkS s ∧ i < s.its.length):L46c.f 98 [.agg [.int .i64 s.id,.slc (s.fl.map Rng.enc),.slc (s.its.map It.enc),.slc (s.kn.map Pc.enc),.int .i64 s.ct],.int .i64 c,.int .i64 (i:Int)] = some (.bool (itemF s c i)):=L46c_ref46_Item (s,c,i) h
theorem v_Piece {s:Sta} {c:Int} {i:Nat} (h:OkS s ∧ i < s.kn.length):L46d.f 99 [.agg [.int .i64 s.id,.slc (s.fl.map Rng.enc),.slc (s.its.map It.enc),.slc (s.kn.map Pc.enc),.int .i64 s.ct],.int .i64 c,.int .i64 (i:Int)] = some (.bool (pieceF s c i)):=L46d_ref46_Piece (s,c,i) h
theorem row_map (l:List Fd) (x:Fd):l.map Fd.enc ++ [x.enc] = (l ++ [x]).map Fd.enc:=by rw [List.map_append]; rfl
theorem ok_ref46_State:codeOK Tryz.prog L46d Tryz.f40.ntmps (Tryz.f40.body.getD .skip) = true:=by kernel_rfl
theorem c_ref46_State (s:Sta) (h:OkS s):CallA Tryz.prog 40 [s.enc] (· = .slc ((allF s 12).map Fd.enc)):=by
 refine callA_of_body L46d_ok mixed Tryz.func40 rfl (Nat.le_of_ble_eq_true rfl) ok_ref46_State ?_
 unfold Tryz.f40
 have hil:=h.its.1
 have hkl:=h.kn.1
 have tk:∀ l:List Fd,(l.map Fd.enc).take l.length = l.map Fd.enc:=fun l=>List.take_of_length_le (by simp)
 simp only [Sta.enc,Sta.cells]
 simp -implicitDefEqProofs (maxSteps:=600000) (disch:=(first | omega | decide)) only [go_sem,↓reduceIte,seval]
 refine wpA_loop_nil 3 2 rfl ?_
 refine wpA_loop [1] (ι:={p:Nat // p ≤ 12}) (fun p=>[(4,.int .i64 ((p.1:Int) + 1)),(3,.row 1 0 2 (allF s p.1).length false)]) (fun p=>[(1,.row 2 ((allF s p.1).map Fd.enc))]) (fun p=>12 - p.1) ⟨0,by omega⟩ (Nat.zero_le _) ?_ ?_
 ·simp -implicitDefEqProofs (maxSteps:=600000) (disch:=(first | omega | decide)) only [go_sem,↓reduceIte,seval]
  try exact ⟨rfl,rfl⟩
  try rfl
 ·rintro ⟨p,hp⟩
  simp only
  have hlen:=allF_len s p
  have hlen':(allF s p).length ≤ 600:=by
   refine Nat.le_trans hlen (Nat.le_trans (Nat.mul_le_mul hp (show 1 + s.its.length + s.kn.length ≤ 49 by omega)) (by omega))
  by_cases hlt:p < 12
  ·have hlt':(p:Int) + 1 ≤ 12:=by omega
   have gA:=v_Alone (c:=(p:Int) + 1) h
   obtain ⟨L0,hL0⟩:∃ L0,allF s p ++ (if aloneF s ((p:Int) + 1) = true then [(⟨(p:Int) + 1,0⟩:Fd)] else []) = L0:=⟨_,rfl⟩
   have hl0:L0.length ≤ 601:=by
    rw [← hL0,List.length_append]
    have:(if aloneF s ((p:Int) + 1) = true then [(⟨(p:Int) + 1,0⟩:Fd)] else []).length ≤ 1:=by split <;> simp
    omega
   have hend:L0 ++ fdAt ((p:Int) + 1) (itemF s ((p:Int) + 1)) s.its.length ++ fdAt ((p:Int) + 1) (pieceF s ((p:Int) + 1)) s.kn.length = allF s (p + 1):=by
    rw [← hL0]
    simp only [allF,codeF,List.append_assoc]
   have tka:=tk (allF s p)
   cases ha:aloneF s ((p:Int) + 1)
   all_goals rw [ha] at gA hL0
   all_goals simp only [Bool.false_eq_true,if_false,if_true,List.append_nil] at hL0
   ·rw [hL0]
    rw [hL0] at tka
    simp -implicitDefEqProofs (maxSteps:=600000) (disch:=(first | omega | decide)) only [go_sem,↓reduceIte,seval,hlt',gA,List.length_map]
    refine wpA_loop [1,4] (ι:={q:Nat // q ≤ s.its.length}) (fun q=>[(5,.int .i64 q.1),(3,.row 1 0 2 (L0 ++ fdAt ((p:Int) + 1) (itemF s ((p:Int) + 1)) q.1).length false)]) (fun q=>[(1,.row 2 ((L0 ++ fdAt ((p:Int) + 1) (itemF s ((p:Int) + 1)) q.1).map Fd.enc))]) (fun q=>s.its.length - q.1) ⟨0,by omega⟩ (Nat.zero_le _) ?_ ?_
    ·simp -implicitDefEqProofs (maxSteps:=600000) (disch:=(first | omega | decide)) only [go_sem,↓reduceIte,seval,List.length_map,← List.map_append,← row_map]
     first | done | (simp [fdAt]; done) | (rw [← hL0]; simp [fdAt,Fd.enc]; done)
    ·rintro ⟨q,hq⟩
     simp only
     obtain ⟨L,hL⟩:∃ L,L0 ++ fdAt ((p:Int) + 1) (itemF s ((p:Int) + 1)) q = L:=⟨_,rfl⟩
     have hLl:L.length ≤ 700:=by rw [← hL]; simp only [List.length_append]; have:=fdAt_len ((p:Int) + 1) (itemF s ((p:Int) + 1)) s.its.length; have:=fdAt_len ((p:Int) + 1) (itemF s ((p:Int) + 1)) q; omega
     have tkL:=tk L
     by_cases hql:q < s.its.length
     ·have hql':(q:Int) < s.its.length:=by omega
      have gI:=v_Item (c:=(p:Int) + 1) (i:=q) ⟨h,hql⟩
      have hst:=fdAt_succ (c:=(p:Int) + 1) (f:=itemF s ((p:Int) + 1)) (n:=q)
      cases hi:itemF s ((p:Int) + 1) q <;> rw [hi] at gI hst
      ·have hn:L0 ++ fdAt ((p:Int) + 1) (itemF s ((p:Int) + 1)) (q + 1) = L:=by rw [hst,← hL]; simp
       rw [hL]
       simp -implicitDefEqProofs (maxSteps:=600000) (disch:=(first | omega | decide)) only [go_sem,↓reduceIte,seval,hql',gI,List.length_map,wrap_i64]
       exact ⟨⟨q + 1,hql⟩,⟨⟨by simp,by rw [hn]⟩,by rw [hn]⟩,by show s.its.length - (q + 1) < s.its.length - q; omega⟩
      ·have hn:L0 ++ fdAt ((p:Int) + 1) (itemF s ((p:Int) + 1)) (q + 1) = L ++ [⟨(p:Int) + 1,(q:Int)⟩]:=by rw [hst,← hL]; simp
       rw [hL]
       simp -implicitDefEqProofs (maxSteps:=600000) (disch:=(first | omega | decide)) only [go_sem,↓reduceIte,seval,hql',gI,tkL,List.length_map,wrap_i64]
       refine ⟨⟨Nat.le_refl _,by omega⟩,⟨q + 1,hql⟩,⟨⟨by simp,by rw [hn]; simp⟩,by rw [hn,← row_map]; rfl⟩,by show s.its.length - (q + 1) < s.its.length - q; omega⟩
     ·have hql':¬ (q:Int) < s.its.length:=by omega
      obtain rfl:q = s.its.length:=by omega
      rw [hL]
      simp -implicitDefEqProofs (maxSteps:=600000) (disch:=(first | omega | decide)) only [go_sem,↓reduceIte,seval,hql',List.length_map]
      subst hL
      refine wpA_loop [1,4] (ι:={q:Nat // q ≤ s.kn.length}) (fun q=>[(6,.int .i64 q.1),(3,.row 1 0 2 (L0 ++ fdAt ((p:Int) + 1) (itemF s ((p:Int) + 1)) s.its.length ++ fdAt ((p:Int) + 1) (pieceF s ((p:Int) + 1)) q.1).length false)]) (fun q=>[(1,.row 2 ((L0 ++ fdAt ((p:Int) + 1) (itemF s ((p:Int) + 1)) s.its.length ++ fdAt ((p:Int) + 1) (pieceF s ((p:Int) + 1)) q.1).map Fd.enc))]) (fun q=>s.kn.length - q.1) ⟨0,by omega⟩ (Nat.zero_le _) ?_ ?_
      ·simp -implicitDefEqProofs (maxSteps:=600000) (disch:=(first | omega | decide)) only [go_sem,↓reduceIte,seval,List.length_map,← List.map_append,← row_map]
       first | done | (simp [fdAt]; done) | (rw [← hL0]; simp [fdAt,Fd.enc]; done)
      ·rintro ⟨q,hq⟩
       simp only
       obtain ⟨L,hL⟩:∃ L,L0 ++ fdAt ((p:Int) + 1) (itemF s ((p:Int) + 1)) s.its.length ++ fdAt ((p:Int) + 1) (pieceF s ((p:Int) + 1)) q = L:=⟨_,rfl⟩
       have hLl:L.length ≤ 700:=by rw [← hL]; simp only [List.length_append]; have:=fdAt_len ((p:Int) + 1) (itemF s ((p:Int) + 1)) s.its.length; have:=fdAt_len ((p:Int) + 1) (pieceF s ((p:Int) + 1)) q; omega
       have tkL:=tk L
       by_cases hql:q < s.kn.length
       ·have hql':(q:Int) < s.kn.length:=by omega
        have gI:=v_Piece (c:=(p:Int) + 1) (i:=q) ⟨h,hql⟩
        have hst:=fdAt_succ (c:=(p:Int) + 1) (f:=pieceF s ((p:Int) + 1)) (n:=q)
        cases hi:pieceF s ((p:Int) + 1) q <;> rw [hi] at gI hst
        ·have hn:L0 ++ fdAt ((p:Int) + 1) (itemF s ((p:Int) + 1)) s.its.length ++ fdAt ((p:Int) + 1) (pieceF s ((p:Int) + 1)) (q + 1) = L:=by rw [hst,← hL]; simp
         rw [hL]
         simp -implicitDefEqProofs (maxSteps:=600000) (disch:=(first | omega | decide)) only [go_sem,↓reduceIte,seval,hql',gI,List.length_map,wrap_i64]
         exact ⟨⟨q + 1,hql⟩,⟨⟨by simp,by rw [hn]⟩,by rw [hn]⟩,by show s.kn.length - (q + 1) < s.kn.length - q; omega⟩
        ·have hn:L0 ++ fdAt ((p:Int) + 1) (itemF s ((p:Int) + 1)) s.its.length ++ fdAt ((p:Int) + 1) (pieceF s ((p:Int) + 1)) (q + 1) = L ++ [⟨(p:Int) + 1,(q:Int)⟩]:=by rw [hst,← hL]; simp
         rw [hL]
         simp -implicitDefEqProofs (maxSteps:=600000) (disch:=(first | omega | decide)) only [go_sem,↓reduceIte,seval,hql',gI,tkL,List.length_map,wrap_i64]
         refine ⟨⟨Nat.le_refl _,by omega⟩,⟨q + 1,hql⟩,⟨⟨by simp,by rw [hn]; simp⟩,by rw [hn,← row_map]; rfl⟩,by show s.kn.length - (q + 1) < s.kn.length - q; omega⟩
       ·have hql':¬ (q:Int) < s.kn.length:=by omega
        obtain rfl:q = s.kn.length:=by omega
        rw [hL]
        simp -implicitDefEqProofs (maxSteps:=600000) (disch:=(first | omega | decide)) only [go_sem,↓reduceIte,seval,hql',List.length_map,wrap_i64]
        exact ⟨⟨p + 1,by omega⟩,⟨⟨by simp,by rw [← hL,hend]⟩,by rw [← hL,hend]⟩,by show 12 - (p + 1) < 12 - p; omega⟩
   ·simp -implicitDefEqProofs (maxSteps:=600000) (disch:=(first | omega | decide)) only [go_sem,↓reduceIte,seval,hlt',gA,tka,List.length_map]
    refine ⟨⟨Nat.le_refl _,by omega⟩,?_⟩
    refine wpA_loop [1,4] (ι:={q:Nat // q ≤ s.its.length}) (fun q=>[(5,.int .i64 q.1),(3,.row 1 0 2 (L0 ++ fdAt ((p:Int) + 1) (itemF s ((p:Int) + 1)) q.1).length false)]) (fun q=>[(1,.row 2 ((L0 ++ fdAt ((p:Int) + 1) (itemF s ((p:Int) + 1)) q.1).map Fd.enc))]) (fun q=>s.its.length - q.1) ⟨0,by omega⟩ (Nat.zero_le _) ?_ ?_
    ·simp -implicitDefEqProofs (maxSteps:=600000) (disch:=(first | omega | decide)) only [go_sem,↓reduceIte,seval,List.length_map,← List.map_append,← row_map]
     first | done | (simp [fdAt]; done) | (rw [← hL0]; simp [fdAt,Fd.enc]; done)
    ·rintro ⟨q,hq⟩
     simp only
     obtain ⟨L,hL⟩:∃ L,L0 ++ fdAt ((p:Int) + 1) (itemF s ((p:Int) + 1)) q = L:=⟨_,rfl⟩
     have hLl:L.length ≤ 700:=by rw [← hL]; simp only [List.length_append]; have:=fdAt_len ((p:Int) + 1) (itemF s ((p:Int) + 1)) s.its.length; have:=fdAt_len ((p:Int) + 1) (itemF s ((p:Int) + 1)) q; omega
     have tkL:=tk L
     by_cases hql:q < s.its.length
     ·have hql':(q:Int) < s.its.length:=by omega
      have gI:=v_Item (c:=(p:Int) + 1) (i:=q) ⟨h,hql⟩
      have hst:=fdAt_succ (c:=(p:Int) + 1) (f:=itemF s ((p:Int) + 1)) (n:=q)
      cases hi:itemF s ((p:Int) + 1) q <;> rw [hi] at gI hst
      ·have hn:L0 ++ fdAt ((p:Int) + 1) (itemF s ((p:Int) + 1)) (q + 1) = L:=by rw [hst,← hL]; simp
       rw [hL]
       simp -implicitDefEqProofs (maxSteps:=600000) (disch:=(first | omega | decide)) only [go_sem,↓reduceIte,seval,hql',gI,List.length_map,wrap_i64]
       exact ⟨⟨q + 1,hql⟩,⟨⟨by simp,by rw [hn]⟩,by rw [hn]⟩,by show s.its.length - (q + 1) < s.its.length - q; omega⟩
      ·have hn:L0 ++ fdAt ((p:Int) + 1) (itemF s ((p:Int) + 1)) (q + 1) = L ++ [⟨(p:Int) + 1,(q:Int)⟩]:=by rw [hst,← hL]; simp
       rw [hL]
       simp -implicitDefEqProofs (maxSteps:=600000) (disch:=(first | omega | decide)) only [go_sem,↓reduceIte,seval,hql',gI,tkL,List.length_map,wrap_i64]
       refine ⟨⟨Nat.le_refl _,by omega⟩,⟨q + 1,hql⟩,⟨⟨by simp,by rw [hn]; simp⟩,by rw [hn,← row_map]; rfl⟩,by show s.its.length - (q + 1) < s.its.length - q; omega⟩
     ·have hql':¬ (q:Int) < s.its.length:=by omega
      obtain rfl:q = s.its.length:=by omega
      rw [hL]
      simp -implicitDefEqProofs (maxSteps:=600000) (disch:=(first | omega | decide)) only [go_sem,↓reduceIte,seval,hql',List.length_map]
      subst hL
      refine wpA_loop [1,4] (ι:={q:Nat // q ≤ s.kn.length}) (fun q=>[(6,.int .i64 q.1),(3,.row 1 0 2 (L0 ++ fdAt ((p:Int) + 1) (itemF s ((p:Int) + 1)) s.its.length ++ fdAt ((p:Int) + 1) (pieceF s ((p:Int) + 1)) q.1).length false)]) (fun q=>[(1,.row 2 ((L0 ++ fdAt ((p:Int) + 1) (itemF s ((p:Int) + 1)) s.its.length ++ fdAt ((p:Int) + 1) (pieceF s ((p:Int) + 1)) q.1).map Fd.enc))]) (fun q=>s.kn.length - q.1) ⟨0,by omega⟩ (Nat.zero_le _) ?_ ?_
      ·simp -implicitDefEqProofs (maxSteps:=600000) (disch:=(first | omega | decide)) only [go_sem,↓reduceIte,seval,List.length_map,← List.map_append,← row_map]
       first | done | (simp [fdAt]; done) | (rw [← hL0]; simp [fdAt,Fd.enc]; done)
      ·rintro ⟨q,hq⟩
       simp only
       obtain ⟨L,hL⟩:∃ L,L0 ++ fdAt ((p:Int) + 1) (itemF s ((p:Int) + 1)) s.its.length ++ fdAt ((p:Int) + 1) (pieceF s ((p:Int) + 1)) q = L:=⟨_,rfl⟩
       have hLl:L.length ≤ 700:=by rw [← hL]; simp only [List.length_append]; have:=fdAt_len ((p:Int) + 1) (itemF s ((p:Int) + 1)) s.its.length; have:=fdAt_len ((p:Int) + 1) (pieceF s ((p:Int) + 1)) q; omega
       have tkL:=tk L
       by_cases hql:q < s.kn.length
       ·have hql':(q:Int) < s.kn.length:=by omega
        have gI:=v_Piece (c:=(p:Int) + 1) (i:=q) ⟨h,hql⟩
        have hst:=fdAt_succ (c:=(p:Int) + 1) (f:=pieceF s ((p:Int) + 1)) (n:=q)
        cases hi:pieceF s ((p:Int) + 1) q <;> rw [hi] at gI hst
        ·have hn:L0 ++ fdAt ((p:Int) + 1) (itemF s ((p:Int) + 1)) s.its.length ++ fdAt ((p:Int) + 1) (pieceF s ((p:Int) + 1)) (q + 1) = L:=by rw [hst,← hL]; simp
         rw [hL]
         simp -implicitDefEqProofs (maxSteps:=600000) (disch:=(first | omega | decide)) only [go_sem,↓reduceIte,seval,hql',gI,List.length_map,wrap_i64]
         exact ⟨⟨q + 1,hql⟩,⟨⟨by simp,by rw [hn]⟩,by rw [hn]⟩,by show s.kn.length - (q + 1) < s.kn.length - q; omega⟩
        ·have hn:L0 ++ fdAt ((p:Int) + 1) (itemF s ((p:Int) + 1)) s.its.length ++ fdAt ((p:Int) + 1) (pieceF s ((p:Int) + 1)) (q + 1) = L ++ [⟨(p:Int) + 1,(q:Int)⟩]:=by rw [hst,← hL]; simp
         rw [hL]
         simp -implicitDefEqProofs (maxSteps:=600000) (disch:=(first | omega | decide)) only [go_sem,↓reduceIte,seval,hql',gI,tkL,List.length_map,wrap_i64]
         refine ⟨⟨Nat.le_refl _,by omega⟩,⟨q + 1,hql⟩,⟨⟨by simp,by rw [hn]; simp⟩,by rw [hn,← row_map]; rfl⟩,by show s.kn.length - (q + 1) < s.kn.length - q; omega⟩
       ·have hql':¬ (q:Int) < s.kn.length:=by omega
        obtain rfl:q = s.kn.length:=by omega
        rw [hL]
        simp -implicitDefEqProofs (maxSteps:=600000) (disch:=(first | omega | decide)) only [go_sem,↓reduceIte,seval,hql',List.length_map,wrap_i64]
        exact ⟨⟨p + 1,by omega⟩,⟨⟨by simp,by rw [← hL,hend]⟩,by rw [← hL,hend]⟩,by show 12 - (p + 1) < 12 - p; omega⟩
  ·have hlt':¬ (p:Int) + 1 ≤ 12:=by omega
   obtain rfl:p = 12:=by omega
   have tka:=tk (allF s 12)
   simp -implicitDefEqProofs (maxSteps:=600000) (disch:=(first | omega | decide)) only [go_sem,↓reduceIte,seval,hlt',tka,List.length_map]
   exact Nat.le_refl _
end Go.Proofs.YtjfdlpagcgpaoaaGreat
namespace Go.Proofs.YtjfdlpagcgpaoaaGreat
set_option linter.unusedSimpArgs false
set_option linter.unusedVariables false
theorem compZ_up:∀ {l:List Int},l.Pairwise (fun x y=>x ≤ y) → (compL l).Pairwise (fun x y=>x < y)
 | [],_=>by simp [compL]
 | [x],_=>by simp [compL]
 | x :: y :: l,h=>by
  rw [List.pairwise_cons] at h
  have ih:=compZ_up h.2
  simp only [compL]
  split
  ·exact ih
  ·rename_i hne
   have hxy:x < y:=by have:=h.1 y (by simp); omega
   rw [List.pairwise_cons]
   refine ⟨fun z hz=>?_,ih⟩
   rw [compL_mem] at hz
   rcases List.mem_cons.1 hz with rfl | hz
   ·exact hxy
   ·have:=(List.pairwise_cons.1 h.2).1 z hz; omega
theorem compL_pre {α:Type} [DecidableEq α] {l:List α}:∀ (d k:Nat),k + d = l.length → compL (l.take k) <+: compL l
 | 0,k,h=>by rw [List.take_of_length_le (by omega)]; exact List.prefix_rfl
 | d + 1,k,h=>by
  refine List.IsPrefix.trans ?_ (compL_pre d (k + 1) (by omega))
  by_cases k0:k = 0
  ·subst k0; simp [compL]
  ·rw [compL_step (by omega) (by omega)]
   split
   ·exact List.prefix_rfl
   ·exact List.prefix_append _ _
theorem compL_one {α:Type} [DecidableEq α] {l:List α} (h:0 < l.length):compL (l.take 1) = [l[0]]:=by
 cases l with
 | nil=>simp at h
 | cons x l=>rfl
theorem codes_next {α:Type} [DecidableEq α] {l:List α} {k:Nat} (h:k < l.length) (hk:∀ h0:0 < k,l[k - 1] ≠ l[k]) :
 (compL (l.take k)).length < (compL l).length ∧ (compL l)[(compL (l.take k)).length]? = some l[k] ∧ (compL (l.take (k + 1))).length = (compL (l.take k)).length + 1:=by
 have e:compL (l.take (k + 1)) = compL (l.take k) ++ [l[k]]:=by
  by_cases k0:k = 0
  ·subst k0; rw [compL_one h]; rfl
  ·rw [compL_step (by omega) h,if_neg (hk (by omega))]
 obtain ⟨t,ht⟩:=compL_pre (l:=l) (l.length - (k + 1)) (k + 1) (by omega)
 rw [e] at ht
 rw [e,← ht]
 simp
theorem codes_stay {α:Type} [DecidableEq α] {l:List α} {k:Nat} (h:k < l.length) (h0:0 < k) (hk:l[k - 1] = l[k]):compL (l.take (k + 1)) = compL (l.take k):=by
 rw [compL_step (by omega) h,if_pos hk]
end Go.Proofs.YtjfdlpagcgpaoaaGreat
namespace Go.Abs
open Go.RowKit
theorem callH_sorted1 {P:Program} {f:FuncId} {k:Nat} {c:Bool} {es es':List A} {D:List Value} (hk:0 < k) (hD:∀ E,RowRel E k es' D) (hp:A.pure.pureL es' = true) (h1:∀ u ∈ D,u.oneCell' = true) (hlen:es'.length = es.length)
 (hnil:es = [] → ∀ (w:World) (q:Option Addr) (cap:Nat),Calls P f #[.slice q 0 cap] w fun e w'=>e = .returned (.tuple #[]) ∧ w' = w)
 (hcall:∀ (E:Env) (b cap:Nat) (cc:Array Value) (e:TypeId) (fr:Nat × Nat),es ≠ [] → E.w.heap[b]? = some (.cells cc e fr) → Unfrozen cc fr → RepE E k b 0 es → k * cap ≤ cc.size → es.length ≤ cap →
  Calls P f #[.slice (some ⟨b,0,none⟩) es.length cap] E.w fun e w'=>e = .returned (.tuple #[]) ∧ SortTurn b D E.w w') :
 CallH P f [.row 0 0 k es.length c] [.row k es] (.tup []) [.row k es'] []:=by
 intro N φ w vs hN hrel hfree hrep
 simp only [RepL] at hrep
 obtain ⟨v0,_,rfl,hv0,rfl⟩:=hrep
 have hφl:φ.length = 1:=hrel.len
 have stay:∀ (w':World),w' = w → ∃ v φ',(Ending.returned (.tuple #[]):Ending) = .returned v ∧ Rep (envOf N φ' w') (.tup []) v ∧ HeapRel N φ' [.row k es] w' ∧ TurnH φ w [] φ' w' ∧ 1 ≤ 1:=by
  rintro w' rfl
  exact ⟨_,φ,rfl,by simp [Rep,RepL],hrel,⟨rfl,rfl,rfl,Nat.le_refl _,Nat.le_refl _,fun _ _ _=>rfl,fun _ c _ fr h=>⟨c,fr,h,rfl⟩,fun n b k hn=>.inr ⟨n,k,hn⟩,fun _ _ _ h=>h⟩,Nat.le_refl _⟩
 have nilcase:es = [] → ∀ (q:Option Addr) (cap:Nat),Calls P f #[.slice q 0 cap] w fun e w'=>∃ v φ',e = .returned v ∧ Rep (envOf N φ' w') (.tup []) v ∧ HeapRel N φ' [.row k es'] w' ∧ TurnH φ w [] φ' w' ∧ [Obj.row k es].length ≤ [Obj.row k es'].length:=by
  intro hes q cap
  have hes':es' = es:=by subst hes; exact List.length_eq_zero_iff.1 (by simpa using hlen)
  rw [hes']
  refine Calls.mono (hnil hes w q cap) ?_
  rintro e w' ⟨rfl,hw⟩
  exact stay w' hw
 by_cases hes:es = []
 ·have hl0:es.length = 0:=by rw [hes]; rfl
  simp only [Rep] at hv0
  rcases hv0 with ⟨o,_,_,_,_,q,rfl⟩ | ⟨b,cap,c',e',fr,hφ,rfl,hlc,_,hb,hfit⟩
  ·exact nilcase hes q 0
  ·rw [hl0]; exact nilcase hes _ cap
 ·simp only [Rep] at hv0
  rcases hv0 with ⟨o,_,_,h0,_⟩ | ⟨b,cap,c',e',fr,hφ,rfl,hlc,_,hb,hfit⟩
  ·exact absurd (List.length_eq_zero_iff.1 h0) hes
  ·have hob:=hrel.objs 0 (.row k es) (.loc b k) rfl hφ
   simp only [ObjRel] at hob
   obtain ⟨_,hpe,⟨cc,ee,ffr,hcc,hunf⟩,hE⟩:=hob
   have hb':w.heap[b]? = some (.cells c' e' fr):=hb
   have hcc':w.heap[b]? = some (.cells cc ee ffr):=hcc
   rw [hb'] at hcc'
   simp only [Option.some.injEq,Go.Obj.cells.injEq] at hcc'
   obtain ⟨rfl,rfl,rfl⟩:=hcc'
   rw [Nat.zero_mul] at hfit ⊢
   refine Calls.mono (hcall (envOf N φ w) b cap c' e' fr hes hb' hunf hE (by omega) hlc) ?_
   rintro e w' ⟨rfl,hT⟩
   obtain ⟨cc',hcc',hsz⟩:=hT.self c' e' fr hb'
   have hwid:w'.heap.size ≥ w.heap.size:=hT.size
   refine ⟨_,φ,rfl,by simp [Rep,RepL],?_,?_,Nat.le_refl _⟩
   ·exact {
     len:=by simpa using hφl
     objs:=fun n o p ho hp'=>by
      cases n with
      | succ n=>simp [nthO] at ho
      | zero=>
       simp only [nthO,Option.some.injEq] at ho
       subst ho
       have hφ':φ[0]? = some (Own.loc b k):=hφ
       rw [hφ'] at hp'
       obtain rfl:=Option.some.inj hp'
       simp only [ObjRel]
       refine ⟨trivial,hp,⟨cc',e',fr,hcc',fun j hj=>hunf j (by omega)⟩,?_⟩
       exact RowRel.mem (hD (envOf N φ w')) hT.cells h1
     own:=fun n b' k' hn=>⟨Nat.lt_of_lt_of_le (hrel.own n b' k' hn).1 hT.size,(hrel.own n b' k' hn).2⟩
     inj:=hrel.inj }
   ·exact {
     os:=hT.os
     tape:=hT.tape
     output:=hT.output
     drawn:=hT.drawn
     size:=hT.size
     block:=fun b' hb' hno=>hT.block b' hb' fun e=>by subst e; exact hno 0 k hφ
     shape:=fun b' c₁ e₁ fr₁ h₁=>by
      by_cases hbb:b' = b
      ·subst hbb
       obtain ⟨c₂,h₂,h₃⟩:=hT.self c₁ e₁ fr₁ h₁
       exact ⟨c₂,fr₁,h₂,h₃⟩
      ·have:b' < w.heap.size:=(Array.getElem?_eq_some_iff.1 h₁).1
       exact ⟨c₁,fr₁,by rw [hT.block b' this hbb]; exact h₁,rfl⟩
     own:=fun n b' k' hn=>.inr ⟨n,k',hn⟩
     stay:=fun _ _ _ h=>h }
def sortZ (l:List Int):List Int:=l.mergeSort fun x y=>decide (x ≤ y)
theorem sortZ_spec (l:List Int):(sortZ l).Perm l ∧ (sortZ l).Pairwise (fun x y=>x ≤ y):=by
 refine ⟨List.mergeSort_perm _ _,?_⟩
 have:=List.pairwise_mergeSort (le:=fun x y:Int=>decide (x ≤ y)) (fun a b c h h'=>by simp only [decide_eq_true_eq] at *; omega) (fun a b=>by simp only [Bool.or_eq_true,decide_eq_true_eq]; omega) l
 exact this.imp fun {a b} h=>by simpa using h
open Go.Shelf Go.Lib Go.Sort Go.Proofs in
/-- slices.Sort of numbers. -/
theorem sort_ints {P:Program} {ρ:Ren} (L:Lays.n189 P ρ) (l:List Int) (hsz:l.length < 4611686018427387904) (c:Bool) :
 CallH P (ρ.f 189) [.row 0 0 1 l.length c] [.row 1 (l.map (.int .i64 ·))] (.tup []) [.row 1 ((sortZ l).map (.int .i64 ·))] []:=by
 have hperm:=(sortZ_spec l).1
 have hl1:(l.map (A.int .i64 ·)).length = l.length:=List.length_map _
 have hs:∀ x:Int,scalar (A.int .i64 x) = true:=fun _=>rfl
 have:=callH_sorted1 (P:=P) (f:=ρ.f 189) (k:=1) (c:=c) (es:=l.map (A.int .i64 ·)) (es':=(sortZ l).map (A.int .i64 ·)) (D:=(sortZ l).map fun x=>encV (A.int .i64 x)) (by omega)
  (fun E=>rowRel_one hs _) (pureL_map (fun x=>pure_scalar (hs x)) _) (fun u hu=>by
   obtain ⟨x,_,rfl⟩:=List.mem_map.1 hu
   exact one_scalar (hs x)) (by rw [List.length_map,List.length_map]; exact hperm.length_eq)
  (fun _ w q cap=>Any.slices_Sort_int_none L q cap w) ?_
 ·rw [hl1] at this; exact this
 intro E b cap cc e fr hne hb hunf hE hfit hlc
 rw [hl1] at hlc ⊢
 have hbs:b < E.w.heap.size:=(Array.getElem?_eq_some_iff.1 hb).1
 have hH:Holds (Value.int .i64) E.w b 0 l.toArray:=by
  intro j hj
  have hj':j < l.length:=by simpa using hj
  refine ⟨?_,by rw [Nat.zero_add]; exact unfrozen_at hb hunf (by omega)⟩
  obtain ⟨_,hM⟩:=RepE_iff.1 hE j (A.int .i64 l[j]) (by simp [hj'])
  obtain ⟨v,hv,_,hrep⟩:=RepM_one.1 hM
  simp only [Rep] at hrep
  rw [Nat.mul_one] at hv
  rw [hv,hrep,getElem!_pos l.toArray j hj]; simp
 have hmain:=Any.slices_Sort_int L b 0 cap l E.w hH hbs hsz
 refine Calls.mono hmain ?_
 rintro e w' ⟨rfl,n,os,rfl⟩
 refine ⟨rfl,?_⟩
 have hput:∀ (w:World) (d:Array Int),putRow (Value.int .i64) w b 0 d = putRow id w b 0 (d.map (Value.int .i64)):=fun w d=>by
  unfold putRow
  congr 1
  funext c
  unfold putCells
  apply Array.ext
  ·simp
  ·intro i h1 h2
   simp only [Array.getElem_mapIdx,Array.size_map,Nat.zero_le,true_and,Nat.zero_add,Nat.sub_zero,id]
   by_cases hq:i < d.size
   ·simp [hq]
   ·simp [hq]
 rw [hput]
 have hH0:Holds id E.w b 0 (l.toArray.map (Value.int .i64)):=by
  intro j hj
  have hj':j < l.toArray.size:=by simpa using hj
  obtain ⟨g1,g2⟩:=hH j hj'
  refine ⟨?_,g2⟩
  rw [g1,getElem!_pos l.toArray j hj',getElem!_pos (l.toArray.map (Value.int .i64)) j hj]; simp
 have:=turn_of_put (n:=n) (os:=os) (F:=((sortZ l).toArray.map (Value.int .i64))) hH0 (by simp only [Array.size_map,List.size_toArray]; exact hperm.length_eq) hbs
 have e:((sortZ l).toArray.map (Value.int .i64)).toList = (sortZ l).map fun x=>encV (A.int .i64 x):=by
  simp [encV]
 rw [e] at this
 exact this
end Go.Abs
namespace Go.Proofs
open Go.Shelf
def YtjfdlpagcgpaoaaGreat.sortInt_ren:Go.Shelf.Ren:=⟨fun | 189=>100 | 125=>140 | 257=>160 | 128=>192 | 129=>193 | 294=>207 | 295=>208 | 296=>209 | 297=>210 | 298=>211 | 299=>212 | 216=>213 | 300=>214 | 301=>215 | 328=>241 | 329=>232 | 330=>233 | 331=>242 | 332=>243 | 215=>244 | 343=>281 | n=>n,fun | 28=>63 | 3=>3 | 46=>162 | 0=>0 | 51=>48 | 53=>210 | 4=>4 | 183=>202 | 182=>201 | 131=>206 | 5=>5 | 9=>9 | 218=>234 | 222=>238 | 228=>254 | 229=>255 | n=>n,fun | n=>n⟩
theorem YtjfdlpagcgpaoaaGreat.sortInt:Go.Proofs.Lays.n189 Tryz.prog YtjfdlpagcgpaoaaGreat.sortInt_ren:={
 mixed:=by kernel_rfl
 f125:=Tryz.func140.trans (congrArg some (by kernel_rfl))
 f128:=Tryz.func192.trans (congrArg some (by kernel_rfl))
 f129:=Tryz.func193.trans (congrArg some (by kernel_rfl))
 f189:=Tryz.func100.trans (congrArg some (by kernel_rfl))
 f215:=Tryz.func244.trans (congrArg some (by kernel_rfl))
 f216:=Tryz.func213.trans (congrArg some (by kernel_rfl))
 f257:=Tryz.func160.trans (congrArg some (by kernel_rfl))
 f294:=Tryz.func207.trans (congrArg some (by kernel_rfl))
 f295:=Tryz.func208.trans (congrArg some (by kernel_rfl))
 f296:=Tryz.func209.trans (congrArg some (by kernel_rfl))
 f297:=Tryz.func210.trans (congrArg some (by kernel_rfl))
 f298:=Tryz.func211.trans (congrArg some (by kernel_rfl))
 f299:=Tryz.func212.trans (congrArg some (by kernel_rfl))
 f300:=Tryz.func214.trans (congrArg some (by kernel_rfl))
 f301:=Tryz.func215.trans (congrArg some (by kernel_rfl))
 f328:=Tryz.func241.trans (congrArg some (by kernel_rfl))
 f329:=Tryz.func232.trans (congrArg some (by kernel_rfl))
 f330:=Tryz.func233.trans (congrArg some (by kernel_rfl))
 f331:=Tryz.func242.trans (congrArg some (by kernel_rfl))
 f332:=Tryz.func243.trans (congrArg some (by kernel_rfl))
 f343:=Tryz.func281.trans (congrArg some (by kernel_rfl))
 t0:=Tryz.underlying0
 a0:=Tryz.isAgg0
 z0:=Tryz.sizeOf0
 v0:=Tryz.zeroValue0
 t3:=Tryz.underlying3
 a3:=Tryz.isAgg3
 z3:=Tryz.sizeOf3
 v3:=Tryz.zeroValue3
 t4:=Tryz.underlying4
 a4:=Tryz.isAgg4
 z4:=Tryz.sizeOf4
 v4:=Tryz.zeroValue4
 t5:=Tryz.underlying5
 a5:=Tryz.isAgg5
 z5:=Tryz.sizeOf5
 v5:=Tryz.zeroValue5
 t9:=Tryz.underlying9
 a9:=Tryz.isAgg9
 z9:=Tryz.sizeOf9
 v9:=Tryz.zeroValue9
 t28:=Tryz.underlying63
 a28:=Tryz.isAgg63
 z28:=Tryz.sizeOf63
 v28:=Tryz.zeroValue63
 t46:=Tryz.underlying162
 a46:=Tryz.isAgg162
 z46:=Tryz.sizeOf162
 v46:=Tryz.zeroValue162
 t51:=Tryz.underlying48
 a51:=Tryz.isAgg48
 z51:=Tryz.sizeOf48
 v51:=Tryz.zeroValue48
 t53:=Tryz.underlying210
 a53:=Tryz.isAgg210
 z53:=Tryz.sizeOf210
 v53:=Tryz.zeroValue210
 t131:=Tryz.underlying206
 a131:=Tryz.isAgg206
 z131:=Tryz.sizeOf206
 v131:=Tryz.zeroValue206
 t182:=Tryz.underlying201
 a182:=Tryz.isAgg201
 z182:=Tryz.sizeOf201
 v182:=Tryz.zeroValue201
 t183:=Tryz.underlying202
 a183:=Tryz.isAgg202
 z183:=Tryz.sizeOf202
 v183:=Tryz.zeroValue202
 t218:=Tryz.underlying234
 a218:=Tryz.isAgg234
 z218:=Tryz.sizeOf234
 v218:=Tryz.zeroValue234
 t222:=Tryz.underlying238
 a222:=Tryz.isAgg238
 z222:=Tryz.sizeOf238
 v222:=Tryz.zeroValue238
 t228:=Tryz.underlying254
 a228:=Tryz.isAgg254
 z228:=Tryz.sizeOf254
 v228:=Tryz.zeroValue254
 t229:=Tryz.underlying255
 a229:=Tryz.isAgg255
 z229:=Tryz.sizeOf255
 v229:=Tryz.zeroValue255 }
end Go.Proofs
namespace Go.Proofs.YtjfdlpagcgpaoaaGreat
open Go.Abs
set_option linter.unusedSimpArgs false
set_option linter.unusedVariables false
set_option maxRecDepth 20000
set_option maxHeartbeats 8000000
noncomputable def TCi:Tab:={ T12z with fix:=fun n=>n == 0,nf:=1 }
theorem TCi_ok:TabOK Tryz.prog TCi:=⟨T12z_ok.f,T12z_ok.hp⟩
@[go_sem] theorem TCi_ords {n:Nat}:TCi.ords n = []:=rfl
theorem ok_slices_Compact_int_int:codeOK Tryz.prog TCi Tryz.f101.ntmps (Tryz.f101.body.getD .skip) = true:=by kernel_rfl
theorem c_Compact_Int (l:List Int) (hl:l.length ≤ 4611686018427387903):CallH Tryz.prog 101 [.row 0 0 1 l.length false] [.row 1 (l.map (A.int .i64))]
 (.row 0 0 1 (compL l).length false) [.row 1 ((compL l ++ List.replicate (l.length - (compL l).length) (0:Int)).map (A.int .i64))] []:=by
 refine callH_of_body TCi_ok mixed Tryz.func101 rfl (Nat.le_of_ble_eq_true rfl) (fun n h _=>by simp at h; subst h; rfl) (by show _ ≤ 1; simp) (by show 1 ≤ _; simp) ok_slices_Compact_int_int ?_
 unfold Tryz.f101
 by_cases h2:(l.length:Int) < 2
 ·have hc:compL l = l:=by
   match l,h2 with
   | [],_=>rfl
   | [x],_=>rfl
   | _ :: _ :: _,h=>simp at h; omega
  rw [hc]
  simp -implicitDefEqProofs (maxSteps:=600000) (disch:=(first | omega | decide)) only [go_sem,↓reduceIte,seval,h2,List.length_map]
  simp
 ·simp -implicitDefEqProofs (maxSteps:=600000) (disch:=(first | omega | decide)) only [go_sem,↓reduceIte,seval,h2,List.length_map]
  refine wpA_loop [0] (ι:={k:Nat // 1 ≤ k ∧ k ≤ l.length ∧ compL (l.take k) = l.take k}) (fun p=>[(3,.int .i64 p.1)]) (fun _=>[]) (fun p=>l.length - p.1) ⟨1,by omega,by omega,by match l with | []=>rfl | [x]=>rfl | x :: y :: l=>rfl⟩ (by show 1 ≤ _; simp) ?_ ?_
  ·simp -implicitDefEqProofs (maxSteps:=600000) (disch:=(first | omega | decide)) only [go_sem,↓reduceIte,seval]
  ·rintro ⟨k,hk1,hk,hd⟩
   simp only
   by_cases hlt:k < l.length
   ·have hlt':(k:Int) < (l.length:Int):=by omega
    have hstep:=compL_step hk1 hlt
    have e1:(l.map (A.int .i64))[k]? = some (.int .i64 l[k]):=by
     rw [List.getElem?_map,List.getElem?_eq_getElem hlt]; rfl
    have e0:(l.map (A.int .i64))[k - 1]? = some (.int .i64 l[k - 1]):=by
     rw [List.getElem?_map,List.getElem?_eq_getElem (by omega)]; rfl
    have t0:((k:Int) - 1).toNat = k - 1:=by omega
    have b0:(0:Int) ≤ (k:Int) - 1:=by omega
    have b1:(k:Int) - 1 < (l.length:Int):=by omega
    generalize hx:l[k] = x at e1 hstep
    generalize hy:l[k - 1] = y at e0 hstep
    have next:y ≠ x → compL (l.take (k + 1)) = l.take (k + 1):=fun hne=>by
     rw [hstep,if_neg hne,hd,← hx]; exact List.take_append_getElem hlt
    cases h3:x == y with
    | true=>
     obtain rfl:x = y:=by simpa using h3
     have b2:(k:Int) ≤ (l.length:Int):=by omega
     rw [if_pos rfl] at hstep
     have hlen:(compL (l.take (k + 1))).length = k:=by rw [hstep,hd,List.length_take]; omega
     have tk:((l.length:Int) - (k:Int)).toNat = l.length - k:=by omega
     simp -implicitDefEqProofs (maxSteps:=600000) (disch:=(first | omega | decide)) only [go_sem,↓reduceIte,seval,hlt',e1,e0,t0,b0,b1,b2,tk,h3,wrap_i64,List.length_map,Int.le_refl]
     clear next e1 e0 hx hy h3 t0 b0
     refine wpA_loop [0,4] (ι:={p:Nat × Nat × List Int // 1 ≤ p.1 ∧ k + p.1 ≤ l.length ∧ p.2.1 = (compL (l.take (k + p.1))).length ∧ p.2.2.length = l.length ∧ p.2.2.take p.2.1 = compL (l.take (k + p.1)) ∧ p.2.2.drop (k + p.1 - 1) = l.drop (k + p.1 - 1) ∧ p.2.1 ≤ k + p.1 - 1}) (fun p=>[(3,.int .i64 p.1.2.1),(5,.int .i64 p.1.1)]) (fun p=>[(0,.row 1 (p.1.2.2.map (A.int .i64)))]) (fun p=>l.length - p.1.1) ⟨(1,k,l),by omega,hlt,hlen.symm,rfl,by rw [hstep,hd],rfl,by show k ≤ k + 1 - 1; omega⟩ (by show 1 ≤ _; simp) ?_ ?_
     ·simp -implicitDefEqProofs (maxSteps:=600000) (disch:=(first | omega | decide)) only [go_sem,↓reduceIte,seval]
     ·rintro ⟨⟨j,m,e⟩,hj1,hj,hm,he,htk,hdr,hmj⟩
      simp only at hj1 hj hm he htk hdr hmj
      have get:∀ i,k + j - 1 ≤ i → e[i]? = l[i]?:=fun i hi=>by
           have:=congrArg (fun x:List Int=>x[i - (k + j - 1)]?) hdr
           simp only [List.getElem?_drop] at this
           rwa [show k + j - 1 + (i - (k + j - 1)) = i by omega] at this
      by_cases hq:k + j < l.length
      ·have hq':(j:Int) < ((l.length - k:Nat):Int):=by omega
       have hstep:=compL_step (l:=l) (k:=k + j) (by omega) hq
       have e1:(e.map (A.int .i64))[k + j]? = some (.int .i64 l[k + j]):=by
        rw [List.getElem?_map,get _ (by omega),List.getElem?_eq_getElem hq]; rfl
       have e0:(e.map (A.int .i64))[k + (j - 1)]? = some (.int .i64 l[k + j - 1]):=by
        rw [List.getElem?_map,get _ (by omega),show k + (j - 1) = k + j - 1 by omega,List.getElem?_eq_getElem (by omega)]; rfl
       have t0:((j:Int) - 1).toNat = j - 1:=by omega
       have b0:(0:Int) ≤ (j:Int) - 1:=by omega
       have b3:(j:Int) - 1 < ((l.length - k:Nat):Int):=by omega
       generalize hx:l[k + j] = x at e1 hstep
       generalize hy:l[k + j - 1] = y at e0 hstep
       have hdr2:e.drop (k + (j + 1) - 1) = l.drop (k + (j + 1) - 1):=by
        have:=congrArg (List.drop 1) hdr
        rwa [List.drop_drop,List.drop_drop,show k + j - 1 + 1 = k + (j + 1) - 1 by omega] at this
       have b4:(m:Int) < (l.length:Int):=by omega
       have b5:m < e.length:=by omega
       have next:y ≠ x → (m + 1 = (compL (l.take (k + (j + 1)))).length ∧ (e.set m x).length = l.length ∧ (e.set m x).take (m + 1) = compL (l.take (k + (j + 1))) ∧ (e.set m x).drop (k + (j + 1) - 1) = l.drop (k + (j + 1) - 1) ∧ m + 1 ≤ k + (j + 1) - 1):=fun hne=>by
        rw [if_neg hne] at hstep
        have hstep':compL (l.take (k + (j + 1))) = compL (l.take (k + j)) ++ [x]:=hstep
        refine ⟨by rw [hstep',List.length_append,← hm]; rfl,by rw [List.length_set,he],?_,?_,by omega⟩
        ·rw [hstep',← htk,← List.take_append_getElem (by rw [List.length_set]; exact b5),List.take_set_of_le (Nat.le_refl _)]
         simp
        ·rw [List.drop_set_of_lt (by omega)]; exact hdr2
       have hset:setNth (e.map (A.int .i64)) m (.int .i64 x) = (e.set m x).map (A.int .i64):=by
        rw [setNth_eq,List.map_set]
       have em:(e.map (A.int .i64))[m]? = some (.int .i64 e[m]):=by
        rw [List.getElem?_map,List.getElem?_eq_getElem b5]; rfl
       cases h3:x == y with
       | true=>
        obtain rfl:x = y:=by simpa using h3
        rw [if_pos rfl] at hstep
        simp -implicitDefEqProofs (maxSteps:=600000) (disch:=(first | omega | decide)) only [go_sem,↓reduceIte,seval,hq',e1,e0,t0,b0,b3,h3,wrap_i64,List.length_map,Int.le_refl]
        exact ⟨⟨(j + 1,m,e),by show 1 ≤ j + 1; omega,by show k + (j + 1) ≤ _; omega,by show m = (compL (l.take (k + j + 1))).length; rw [hstep,hm],he,by show e.take m = compL (l.take (k + j + 1)); rw [hstep,htk],hdr2,by show m ≤ k + (j + 1) - 1; omega⟩,⟨⟨rfl,by simp⟩,rfl⟩,by show l.length - (j + 1) < l.length - j; omega⟩
       | false=>
        have hne:x ≠ y:=by simpa using h3
        simp -implicitDefEqProofs (maxSteps:=600000) (disch:=(first | omega | decide)) only [go_sem,↓reduceIte,seval,hq',e1,e0,t0,b0,b3,b4,h3,em,hset,wrap_i64,List.length_map,Int.le_refl]
        exact ⟨⟨(j + 1,m + 1,e.set m x),by show 1 ≤ j + 1; omega,by show k + (j + 1) ≤ _; omega,next (Ne.symm hne)⟩,⟨⟨by simp,by simp⟩,rfl⟩,by show l.length - (j + 1) < l.length - j; omega⟩
      ·have hq':¬ (j:Int) < ((l.length - k:Nat):Int):=by omega
       have b4:(m:Int) ≤ (l.length:Int):=by omega
       have tm:((l.length:Int) - (m:Int)).toNat = l.length - m:=by omega
       have hjl:k + j = l.length:=by omega
       rw [hjl,List.take_of_length_le (Nat.le_refl _)] at hm htk
       have b6:m + (l.length - m) = l.length:=by omega
       have b7:l.length ≤ e.length:=by omega
       have b8:(e.map (A.int .i64)).drop l.length = []:=by rw [List.drop_of_length_le (by rw [List.length_map]; omega)]
       have tm0:((m:Int) - 0).toNat = m:=by omega
       simp -implicitDefEqProofs (maxSteps:=600000) (disch:=(first | omega | decide)) only [go_sem,↓reduceIte,seval,hq',b4,tm,tm0,b6,b7,b8,List.length_map,Int.le_refl]
       refine ⟨hm,?_⟩
       rw [List.map_append,← htk,List.map_take,List.map_replicate,htk,← hm]
    | false=>
     have hne:x ≠ y:=by simpa using h3
     simp -implicitDefEqProofs (maxSteps:=600000) (disch:=(first | omega | decide)) only [go_sem,↓reduceIte,seval,hlt',e1,e0,t0,b0,b1,h3,wrap_i64,List.length_map]
     exact ⟨⟨k + 1,by omega,hlt,next (Ne.symm hne)⟩,by simp,by show l.length - (k + 1) < l.length - k; omega⟩
   ·have hlt':¬ (k:Int) < (l.length:Int):=by omega
    have hc:compL l = l:=by rw [List.take_of_length_le (by omega)] at hd; exact hd
    rw [hc]
    simp -implicitDefEqProofs (maxSteps:=600000) (disch:=(first | omega | decide)) only [go_sem,↓reduceIte,seval,hlt',List.length_map]
    simp
theorem c_Sort_Int (l:List Int) (hl:l.length < 4611686018427387904):CallH Tryz.prog 100 [.row 0 0 1 l.length false] [.row 1 (l.map (A.int .i64))] (.tup []) [.row 1 ((sortZ l).map (A.int .i64))] []:=
 sort_ints Go.Proofs.YtjfdlpagcgpaoaaGreat.sortInt l hl false
def zE (l:List Int):List A:=[.row 0 0 1 l.length false]
def zO (l:List Int):List Go.Abs.Obj:=[.row 1 (l.map (A.int .i64))]
noncomputable def zR (l:List Int):A × List Go.Abs.Obj × List Nat:=(.tup [],[.row 1 ((sortZ l).map (A.int .i64))],[])
def zcR (l:List Int):A × List Go.Abs.Obj × List Nat:=(.row 0 0 1 (compL l).length false,[.row 1 ((compL l ++ List.replicate (l.length - (compL l).length) (0:Int)).map (A.int .i64))],[])
theorem mapZ_inj:∀ (i j:List Int),i.map (A.int .i64) = j.map (A.int .i64) → i = j
 | [],[],_=>rfl
 | [],_ :: _,h=>by cases h
 | _ :: _,[],h=>by cases h
 | x :: i,y :: j,h=>by
  simp only [List.map_cons,List.cons.injEq,A.int.injEq,true_and] at h
  rw [h.1,mapZ_inj i j h.2]
theorem zO_inj (i j:List Int) (h:zO i = zO j):i = j:=by
 simp only [zO,List.cons.injEq,Go.Abs.Obj.row.injEq,true_and,and_true] at h
 exact mapZ_inj i j h
noncomputable def TZa:Tab:=L46d.addH 100 (entryH zE zO (fun l=>l.length < 4611686018427387904) zR)
noncomputable def TZb:Tab:=TZa.addH 101 (entryH zE zO (fun l=>l.length ≤ 4611686018427387903) zcR)
noncomputable def TZ:Tab:={ TZb with eff:=fun f=>f == 100 || f == 101 }
theorem TZa_ok:TabOK Tryz.prog TZa:=L46d_ok.addH (callable_of Tryz.func100 (by kernel_rfl) (by kernel_rfl)) (entryH_ok fun l h=>c_Sort_Int l h)
theorem TZb_ok:TabOK Tryz.prog TZb:=TZa_ok.addH (callable_of Tryz.func101 (by kernel_rfl) (by kernel_rfl)) (entryH_ok fun l h=>c_Compact_Int l h)
theorem TZ_ok:TabOK Tryz.prog TZ:=⟨TZb_ok.f,TZb_ok.hp⟩
@[go_sem] theorem TZ_eff {g:FuncId}:TZ.eff g = (g == 100 || g == 101):=rfl
@[go_sem] theorem TZ_frz {g:FuncId}:TZ.frz g = false:=rfl
@[go_sem] theorem TZ_fix {n:Nat}:TZ.fix n = false:=rfl
@[go_sem] theorem TZ_ords {n:Nat}:TZ.ords n = []:=rfl
theorem TZ_sort {l:List Int} {n:Nat} (hn:n = l.length) (h:l.length < 4611686018427387904):TZ.hp 100 [.row 0 0 1 n false] [.row 1 (l.map (A.int .i64))] = some (.tup [],[.row 1 ((sortZ l).map (A.int .i64))],[]):=by
 subst hn
 have h1:TZ.hp 100 (zE l) (zO l) = entryH zE zO (fun l=>l.length < 4611686018427387904) zR (zE l) (zO l):=by
  have h2:TZb.hp 100 (zE l) (zO l) = TZa.hp 100 (zE l) (zO l):=Tab.addH_ne (by decide)
  have h3:TZa.hp 100 (zE l) (zO l) = entryH zE zO (fun l=>l.length < 4611686018427387904) zR (zE l) (zO l):=Tab.addH_eq
  exact h2.trans h3
 exact h1.trans (entryH_eq (fun i j _ h=>zO_inj i j h) l h)
theorem TZ_comp {l:List Int} {n:Nat} (hn:n = l.length) (h:l.length ≤ 4611686018427387903):TZ.hp 101 [.row 0 0 1 n false] [.row 1 (l.map (A.int .i64))] = some (.row 0 0 1 (compL l).length false,[.row 1 ((compL l ++ List.replicate (l.length - (compL l).length) (0:Int)).map (A.int .i64))],[]):=by
 subst hn
 have h1:TZ.hp 101 (zE l) (zO l) = entryH zE zO (fun l=>l.length ≤ 4611686018427387903) zcR (zE l) (zO l):=by
  have h2:TZb.hp 101 (zE l) (zO l) = entryH zE zO (fun l=>l.length ≤ 4611686018427387903) zcR (zE l) (zO l):=Tab.addH_eq
  exact h2
 exact h1.trans (entryH_eq (fun i j _ h=>zO_inj i j h) l h)
def codesF (l:List Fd):List Int:=compL (sortZ (l.map Fd.code))
theorem fd_row (l:List Fd) (k:Nat) (h:k < l.length):((l.take k).map Fd.code).map (A.int .i64) ++ [.int .i64 l[k].code] = ((l.take (k + 1)).map Fd.code).map (A.int .i64):=by
 rw [← List.take_append_getElem h,List.map_append,List.map_append]; rfl
theorem ok_audit_Codes:codeOK Tryz.prog TZ Tryz.f41.ntmps (Tryz.f41.body.getD .skip) = true:=by kernel_rfl
theorem c_audit_Codes (l:List Fd) (hl:l.length ≤ 1000000):CallA Tryz.prog 41 [.slc (l.map Fd.enc)] (· = .slc ((codesF l).map (A.int .i64))):=by
 refine callA_of_body TZ_ok mixed Tryz.func41 rfl (Nat.le_of_ble_eq_true rfl) ok_audit_Codes ?_
 unfold Tryz.f41
 simp -implicitDefEqProofs (maxSteps:=600000) (disch:=(first | omega | decide)) only [go_sem,↓reduceIte,seval,List.length_map]
 refine wpA_loop_nil 3 1 rfl ?_
 refine wpA_loop [0,2,6,7] (ι:={k:Nat // k ≤ l.length}) (fun p=>[(8,.int .i64 p.1),(3,.row 0 0 1 ((l.take p.1).map Fd.code).length false)]) (fun p=>[(0,.row 1 (((l.take p.1).map Fd.code).map (A.int .i64)))]) (fun p=>l.length - p.1) ⟨0,by omega⟩ (Nat.zero_le _) ?_ ?_
 ·simp -implicitDefEqProofs (maxSteps:=600000) (disch:=(first | omega | decide)) only [go_sem,↓reduceIte,seval]
  first | done | simp
 ·rintro ⟨k,hk⟩
  simp only
  have hf:((l.take k).map Fd.code).length = k:=by rw [List.length_map,List.length_take]; omega
  by_cases hlt:k < l.length
  ·have hlt':(k:Int) < (l.length:Int):=by omega
   have e1:=fd_get hlt
   have hr:=fd_row l k hlt
   have hf2:((l.take (k + 1)).map Fd.code).length = k + 1:=by rw [List.length_map,List.length_take]; omega
   generalize (l.take k).map Fd.code = m at *
   have ht:m.take k = m:=List.take_of_length_le (by omega)
   have ht2:(m.map (A.int .i64)).take k = m.map (A.int .i64):=by rw [← List.map_take,ht]
   simp -implicitDefEqProofs (maxSteps:=600000) (disch:=(first | omega | decide)) only [go_sem,↓reduceIte,seval,hlt',e1,hf,ht2,wrap_i64,List.length_map]
   refine ⟨⟨Nat.le_refl _,by omega⟩,⟨k + 1,hlt⟩,⟨⟨by simp,by show k + 1 = (l.take (k + 1)).length; rw [List.length_take]; omega⟩,hr⟩,by show l.length - (k + 1) < l.length - k; omega⟩
  ·have hlt':¬ (k:Int) < (l.length:Int):=by omega
   rw [List.take_of_length_le (by omega)] at *
   have hp:=(sortZ_spec (l.map Fd.code)).1.length_eq
   have hs:=TZ_sort (l:=l.map Fd.code) (n:=l.length) (by simp) (by simp; omega)
   have hc:=TZ_comp (l:=sortZ (l.map Fd.code)) (n:=l.length) (by rw [hp]; simp) (by rw [hp]; simp; omega)
   simp -implicitDefEqProofs (maxSteps:=600000) (disch:=(first | omega | decide)) only [go_sem,↓reduceIte,seval,hlt',hs,hc,List.length_map,List.contains_nil,List.contains_cons]
   refine ⟨by rw [List.length_append]; omega,?_⟩
   rw [List.map_append,List.take_append_of_le_length (by simp),List.take_of_length_le (by simp)]; rfl
noncomputable def M46a:Tab:=L46d.add 41 (entry (fun (l:List Fd)=>[.slc (l.map Fd.enc)]) (fun l=>l.length ≤ 1000000) (fun l=>.slc ((codesF l).map (A.int .i64))))
theorem M46a_ok:TabOK Tryz.prog M46a:=L46d_ok.add (callable_of Tryz.func41 (by kernel_rfl) (by kernel_rfl)) (entry_ok fun l h=>c_audit_Codes l h)
@[go_sem] theorem M46a_old {g:FuncId} {xs:List A} (h:g ≠ 41):M46a.f g xs = L46d.f g xs:=Tab.add_ne h
theorem M46a_audit_Codes (l:List Fd) (h:l.length ≤ 1000000):M46a.f 41 [.slc (l.map Fd.enc)] = some (.slc ((codesF l).map (A.int .i64))):=
 (Tab.add_eq:M46a.f 41 [.slc (l.map Fd.enc)] = (entry (fun (l:List Fd)=>[.slc (l.map Fd.enc)]) (fun l=>l.length ≤ 1000000) (fun l=>.slc ((codesF l).map (A.int .i64)))) [.slc (l.map Fd.enc)]).trans (entry_eq (fun i j h=>by first | (cases i; cases j; rfl; done) | simpa [Prod.ext_iff,and_assoc] using h | (simp at h; omega) | (simp at h; exact Prod.ext h.1 (Prod.ext h.2.1 (by omega)))) l h)
noncomputable def M46b:Tab:=M46a.add 40 (entry (fun (s:Sta)=>[s.enc]) (fun s=>OkS s) (fun s=>.slc ((allF s 12).map Fd.enc)))
theorem M46b_ok:TabOK Tryz.prog M46b:=M46a_ok.add (callable_of Tryz.func40 (by kernel_rfl) (by kernel_rfl)) (entry_ok fun s h=>c_ref46_State s h)
@[go_sem] theorem M46b_old {g:FuncId} {xs:List A} (h:g ≠ 40):M46b.f g xs = M46a.f g xs:=Tab.add_ne h
@[go_sem] theorem M46b_eff {g:FuncId}:M46b.eff g = false:=rfl
@[go_sem] theorem M46b_ords {n:Nat}:M46b.ords n = []:=rfl
theorem M46b_ref46_State (s:Sta) (h:OkS s):M46b.f 40 [s.enc] = some (.slc ((allF s 12).map Fd.enc)):=
 (Tab.add_eq:M46b.f 40 [s.enc] = (entry (fun (s:Sta)=>[s.enc]) (fun s=>OkS s) (fun s=>.slc ((allF s 12).map Fd.enc))) [s.enc]).trans (entry_eq (fun i j h=>by first | (cases i; cases j; rfl; done) | simpa [Prod.ext_iff,and_assoc] using h | (simp at h; omega) | (simp at h; exact Prod.ext h.1 (Prod.ext h.2.1 (by omega)))) s h)
theorem w_Codes {l:List Fd} (h:l.length ≤ 1000000):M46a.f 41 [.slc (l.map Fd.enc)] = some (.slc ((codesF l).map (A.int .i64))):=M46a_audit_Codes l h
theorem w_rState {s:Sta} (h:OkS s):M46b.f 40 [.agg [.int .i64 s.id,.slc (s.fl.map Rng.enc),.slc (s.its.map It.enc),.slc (s.kn.map Pc.enc),.int .i64 s.ct]] = some (.slc ((allF s 12).map Fd.enc)):=M46b_ref46_State s h
theorem codesF_all (s:Sta):codesF (allF s 12) = compL ((allF s 12).map Fd.code):=by
 unfold codesF sortZ
 rw [List.mergeSort_of_pairwise]
 rw [List.pairwise_map]
 exact (allF_up s 12).imp fun {a b} h=>by simp [ltF] at h ⊢; omega
theorem z_get (l:List Int) (k:Nat) (x:Int) (h:l[k]? = some x):(l.map (A.int .i64))[k]? = some (.int .i64 x):=by
 rw [List.getElem?_map,h]; rfl
theorem allF_len12 {s:Sta} (h:OkS s):(allF s 12).length ≤ 600:=by
 have h1:=allF_len s 12
 have h2:=h.its.1
 have h3:=h.kn.1
 refine Nat.le_trans h1 ?_
 omega
theorem ok_law46_AuditFinds:codeOK Tryz.prog M46b Tryz.f8.ntmps (Tryz.f8.body.getD .skip) = true:=by kernel_rfl
theorem c_law46_AuditFinds (s:Sta) (h:InS s):CallA Tryz.prog 8 [s.enc] (· = .bool true):=by
 refine callA_of_body M46b_ok mixed Tryz.func8 rfl (Nat.le_of_ble_eq_true rfl) ok_law46_AuditFinds ?_
 unfold Tryz.f8
 have g0:=w_awake
 have g1:=s_rLong (s:=s) ⟨⟨h.fl.1,h.its.1⟩,h.kn⟩
 simp only [Sta.enc,Sta.cells]
 cases hl:longS s with
 | true=>
  rw [hl] at g1
  simp -implicitDefEqProofs (maxSteps:=600000) (disch:=(first | omega | decide)) only [go_sem,↓reduceIte,seval,g0,g1]
 | false=>
  rw [hl] at g1
  have ok:=longS_ok h hl
  have g3:=a_State ok
  have g4:=w_rState ok
  have l12:=allF_len12 ok
  have g5:=w_Codes (l:=allF s 12) (by omega)
  rw [codesF_all] at g5
  generalize allF s 12 = L at *
  have hcl:(compL (L.map Fd.code)).length ≤ L.length:=by have:=compL_len (L.map Fd.code); rwa [List.length_map] at this
  have hfd:∀ k (hk:k < L.length),(L.map Fd.enc)[k]? = some (.agg [.int .i64 L[k].code,.int .i64 L[k].at_]):=fun k hk=>fd_get hk
  simp -implicitDefEqProofs (maxSteps:=600000) (disch:=(first | omega | decide)) only [go_sem,↓reduceIte,seval,g0,g1,g3,g4,g5,List.length_map,beq_self_eq_true,bne_self_eq_false]
  refine wpA_loop [3,4,5,24,25] (ι:={k:Nat // k ≤ L.length}) (fun k=>[(26,.int .i64 k.1),(6,.int .i64 (compL ((L.map Fd.code).take k.1)).length)]) (fun _=>[]) (fun k=>L.length - k.1) ⟨0,by omega⟩ (Nat.zero_le _) ?_ ?_
  ·simp -implicitDefEqProofs (maxSteps:=600000) (disch:=(first | omega | decide)) only [go_sem,↓reduceIte,seval]
   first | done | rfl | (exact ⟨rfl,rfl⟩)
  ·rintro ⟨k,hk⟩
   simp only
   by_cases hlt:k < L.length
   ·have hlt':(k:Int) < (L.length:Int):=by omega
    have e1:=hfd k hlt
    have hkc:k < (L.map Fd.code).length:=by rw [List.length_map]; exact hlt
    have hcl2:(compL ((L.map Fd.code).take k)).length ≤ k:=by have:=compL_len ((L.map Fd.code).take k); rw [List.length_take] at this; omega
    have nxt:=codes_next hkc
    have sty:=codes_stay hkc
    rw [List.getElem_map] at nxt sty
    by_cases hk0:k = 0
    ·subst hk0
     obtain ⟨n1,n2,n3⟩:=nxt (fun h=>absurd h (by omega))
     have n4:=z_get _ _ _ n2
     generalize hn:(compL ((L.map Fd.code).take 0)).length = n at *
     generalize compL (L.map Fd.code) = C at *
     generalize hx:L[0] = x at *
     have n1':(n:Int) < (C.length:Int):=by omega
     have n1'':¬ (C.length:Int) ≤ (n:Int):=by omega
     have p0:(0:Int) ≤ (n:Int):=by omega
     have tn:((n:Nat):Int).toNat = n:=by simp
     have hl0:(0:Int) < (L.length:Int):=by omega
     simp -implicitDefEqProofs (maxSteps:=600000) (disch:=(first | omega | decide)) only [go_sem,↓reduceIte,seval,hlt',hl0,e1,n4,n1',n1'',p0,tn,wrap_i64,List.length_map,beq_self_eq_true,bne_self_eq_false]
     exact ⟨⟨1,by omega⟩,⟨by simp,by show (n:Int) + 1 = ((compL ((L.map Fd.code).take (0 + 1))).length:Int); omega⟩,by show L.length - 1 < L.length - 0; omega⟩
    ·have c0:((k:Int) == 0) = false:=by rw [beq_eq_false_iff_ne]; omega
     have j1:(k:Int) - 1 = ((k - 1:Nat):Int):=by omega
     have j2:((k - 1:Nat):Int) < (L.length:Int):=by omega
     have j3:(0:Int) ≤ ((k - 1:Nat):Int):=by omega
     have j4:((k - 1:Nat):Int).toNat = k - 1:=by simp
     have e0:=hfd (k - 1) (by omega)
     have nxt2:L[k - 1].code ≠ L[k].code → _:=fun hne=>nxt (fun _=>by rw [List.getElem_map]; exact hne)
     have sty2:L[k - 1].code = L[k].code → _:=fun he=>sty (by omega) (by rw [List.getElem_map]; exact he)
     clear nxt sty
     generalize L[k] = x at *
     generalize L[k - 1] = y at *
     cases he:y.code == x.code with
     | true=>
      have sty2:=sty2 (by simpa using he)
      simp -implicitDefEqProofs (maxSteps:=600000) (disch:=(first | omega | decide)) only [go_sem,↓reduceIte,seval,hlt',c0,j1,j2,j3,j4,e0,e1,he,wrap_i64,List.length_map,beq_self_eq_true,bne_self_eq_false]
      exact ⟨⟨k + 1,hlt⟩,⟨by simp,by rw [sty2]⟩,by show L.length - (k + 1) < L.length - k; omega⟩
     | false=>
      obtain ⟨n1,n2,n3⟩:=nxt2 (by simpa using he)
      have n4:=z_get _ _ _ n2
      generalize hn:(compL ((L.map Fd.code).take k)).length = n at *
      generalize compL (L.map Fd.code) = C at *
      have n1':(n:Int) < (C.length:Int):=by omega
      have n1'':¬ (C.length:Int) ≤ (n:Int):=by omega
      have p0:(0:Int) ≤ (n:Int):=by omega
      have tn:((n:Nat):Int).toNat = n:=Int.toNat_natCast _
      simp -implicitDefEqProofs (maxSteps:=600000) (disch:=(first | omega | decide)) only [go_sem,↓reduceIte,seval,hlt',c0,j1,j2,j3,j4,e0,e1,he,n4,n1',n1'',p0,tn,wrap_i64,List.length_map,beq_self_eq_true,bne_self_eq_false]
      exact ⟨⟨k + 1,hlt⟩,⟨by simp,by show (n:Int) + 1 = ((compL ((L.map Fd.code).take (k + 1))).length:Int); omega⟩,by show L.length - (k + 1) < L.length - k; omega⟩
   ·have hlt':¬ (k:Int) < (L.length:Int):=by omega
    obtain rfl:k = L.length:=by omega
    have e:(L.map Fd.code).take L.length = L.map Fd.code:=List.take_of_length_le (by simp)
    rw [e]
    simp -implicitDefEqProofs (maxSteps:=600000) (disch:=(first | omega | decide)) only [go_sem,↓reduceIte,seval,hlt',List.length_map,beq_self_eq_true]
noncomputable def M46c:Tab:=M46b.add 103 (entry (fun (m:Nat)=>[.int .i64 (m:Int)]) (fun m=>m ≤ 9223372036854775807) (fun m=>.str (digN m)))
theorem M46c_ok:TabOK Tryz.prog M46c:=M46b_ok.add (callable_of Tryz.func103 (by kernel_rfl) (by kernel_rfl)) (entry_ok fun m h=>c_ref01_Digits m h)
@[go_sem] theorem M46c_old {g:FuncId} {xs:List A} (h:g ≠ 103):M46c.f g xs = M46b.f g xs:=Tab.add_ne h
@[go_sem] theorem M46c_eff {g:FuncId}:M46c.eff g = false:=rfl
@[go_sem] theorem M46c_ords {n:Nat}:M46c.ords n = []:=rfl
theorem M46c_ref01_Digits (m:Nat) (h:m ≤ 9223372036854775807):M46c.f 103 [.int .i64 (m:Int)] = some (.str (digN m)):=
 (Tab.add_eq:M46c.f 103 [.int .i64 (m:Int)] = (entry (fun (m:Nat)=>[.int .i64 (m:Int)]) (fun m=>m ≤ 9223372036854775807) (fun m=>.str (digN m))) [.int .i64 (m:Int)]).trans (entry_eq (fun i j h=>by first | (cases i; cases j; rfl; done) | simpa [Prod.ext_iff,and_assoc] using h | (simp at h; omega) | (simp at h; exact Prod.ext h.1 (Prod.ext h.2.1 (by omega)))) m h)
theorem w_Digits {n:Nat} (h:n ≤ 9223372036854775807):M46c.f 103 [.int .i64 (n:Int)] = some (.str (digN n)):=M46c_ref01_Digits n h
theorem ok_ref46_Text:codeOK Tryz.prog M46c Tryz.f43.ntmps (Tryz.f43.body.getD .skip) = true:=by kernel_rfl
theorem c_ref46_Text (l:List Fd) (hl:l.length ≤ 1000000) (hb:∀ x ∈ l,x.code ≤ 9223372036854775807 ∧ x.at_ ≤ 9223372036854775807):CallA Tryz.prog 43 [.slc (l.map Fd.enc)] (· = .str (textF l)):=by
 refine callA_of_body M46c_ok mixed Tryz.func43 rfl (Nat.le_of_ble_eq_true rfl) ok_ref46_Text ?_
 unfold Tryz.f43
 have z0:linesF (l.take 0) = []:=rfl
 simp -implicitDefEqProofs (maxSteps:=600000) (disch:=(first | omega | decide)) only [go_sem,↓reduceIte,seval]
 refine wpA_loop [0] (ι:={k:Nat // k ≤ l.length ∧ l.any negF = (l.drop k).any negF ∧ (linesF (l.take k)).length ≤ 40 * k}) (fun p=>[(4,.int .i64 p.1),(3,.str (linesF (l.take p.1)))]) (fun _=>[]) (fun p=>l.length - p.1) ⟨0,by omega,rfl,by rw [z0]; simp⟩ (Nat.zero_le _) ?_ ?_
 ·simp -implicitDefEqProofs (maxSteps:=600000) (disch:=(first | omega | decide)) only [go_sem,↓reduceIte,seval,z0]
  try rfl
 ·rintro ⟨k,hk,hd,hlen⟩
  simp only
  by_cases hlt:k < l.length
  ·have hlt':(k:Int) < (l.length:Int):=by omega
   have e1:=fd_get hlt
   have hbx:=hb _ (List.getElem_mem hlt)
   have hst:=linesF_snoc hlt
   have hll:=lineF_len hbx
   rw [List.drop_eq_getElem_cons hlt,List.any_cons] at hd
   generalize hx:l[k] = x at *
   obtain ⟨c,a⟩:=x
   simp only at e1 hbx
   by_cases h1:c < 0
   ·have hn:negF ⟨c,a⟩ = true:=by simp [negF,h1]
    rw [hn,Bool.true_or] at hd
    have ht:textF l = []:=by unfold textF; rw [hd]; rfl
    simp -implicitDefEqProofs (maxSteps:=600000) (disch:=(first | omega | decide)) only [go_sem,↓reduceIte,seval,hlt',e1,h1,ht,wrap_i64,List.length_map]
   ·by_cases h2:a < 0
    ·have hn:negF ⟨c,a⟩ = true:=by simp [negF,h2]
     rw [hn,Bool.true_or] at hd
     have ht:textF l = []:=by unfold textF; rw [hd]; rfl
     simp -implicitDefEqProofs (maxSteps:=600000) (disch:=(first | omega | decide)) only [go_sem,↓reduceIte,seval,hlt',e1,h1,h2,ht,wrap_i64,List.length_map]
    ·have hn:negF ⟨c,a⟩ = false:=by simp [negF,h1,h2]
     rw [hn,Bool.false_or] at hd
     obtain ⟨cn,rfl⟩:=Int.eq_ofNat_of_zero_le (show 0 ≤ c by omega)
     obtain ⟨an,rfl⟩:=Int.eq_ofNat_of_zero_le (show 0 ≤ a by omega)
     have g1:=w_Digits (n:=cn) (by omega)
     have g2:=w_Digits (n:=an) (by omega)
     have k1:=digN19 (n:=cn) (by omega)
     have k2:=digN19 (n:=an) (by omega)
     have hL:lineF ⟨(cn:Int),(an:Int)⟩ = digN cn ++ [32] ++ digN an ++ [10]:=by simp [lineF]
     rw [hL] at hst hll
     generalize linesF (l.take k) = out at *
     generalize digN cn = d1 at *
     generalize digN an = d2 at *
     have q1:out.length + d1.length ≤ 9223372036854775807:=by omega
     have q2:(out ++ d1).length + [(32:UInt8)].length ≤ 9223372036854775807:=by simp; omega
     have q3:(out ++ d1 ++ [(32:UInt8)]).length + d2.length ≤ 9223372036854775807:=by simp; omega
     have q4:(out ++ d1 ++ [(32:UInt8)] ++ d2).length + [(10:UInt8)].length ≤ 9223372036854775807:=by simp; omega
     have hass:out ++ (d1 ++ [32] ++ d2 ++ [10]) = out ++ d1 ++ [32] ++ d2 ++ [10]:=by simp only [List.append_assoc]
     rw [hass] at hst
     simp -implicitDefEqProofs (maxSteps:=600000) (disch:=(first | omega | decide)) only [go_sem,↓reduceIte,seval,hlt',e1,h1,h2,g1,g2,q1,q2,q3,q4,wrap_i64,List.length_map]
     refine ⟨by simp; omega,by simp; omega,⟨k + 1,hlt,hd,by rw [hst]; simp; omega⟩,⟨by simp,by rw [hst]⟩,by show l.length - (k + 1) < l.length - k; omega⟩
  ·have hlt':¬ (k:Int) < (l.length:Int):=by omega
   rw [List.drop_of_length_le (by omega)] at hd
   have ht:textF l = linesF l:=by unfold textF; rw [hd]; rfl
   rw [List.take_of_length_le (by omega),ht]
   simp -implicitDefEqProofs (maxSteps:=600000) (disch:=(first | omega | decide)) only [go_sem,↓reduceIte,seval,hlt',List.length_map]
noncomputable def M46d:Tab:=M46c.add 43 (entry (fun (l:List Fd)=>[.slc (l.map Fd.enc)]) (fun l=>l.length ≤ 1000000 ∧ ∀ x ∈ l,x.code ≤ 9223372036854775807 ∧ x.at_ ≤ 9223372036854775807) (fun l=>.str (textF l)))
theorem M46d_ok:TabOK Tryz.prog M46d:=M46c_ok.add (callable_of Tryz.func43 (by kernel_rfl) (by kernel_rfl)) (entry_ok fun l h=>c_ref46_Text l h.1 h.2)
@[go_sem] theorem M46d_old {g:FuncId} {xs:List A} (h:g ≠ 43):M46d.f g xs = M46c.f g xs:=Tab.add_ne h
theorem M46d_ref46_Text (l:List Fd) (h:l.length ≤ 1000000 ∧ ∀ x ∈ l,x.code ≤ 9223372036854775807 ∧ x.at_ ≤ 9223372036854775807):M46d.f 43 [.slc (l.map Fd.enc)] = some (.str (textF l)):=
 (Tab.add_eq:M46d.f 43 [.slc (l.map Fd.enc)] = (entry (fun (l:List Fd)=>[.slc (l.map Fd.enc)]) (fun l=>l.length ≤ 1000000 ∧ ∀ x ∈ l,x.code ≤ 9223372036854775807 ∧ x.at_ ≤ 9223372036854775807) (fun l=>.str (textF l))) [.slc (l.map Fd.enc)]).trans (entry_eq (fun i j h=>by first | (cases i; cases j; rfl; done) | simpa [Prod.ext_iff,and_assoc] using h | (simp at h; omega) | (simp at h; exact Prod.ext h.1 (Prod.ext h.2.1 (by omega)))) l h)
theorem w_rText {l:List Fd} (h:l.length ≤ 1000000 ∧ ∀ x ∈ l,x.code ≤ 9223372036854775807 ∧ x.at_ ≤ 9223372036854775807):M46d.f 43 [.slc (l.map Fd.enc)] = some (.str (textF l)):=M46d_ref46_Text l h
theorem any_snoc' {α:Type} {l:List α} {k:Nat} {f:α → Bool} (h:k < l.length):(l.take (k + 1)).any f = ((l.take k).any f || f l[k]):=by
 rw [← List.take_append_getElem h,List.any_append]; simp
theorem codesF_mem {l:List Fd} {c:Int}:c ∈ codesF l ↔ ∃ x ∈ l,x.code = c:=by
 unfold codesF
 rw [compL_mem,(sortZ_spec _).1.mem_iff,List.mem_map]
theorem codesF_up (l:List Fd):(codesF l).Pairwise (fun x y=>x < y):=compZ_up (sortZ_spec _).2
theorem codesF_len (l:List Fd):(codesF l).length ≤ l.length:=by
 have h1:=compL_len (sortZ (l.map Fd.code))
 have h2:=(sortZ_spec (l.map Fd.code)).1.length_eq
 rw [List.length_map] at h2
 unfold codesF; omega
noncomputable def M46x:Tab:={ M46d with ords:=fun n=>if n = 11 then [[999999,0]] else [] }
theorem M46x_ok:TabOK Tryz.prog M46x:=⟨M46d_ok.f,M46d_ok.hp⟩
@[go_sem] theorem M46x_f:M46x.f = M46d.f:=rfl
@[go_sem] theorem M46x_eff {g:FuncId}:M46x.eff g = false:=rfl
@[go_sem] theorem M46x_fix {n:Nat}:M46x.fix n = false:=rfl
@[go_sem] theorem M46x_ords11:M46x.ords 11 = [[999999,0]]:=rfl
@[go_sem] theorem M46x_ords {n:Nat} (h:n ≠ 11):M46x.ords n = []:=if_neg h
theorem ok_law46_AuditTexts:codeOK Tryz.prog M46x Tryz.f9.ntmps (Tryz.f9.body.getD .skip) = true:=by kernel_rfl
theorem c_law46_AuditTexts (l:List Fd) (hl:l.length ≤ 9223372036854775807) (hb:∀ x ∈ l,x.code ≤ 9223372036854775807 ∧ x.at_ ≤ 9223372036854775807):CallA Tryz.prog 9 [.slc (l.map Fd.enc)] (· = .bool true):=by
 refine callA_of_body M46x_ok mixed Tryz.func9 rfl (Nat.le_of_ble_eq_true rfl) ok_law46_AuditTexts ?_
 unfold Tryz.f9
 have g0:=w_awake
 by_cases h60:(60:Int) < (l.length:Int)
 ·simp -implicitDefEqProofs (maxSteps:=600000) (disch:=(first | omega | decide)) only [go_sem,↓reduceIte,seval,g0,h60,List.length_map]
 ·have g1:=w_Codes (l:=l) (by omega)
  have g2:=a_Text (l:=l) ⟨by omega,hb⟩
  have g3:=w_rText (l:=l) ⟨by omega,hb⟩
  have tk:∀ m:List Fd,(m.map Fd.enc).take m.length = m.map Fd.enc:=fun m=>List.take_of_length_le (by simp)
  have hC:∀ i (h:i < (codesF l).length),l.any (fun x=>x.code == (codesF l)[i]) = true:=fun i h=>by
   obtain ⟨x,hx,he⟩:=codesF_mem.1 (List.getElem_mem h)
   exact List.any_eq_true.2 ⟨x,hx,by rw [he]; exact beq_self_eq_true _⟩
  have hL:∀ k (h:k < l.length),(codesF l).any (fun c=>c == l[k].code) = true:=fun k h=>
   List.any_eq_true.2 ⟨l[k].code,codesF_mem.2 ⟨l[k],List.getElem_mem h,rfl⟩,beq_self_eq_true _⟩
  have hup:∀ i (h:i < (codesF l).length),0 < i → ∀ h':i - 1 < (codesF l).length,(codesF l)[i - 1] < (codesF l)[i]:=fun i h h0 h'=>(List.pairwise_iff_getElem.1 (codesF_up l)) (i - 1) i h' h (by omega)
  have hcl:=codesF_len l
  generalize codesF l = C at *
  generalize textF l = tx at *
  simp -implicitDefEqProofs (maxSteps:=600000) (disch:=(first | omega | decide)) only [go_sem,↓reduceIte,seval,g0,h60,List.length_map]
  refine wpA_loop_nil 3 2 rfl ?_
  refine wpA_loop [0,22,23] (ι:={k:Nat // k ≤ l.length}) (fun p=>[(24,.int .i64 p.1),(3,.row 0 0 2 (l.take p.1).length false)]) (fun p=>[(0,.row 2 ((l.take p.1).map Fd.enc))]) (fun p=>l.length - p.1) ⟨0,by omega⟩ (Nat.zero_le _) ?_ ?_
  ·simp -implicitDefEqProofs (maxSteps:=600000) (disch:=(first | omega | decide)) only [go_sem,↓reduceIte,seval]
   first | done | simp
  ·rintro ⟨k,hk⟩
   simp only
   by_cases hlt:k < l.length
   ·have hlt':(k:Int) < (l.length:Int):=by omega
    have e1:=fd_get hlt
    have hr:=row_map (l.take k) l[k]
    have hl1:(l.take k).length ≤ 60:=by rw [List.length_take]; omega
    have hl2:(l.take (k + 1)).length = (l.take k).length + 1:=by rw [List.length_take,List.length_take]; omega
    rw [List.take_append_getElem hlt] at hr
    have tka:=tk (l.take k)
    simp only [Fd.enc] at hr
    generalize hm2:l.take (k + 1) = m2 at *
    generalize l.take k = m at *
    generalize l[k] = x at *
    simp -implicitDefEqProofs (maxSteps:=600000) (disch:=(first | omega | decide)) only [go_sem,↓reduceIte,seval,hlt',e1,tka,wrap_i64,List.length_map]
    refine ⟨⟨Nat.le_refl _,by omega⟩,⟨k + 1,hlt⟩,⟨⟨by simp,by show m.length + 1 = (l.take (k + 1)).length; rw [hm2,hl2]⟩,by show _ = (l.take (k + 1)).map Fd.enc; rw [hm2]; exact hr⟩,by show l.length - (k + 1) < l.length - k; omega⟩
   ·have hlt':¬ (k:Int) < (l.length:Int):=by omega
    rw [List.take_of_length_le (by omega)] at *
    have tka:=tk l
    simp -implicitDefEqProofs (maxSteps:=600000) (disch:=(first | omega | decide)) only [go_sem,↓reduceIte,seval,hlt',g1,tka,List.length_map,Nat.le_refl]
    refine wpA_loop [0,3,6,35,36] (ι:={i:Nat // i ≤ C.length}) (fun p=>[(37,.int .i64 p.1)]) (fun p=>[]) (fun p=>C.length - p.1) ⟨0,Nat.zero_le _⟩ (Nat.zero_le _) ?_ ?_
    ·simp -implicitDefEqProofs (maxSteps:=600000) (disch:=(first | omega | decide)) only [go_sem,↓reduceIte,seval]
     try rfl
    ·rintro ⟨i,hi⟩
     simp only
     by_cases hit:i < C.length
     ·have hit':(i:Int) < (C.length:Int):=by omega
      have ec:=z_get C i C[i] (List.getElem?_eq_getElem hit)
      have hany:=hC i hit
      have hui:=hup i hit
      generalize hci:C[i] = c at *
      simp -implicitDefEqProofs (maxSteps:=600000) (disch:=(first | omega | decide)) only [go_sem,↓reduceIte,seval,hit',ec,wrap_i64,List.length_map]
      refine wpA_loop [0,3,6,7,8,35,36,37,42,43] (ι:={q:Nat // q ≤ l.length}) (fun q=>[(44,.int .i64 q.1),(9,.bool ((l.take q.1).any fun x=>x.code == c))]) (fun q=>[]) (fun q=>l.length - q.1) ⟨0,by omega⟩ (Nat.zero_le _) ?_ ?_
      ·simp -implicitDefEqProofs (maxSteps:=600000) (disch:=(first | omega | decide)) only [go_sem,↓reduceIte,seval,List.take_zero,List.any_nil]
       try rfl
      ·rintro ⟨q,hq⟩
       simp only
       by_cases hqt:q < l.length
       ·have hqt':(q:Int) < (l.length:Int):=by omega
        have e2:=fd_get hqt
        have hs:=any_snoc' (f:=fun x:Fd=>x.code == c) hqt
        generalize l[q] = x at *
        generalize (l.take q).any (fun x=>x.code == c) = b1 at *
        cases b1 with
        | true=>
             rw [Bool.true_or] at hs
             simp -implicitDefEqProofs (maxSteps:=600000) (disch:=(first | omega | decide)) only [go_sem,↓reduceIte,seval,hqt',e2,wrap_i64,List.length_map]
             exact ⟨⟨q + 1,hqt⟩,⟨by simp,by rw [hs]⟩,by show l.length - (q + 1) < l.length - q; omega⟩
        | false=>
             rw [Bool.false_or] at hs
             simp -implicitDefEqProofs (maxSteps:=600000) (disch:=(first | omega | decide)) only [go_sem,↓reduceIte,seval,hqt',e2,wrap_i64,List.length_map]
             exact ⟨⟨q + 1,hqt⟩,⟨by simp,by rw [hs]⟩,by show l.length - (q + 1) < l.length - q; omega⟩
       ·have hqt':¬ (q:Int) < (l.length:Int):=by omega
        rw [List.take_of_length_le (by omega),hany]
        by_cases hi0:i = 0
        ·subst hi0
         simp -implicitDefEqProofs (maxSteps:=600000) (disch:=(first | omega | decide)) only [go_sem,↓reduceIte,seval,hqt',wrap_i64,List.length_map]
         exact ⟨⟨1,by omega⟩,by simp,by show C.length - 1 < C.length - 0; omega⟩
        ·have c0:(0:Int) < (i:Int):=by omega
         have j1:(i:Int) - 1 = ((i - 1:Nat):Int):=by omega
         have j2:((i - 1:Nat):Int) < (C.length:Int):=by omega
         have j3:(0:Int) ≤ ((i - 1:Nat):Int):=by omega
         have j4:((i - 1:Nat):Int).toNat = i - 1:=by simp
         have hh:=hui (by omega) (by omega)
         have ed:=z_get C (i - 1) C[i - 1] (List.getElem?_eq_getElem (by omega))
         generalize C[i - 1] = d at *
         have hh':¬ c ≤ d:=by omega
         simp -implicitDefEqProofs (maxSteps:=600000) (disch:=(first | omega | decide)) only [go_sem,↓reduceIte,seval,hqt',c0,j1,j2,j3,j4,ed,hh',wrap_i64,List.length_map]
         exact ⟨⟨i + 1,hit⟩,by simp,by show C.length - (i + 1) < C.length - i; omega⟩
     ·have hit':¬ (i:Int) < (C.length:Int):=by omega
      simp -implicitDefEqProofs (maxSteps:=600000) (disch:=(first | omega | decide)) only [go_sem,↓reduceIte,seval,hit',List.length_map]
      refine wpA_loop [0,3,6,72,73] (ι:={q:Nat // q ≤ l.length}) (fun q=>[(74,.int .i64 q.1)]) (fun _=>[]) (fun q=>l.length - q.1) ⟨0,Nat.zero_le _⟩ (Nat.zero_le _) ?_ ?_
      ·simp -implicitDefEqProofs (maxSteps:=600000) (disch:=(first | omega | decide)) only [go_sem,↓reduceIte,seval]
       try rfl
      ·rintro ⟨q,hq⟩
       simp only
       by_cases hqt:q < l.length
       ·have hqt':(q:Int) < (l.length:Int):=by omega
        have e2:=fd_get hqt
        have hany:=hL q hqt
        generalize l[q] = x at *
        simp -implicitDefEqProofs (maxSteps:=600000) (disch:=(first | omega | decide)) only [go_sem,↓reduceIte,seval,hqt',e2,wrap_i64,List.length_map]
        refine wpA_loop [0,3,6,13,72,73,74,78,79] (ι:={i:Nat // i ≤ C.length}) (fun i=>[(80,.int .i64 i.1),(14,.bool ((C.take i.1).any fun c=>c == x.code))]) (fun _=>[]) (fun i=>C.length - i.1) ⟨0,Nat.zero_le _⟩ (Nat.zero_le _) ?_ ?_
        ·simp -implicitDefEqProofs (maxSteps:=600000) (disch:=(first | omega | decide)) only [go_sem,↓reduceIte,seval,List.take_zero,List.any_nil]
         try rfl
        ·rintro ⟨i,hi⟩
         simp only
         by_cases hit:i < C.length
         ·have hit':(i:Int) < (C.length:Int):=by omega
          have ec:=z_get C i C[i] (List.getElem?_eq_getElem hit)
          have hs:=any_snoc' (f:=fun c:Int=>c == x.code) hit
          generalize C[i] = c at *
          generalize (C.take i).any (fun c=>c == x.code) = b1 at *
          cases b1 with
          | true=>
               rw [Bool.true_or] at hs
               simp -implicitDefEqProofs (maxSteps:=600000) (disch:=(first | omega | decide)) only [go_sem,↓reduceIte,seval,hit',ec,wrap_i64,List.length_map]
               exact ⟨⟨i + 1,hit⟩,⟨by simp,by rw [hs]⟩,by show C.length - (i + 1) < C.length - i; omega⟩
          | false=>
               rw [Bool.false_or] at hs
               simp -implicitDefEqProofs (maxSteps:=600000) (disch:=(first | omega | decide)) only [go_sem,↓reduceIte,seval,hit',ec,wrap_i64,List.length_map]
               exact ⟨⟨i + 1,hit⟩,⟨by simp,by rw [hs]⟩,by show C.length - (i + 1) < C.length - i; omega⟩
         ·have hit':¬ (i:Int) < (C.length:Int):=by omega
          rw [List.take_of_length_le (by omega),hany]
          simp -implicitDefEqProofs (maxSteps:=600000) (disch:=(first | omega | decide)) only [go_sem,↓reduceIte,seval,hit',wrap_i64,List.length_map]
          exact ⟨⟨q + 1,hqt⟩,by simp,by show l.length - (q + 1) < l.length - q; omega⟩
       ·have hqt':¬ (q:Int) < (l.length:Int):=by omega
        simp -implicitDefEqProofs (maxSteps:=600000) (disch:=(first | omega | decide)) only [go_sem,↓reduceIte,seval,hqt',g2,g3,List.length_map,beq_self_eq_true]
theorem rng64 {n:Int} (h:(Lit.int .i64 n).wf = true):n ≤ 9223372036854775807:=by
 have h1:IntKind.i64.min ≤ n ∧ n ≤ IntKind.i64.max:=by simpa [Lit.wf] using h
 exact h1.2
theorem fits_fds {x:A} (h:fits (.rows [.int .i64,.int .i64]) x):∃ l:List Fd,x = .slc (l.map Fd.enc) ∧ l.length ≤ maxLen ∧ ∀ x ∈ l,x.code ≤ 9223372036854775807 ∧ x.at_ ≤ 9223372036854775807:=by
 simp only [fits] at h
 obtain ⟨es,rfl,hl,he⟩:=h
 obtain ⟨l,rfl,hk⟩:=list_of (f:=Fd.enc) (P:=fun x=>x.code ≤ 9223372036854775807 ∧ x.at_ ≤ 9223372036854775807) (es:=es) (fun e hx=>by
  obtain ⟨ys,rfl,hy⟩:=he e hx
  simp only [fitsL] at hy
  obtain ⟨y1,z1,rfl,h1,y2,z2,rfl,h2,rfl⟩:=hy
  simp only [fits] at h1 h2
  obtain ⟨a,rfl,ha⟩:=h1
  obtain ⟨b,rfl,hb⟩:=h2
  exact ⟨⟨a,b⟩,rfl,⟨rng64 ha,rng64 hb⟩⟩)
 exact ⟨l,rfl,by simpa using hl,hk⟩
end Go.Proofs.YtjfdlpagcgpaoaaGreat
