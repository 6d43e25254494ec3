import Derived.Test.YtmckcjoacfekcaaAm12
/-! The calculus, thirteenth part: what is cut; one function for all operations. -/
namespace Go.Proofs.Ytmckcjoacfekcaa.AM
open Go

def bdE (ρ : Env) (x : Option Operand) (dflt : Nat) : Option Nat := match x with
  | none => some dflt
  | some x => match lO (ρ x) with
    | some (.int _ n) => if 0 ≤ n then some n.toNat else none
    | _ => none
def slF (P : Program) (t : TypeId) (lk : Lk) (ρ : Env) (x : Operand) (lo hi : Option Operand) : Option Eff :=
  (tiOf P t).bind fun i => match i.kd with
    | .str => (match lO (ρ x) with
      | some (.str s) => (bdE ρ lo 0).bind fun l => (bdE ρ hi s.size).bind fun h => if l ≤ h ∧ h ≤ s.size then some { v := one1 (.str (s.extract l h)) } else none
      | _ => none)
    | .slice => (tiOf P i.elem).bind fun ie => (match lO (ρ x) with
      | some (.bs v n rows) => (bdE ρ lo 0).bind fun l => (bdE ρ hi rows.length).bind fun h => if n = ie.size then if l ≤ h ∧ h ≤ rows.length then some { v := one1 (.bs v n ((rows.drop l).take (h - l))) } else none else none
      | some (.ref v id off len) => (lk id).bind fun o => (bdE ρ lo 0).bind fun l => (bdE ρ hi len).bind fun h => if o.n = ie.size then if l ≤ h ∧ h ≤ len then some { v := one1 (.ref v id (off + l) (h - l)), rd := [id] } else none else none
      | _ => none)
    | _ => none
/-- A bound at the machine. -/
def BdR (x : Option Value) (n dflt : Nat) : Prop := (x = none ∧ n = dflt) ∨ ∃ k m, x = some (.int k m) ∧ 0 ≤ m ∧ n = m.toNat
theorem bd_ok {W : World} {d : S Value} {a : Act} (h : Good W d) (hs : SlR d a) {x : Option Operand} {n dflt : Nat} (he : bdE (evA (erS d)) x dflt = some n) : BdR (x.map a.eval) n dflt := by
  cases x with
  | none => cases he; exact .inl ⟨rfl, rfl⟩
  | some x =>
    simp only [bdE] at he
    split at he
    · rename_i k m hx
      split at he
      · rename_i hm
        cases he
        obtain ⟨l', h1, h2, _⟩ := leaf_ok h hs hx
        obtain rfl := er_int h1
        exact .inr ⟨k, m, by simp [h2, val], hm, rfl⟩
      · cases he
    · cases he
theorem run_bounds {P : Program} {W : World} {b : Bool} {len cap l h : Nat} {lo hi : Option Value} (h1 : BdR lo l 0) (h2 : BdR hi h len) (hlh : l ≤ h) (hc : h ≤ cap) (_hl : len ≤ cap) :
    (Instr.sliceBounds b len cap lo hi none).run P W = .ok (l, h, cap) W := by
  rcases h1 with ⟨rfl, rfl⟩ | ⟨k, m, rfl, hm, rfl⟩ <;> rcases h2 with ⟨rfl, rfl⟩ | ⟨k', m', rfl, hm', rfl⟩
  · simp [Instr.sliceBounds]
  · simp [Instr.sliceBounds, run_sliceBound W k' m' cap _ hm' (by omega)]
  · simp [Instr.sliceBounds, run_sliceBound W k m h _ hm (by omega)]
  · simp [Instr.sliceBounds, run_sliceBound W k' m' cap _ hm' (by omega), run_sliceBound W k m m'.toNat _ hm (by omega)]
theorem mem_hdrImm {A : Option Addr} {n c : Nat} {cells : List Value} {p : Addr × List Value} (h : p ∈ hdrImm (.slice A n c) cells) : p.2 = cells := by
  cases A with
  | none => simp [hdrImm] at h
  | some a => simp only [hdrImm, List.mem_singleton] at h; rw [h]
theorem sl_ok {P : Program} {B : Bd} {o : Oper} {a : Act} {W : World} {d : S Value} {nid : Nat} {e : Eff} (hi : Inv B W d) (hs : SlR d a) {t : TypeId} {x : Operand} {lo hg : Option Operand} (ho : o.op = .slice t x lo hg none)
    (he : slF P t (look (erS d).ob) (evA (erS d)) x lo hg = some e) : Done P B o a W d nid e := by
  unfold slF at he
  obtain ⟨i, ht, he⟩ := bind_some he
  obtain ⟨info, td, z, hinf, hu, _, _, hkd, _, _, _, _, hel, _⟩ := tiOf_spec ht
  split at he
  · rename_i hk
    obtain rfl := kdD_str (hkd.symm.trans hk)
    split at he
    · rename_i s hx
      obtain ⟨l, hl, he⟩ := bind_some he
      obtain ⟨h, hh, he⟩ := bind_some he
      split at he
      · rename_i hb
        cases he
        obtain ⟨l', h1, h2, h3⟩ := leaf_ok hi.good hs hx
        obtain rfl := er_str h1
        have hbd := run_bounds (P := P) (W := W) (b := false) (cap := s.size) (bd_ok hi.good hs hl) (bd_ok hi.good hs hh) hb.1 hb.2 (Nat.le_refl _)
        refine done_leaf (l := .str _) hi hs ?_ rfl (has_str _)
        simp only [execOp, ho, h2, val]
        simp [Instr.sliceAt, run_underlying hu, Instr.slice, hbd]
      · cases he
    · cases he
  · rename_i hk
    have hd := kdD_slice (hkd.symm.trans hk)
    obtain ⟨ie, hie, he⟩ := bind_some he
    obtain ⟨info2, _, _, hinf2, _, _, _, _, _, hsz2, _⟩ := tiOf_spec hie
    rw [hel] at hinf2
    have hsz : ∀ w : World, (sizeOf (elemD td)).run P w = .ok ie.size w := fun w => by simp [sizeOf, typeInfo, hinf2, hsz2]
    rw [hd] at hu
    have hrun : ∀ (ad : Option Addr) (len cap l h : Nat), BdR (lo.map a.eval) l 0 → BdR (hg.map a.eval) h len → l ≤ h → h ≤ cap → len ≤ cap →
        (Instr.sliceAt t (.slice ad len cap) (lo.map a.eval) (hg.map a.eval) none).run P W = .ok (.slice (if cap = l then ad else ad.map (·.add (l * ie.size))) (h - l) (cap - l)) W := fun ad len cap l h b1 b2 b3 b4 b5 => by
      have hbd := run_bounds (P := P) (W := W) (b := true) b1 b2 b3 b4 b5
      simp [Instr.sliceAt, run_underlying hu, Instr.slice, hbd, hsz]
    split at he
    · rename_i v n rows hx
      obtain ⟨l, hl, he⟩ := bind_some he
      obtain ⟨h, hh, he⟩ := bind_some he
      split at he
      · rename_i hn
        split at he
        · rename_i hb
          cases he
          obtain ⟨l', h1, h2, h3⟩ := leaf_ok hi.good hs hx
          obtain ⟨v', rows', rfl, rfl⟩ := er_bs h1
          have hlr : (mapR (fun _ => ()) rows').length = rows'.length := by rw [mapR_eq, List.length_map]
          rw [hlr] at hb hh
          obtain ⟨⟨ad, c, hv, hlen, hlim, ha⟩, hl1, hw⟩ := h3.1
          have hr := hrun ad rows'.length c l h (bd_ok hi.good hs hl) (bd_ok hi.good hs hh) hb.1 (by omega) hlen
          have hlen' : ((rows'.drop l).take (h - l)).length = h - l := by rw [List.length_take, List.length_drop]; omega
          have hsub : ∀ r ∈ (rows'.drop l).take (h - l), r ∈ rows' := fun r hr => List.mem_of_mem_drop (List.mem_of_mem_take hr)
          have := done_leaf (P := P) (B := B) (o := o) (a := a) (W := W) (nid := nid) (rd := []) (hyp := True) (l := .bs (.slice (if c = l then ad else ad.map (·.add (l * ie.size))) (h - l) (c - l)) n ((rows'.drop l).take (h - l))) hi hs (by
              simp only [execOp, ho, h2, val, hv, Option.map_none]
              rw [Sem.run_bind, hr]
              rfl) rfl ⟨⟨⟨_, _, by rw [hlen'], by omega, by omega, fun hne => ?_⟩, fun r hr => hl1 r (hsub r hr), ?_⟩, by simp [refOk], fun p hp => ?_, by simp [idsL]⟩
          · have e : mapR (fun _ => ()) ((rows'.drop l).take (h - l)) = ((mapR (fun _ => ()) rows').drop l).take (h - l) := by simp [mapR_eq, List.map_take, List.map_drop]
            simpa [mapL, e] using this
          · have hlt : l < h := by
              rcases Nat.lt_or_ge l h with h' | h'
              · exact h'
              · have : h - l = 0 := by omega
                rw [this] at hne
                simp at hne
            rw [if_neg (by omega)]
            obtain ⟨b, o', rfl⟩ := ha (by rintro rfl; simp at hb; omega)
            exact ⟨b, _, by rw [Option.map_some, addr_add]⟩
          · rw [wfR_iff] at hw ⊢
            exact fun r hr => hw r (hsub r hr)
          · simp only [immL, List.mem_append] at hp
            rcases hp with hp | hp
            · by_cases hlt : l < h
              · obtain ⟨b, o', rfl⟩ := ha (by rintro rfl; simp at hb; omega)
                rw [if_neg (by omega), Option.map_some, addr_add] at hp
                simp only [hdrImm, List.mem_singleton] at hp
                subst hp
                have hs' : Sub ((⟨b, o' + l * ie.size, none⟩ : Addr), valR ((rows'.drop l).take (h - l))) ((⟨b, o', none⟩ : Addr), valR rows') := ⟨rfl, l * ie.size, rfl, fun j u hj => drop_take_valR (fun r hr => by rw [hl1 r hr, hn]) l (h - l) j hj⟩
                rcases h3.2.2.1 (⟨b, o', none⟩, valR rows') (by simp [immL, hv, hdrImm]) with h0 | ⟨q, hq, hs2⟩
                · left
                  rcases hcs : valR ((rows'.drop l).take (h - l)) with _ | ⟨u, us⟩
                  · rfl
                  · exact absurd h0 (hs'.ne (by simp [hcs]))
                · exact .inr ⟨q, hq, hs'.trans hs2⟩
              · have h0 : h - l = 0 := by omega
                left
                rw [h0] at hp
                simp only [List.take_zero] at hp
                exact mem_hdrImm hp
            · rw [immR_eq] at hp
              obtain ⟨l2, hl2, hp⟩ := List.mem_flatMap.1 hp
              obtain ⟨r, hr, hl2⟩ := List.mem_flatten.1 hl2
              exact h3.2.2.1 p (by simp only [immL, List.mem_append]; exact .inr (mem_immR (hsub r hr) hl2 hp))
        · cases he
      · cases he
    · rename_i v id off len hx
      obtain ⟨ob, hob, he⟩ := bind_some he
      obtain ⟨l, hl, he⟩ := bind_some he
      obtain ⟨h, hh, he⟩ := bind_some he
      split at he
      · rename_i hn
        split at he
        · rename_i hb
          cases he
          obtain ⟨l', h1, h2, h3⟩ := leaf_ok hi.good hs hx
          obtain ⟨v', rfl⟩ := er_ref h1
          obtain ⟨ob', ho', rfl⟩ := look_lift hob
          obtain ⟨hlen, hv⟩ := h3.2.1 ob' ho'
          have hobs : _ ∧ ∀ r ∈ ob'.rows, r.length = ob'.n := hi.good.obs _ (find?_key ho')
          have hn' : ob'.n = ie.size := hn
          have fin : ∀ v2, (execOp a.eval o).run P W = .ok (.value v2) W → (∃ a m c, v2 = .slice a m c) →
              ((ob'.h = .slice none 0 0 ∧ v2 = .slice none 0 0) ∨ ∃ b x c0, ob'.h = .slice (some ⟨b, x, none⟩) 0 c0 ∧ (v2 = .slice (some ⟨b, x + (off + l) * ob'.n, none⟩) (h - l) (c0 - (off + l)) ∨ ∃ y, v2 = .slice (some ⟨b, y, none⟩) 0 0 ∧ h - l = 0 ∧ 0 < off + l ∧ y ≤ x + c0 * ob'.n)) →
              Done P B o a W d nid { v := one1 (.ref v id (off + l) (h - l)), rd := [id] } := fun v2 h5 h6 h7 =>
            done_leaf (l := .ref v2 id (off + l) (h - l)) hi hs h5 rfl ⟨⟨rfl, h6⟩, fun o2 ho2 => by
              rw [ho'] at ho2
              cases ho2
              exact ⟨by omega, h7⟩, by simp [immL], h3.2.2.2⟩
          rcases hv with ⟨h0, hv⟩ | ⟨b, x, c0, h0, hv⟩
          · have hr0 : ob'.rows = [] := by
              rcases hobs.1 with ⟨_, h1⟩ | ⟨_, _, _, h1, _⟩
              · exact h1
              · simp only at h1; rw [h0] at h1; cases h1
            rw [hr0] at hlen
            simp at hlen
            obtain ⟨rfl, rfl⟩ := hlen
            have hr := hrun none 0 0 l h (bd_ok hi.good hs hl) (bd_ok hi.good hs hh) hb.1 hb.2 (Nat.le_refl _)
            have hl0 : l = 0 := by omega
            have hh0 : h = 0 := by omega
            subst hl0 hh0
            refine fin (.slice none 0 0) ?_ ⟨_, _, _, rfl⟩ (.inl ⟨h0, rfl⟩)
            simp only [execOp, ho, h2, val, hv, Option.map_none]
            rw [Sem.run_bind, hr]
            rfl
          · have hc0 : ob'.rows.length ≤ c0 := by
              rcases hobs.1 with ⟨h7, _⟩ | ⟨_, _, _, h7, h8, _⟩
              · simp only at h7; rw [h0] at h7; cases h7
              · simp only at h7 h8; rw [h0] at h7; cases h7; exact h8
            rcases hv with hv | ⟨y, hv, rfl, hoff, hy⟩
            · have hr := hrun (some ⟨b, x + off * ob'.n, none⟩) len (c0 - off) l h (bd_ok hi.good hs hl) (bd_ok hi.good hs hh) hb.1 (by omega) (by omega)
              by_cases hcl : c0 - off = l
              · rw [if_pos hcl] at hr
                have hh0 : h - l = 0 := by omega
                have hc2 : c0 - off - l = 0 := by omega
                rw [hh0, hc2] at hr
                refine fin (.slice (some ⟨b, x + off * ob'.n, none⟩) 0 0) ?_ ⟨_, _, _, rfl⟩ (.inr ⟨b, x, c0, h0, ?_⟩)
                · simp only [execOp, ho, h2, val, hv, Option.map_none]
                  rw [Sem.run_bind, hr]
                  rfl
                · by_cases hz : off + l = 0
                  · left
                    have : off = 0 := by omega
                    have : l = 0 := by omega
                    subst_vars
                    simp
                  · right
                    refine ⟨_, rfl, hh0, by omega, ?_⟩
                    have : off * ob'.n ≤ c0 * ob'.n := Nat.mul_le_mul_right _ (by omega)
                    omega
              · rw [if_neg hcl, Option.map_some, addr_add] at hr
                refine fin _ ?_ ⟨_, _, _, rfl⟩ (.inr ⟨b, x, c0, h0, .inl rfl⟩)
                simp only [execOp, ho, h2, val, hv, Option.map_none]
                rw [Sem.run_bind, hr, ← hn', Nat.add_mul, Nat.add_assoc, Nat.sub_sub]
                rfl
            · have hr := hrun (some ⟨b, y, none⟩) 0 0 l h (bd_ok hi.good hs hl) (bd_ok hi.good hs hh) hb.1 hb.2 (Nat.le_refl _)
              have hl0 : l = 0 := by omega
              have hh0 : h = 0 := by omega
              subst hl0 hh0
              refine fin (.slice (some ⟨b, y, none⟩) 0 0) ?_ ⟨_, _, _, rfl⟩ (.inr ⟨b, x, c0, h0, .inr ⟨y, rfl, rfl, by omega, hy⟩⟩)
              simp only [execOp, ho, h2, val, hv, Option.map_none]
              rw [Sem.run_bind, hr]
              rfl
        · cases he
      · cases he
    · cases he
  · cases he

/-- An operation's effect, as a function. -/
def opF (P : Program) (o : Op) (ρ : Env) (lk : Lk) (nid : Nat) : Option Eff := match o with
  | .move x | .assign x => mvF (ρ x)
  | .pick c x y => pickF ρ c x y
  | .nilCheck x => (match lO (ρ x) with | some (.ptr v id e j) => (lk id).bind fun _ => some { v := one1 (.ptr v id e j), rd := [id] } | some (.ip v c) => some { v := one1 (.ip v c) } | _ => none)
  | .unOp op _ x => unE ρ op x
  | .binOp op t x y _ => biE P ρ op t x y
  | .convert s t x => cvE P ρ s t x
  | .load t x => ldF P t lk (lO (ρ x))
  | .store t x y => stF P t lk (lO (ρ x)) (uO (ρ y))
  | .fieldAddr s x f => faF P s f lk (lO (ρ x))
  | .field s x f => fdF P s f (uO (ρ x))
  | .indexAddr t x y => ixF P t lk (lO (ρ x)) (lO (ρ y))
  | .index t x y => siF P t (lO (ρ x)) (lO (ρ y))
  | .extract x n => exF (ρ x) n
  | .alloc t => alF P t nid
  | .box _ x => bxF (uO (ρ x)) nid
  | .makeSlice t x y => mkF P t (lO (ρ x)) (lO (ρ y)) nid
  | .build t ps => buF P t ps ρ
  | .buildSlice t len ps => bsF P t len ps ρ nid
  | .makeFunc f first caps => mfF f first caps ρ
  | .slice t x lo hi none => slF P t lk ρ x lo hi
  | .call c => (match c.callee with
    | .builtin .len => (match c.args.toList with | [x] => lenF P c.argTypes lk (lO (ρ x)) | _ => none)
    | .builtin .max => (match c.args.toList with | [x, y] => mmF true (lO (ρ x)) (lO (ρ y)) | _ => none)
    | .builtin .min => (match c.args.toList with | [x, y] => mmF false (lO (ρ x)) (lO (ρ y)) | _ => none)
    | .builtin .append => (match c.args.toList with | [x, y] => apF P c.argTypes lk (lO (ρ x)) (lO (ρ y)) nid | _ => none)
    | _ => none)
  | _ => none
theorem op_ok {P : Program} {B : Bd} {o : Oper} {a : Act} {W : World} {d : S Value} {nid : Nat} {e : Eff} (hi : Inv B W d) (hs : SlR d a) (hf : Fresh B d nid e.news.length)
    (he : opF P o.op (evA (erS d)) (look (erS d).ob) nid = some e) : Done P B o a W d nid e := by
  unfold opF at he
  split at he
  · rename_i x h; exact mv_ok hi hs (x := x) (by simp [execOp, h]) he
  · rename_i x h; exact mv_ok hi hs (x := x) (by simp [execOp, h]) he
  · rename_i h; exact pick_ok hi hs h he
  · rename_i x h
    split at he
    · rename_i v id e' j hx
      obtain ⟨ob, hob, he⟩ := bind_some he
      cases he
      obtain ⟨l', h1, h2, h3⟩ := leaf_ok hi.good hs hx
      obtain ⟨v', rfl⟩ := er_ptr h1
      obtain ⟨o', ho', _⟩ := look_lift hob
      obtain ⟨b, _, c0, _, hv⟩ := h3.2.1 o' ho'
      exact done_leaf (l := .ptr v' id e' j) hi hs (by simp [execOp, h, h2, val, hv]) rfl h3
    · rename_i v c hx
      cases he
      exact nc_ok hi hs h (fun v id e' j hx' => by rw [hx] at hx'; cases hx') (by unfold ncF; rw [hx])
    · cases he
  · rename_i h; exact un_ok hi hs h he
  · rename_i h; exact bi_ok hi hs h he
  · rename_i h; exact cv_ok hi hs h he
  · rename_i h; exact ld_ok hi hs h he
  · rename_i h; exact st_ok hi hs h he
  · rename_i h; exact fa_ok hi hs h he
  · rename_i h; exact fd_ok hi hs h he
  · rename_i h; exact ix_ok hi hs h he
  · rename_i h; exact si_ok hi hs h he
  · rename_i h; exact ex_ok hi hs h he
  · rename_i h; exact al_ok hi hs hf h he
  · rename_i h; exact bx_ok hi hs hf h he
  · rename_i h; exact mk_ok hi hs hf h he
  · rename_i h; exact bu_ok hi hs h he
  · rename_i h; exact bs_ok hi hs hf h he
  · rename_i h; exact mf_ok hi hs h he
  · rename_i h; exact sl_ok hi hs h he
  · rename_i c h
    obtain ⟨callee, args, ats⟩ := c
    simp only at he
    have hargs : ∀ l, args.toList = l → args = l.toArray := fun l hl => by rw [← hl, Array.toArray_toList]
    split at he
    · split at he
      · rename_i hx
        rw [hargs _ hx] at h
        exact len_ok hi hs h he
      · cases he
    · split at he
      · rename_i hx
        rw [hargs _ hx] at h
        exact mm_ok (mx := true) hi hs h he
      · cases he
    · split at he
      · rename_i hx
        rw [hargs _ hx] at h
        exact mm_ok (mx := false) hi hs h he
      · cases he
    · split at he
      · rename_i hx
        rw [hargs _ hx] at h
        exact ap_ok hi hs hf h he
      · cases he
    · cases he
  · cases he
end Go.Proofs.Ytmckcjoacfekcaa.AM
