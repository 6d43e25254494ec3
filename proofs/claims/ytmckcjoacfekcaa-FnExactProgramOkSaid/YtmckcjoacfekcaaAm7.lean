import Derived.Test.YtmckcjoacfekcaaAm6
/-! The calculus, seventh part: places, elements, lengths, cuts, parts. -/
namespace Go.Proofs.Ytmckcjoacfekcaa.AM
open Go

theorem kdD_struct {d : TypeDesc} (h : kdD d = .struct) : ∃ fs, d = .struct fs := by cases d <;> simp [kdD] at h; exact ⟨_, rfl⟩
theorem fields_get {d : TypeDesc} {fs : Array Field} (hd : d = .struct fs) {f : Nat} {p : Nat × TypeId} (h : (fieldsD d)[f]? = some p) : ∃ x, fs[f]? = some x ∧ x.offset = p.1 ∧ x.type = p.2 := by
  subst hd
  simp only [fieldsD, List.getElem?_map, Option.map_eq_some_iff, Array.getElem?_toList] at h
  obtain ⟨x, hx, rfl⟩ := h
  exact ⟨x, hx, rfl, rfl⟩

-- a field's place
def faF (P : Program) (s : TypeId) (f : Nat) (lk : Lk) (l : Option (L Unit)) : Option Eff :=
  (tiOf P s).bind fun i => match i.kd with
    | .struct => (i.fields[f]?).bind fun p => (tiOf P p.2).bind fun k => if k.size = 0 then none else
      match l with
      | some (.ptr v id e j) => (lk id).bind fun _ => some { v := one1 (.ptr v id e (j + p.1)), rd := [id] }
      | some (.ip v cells) => some { v := one1 (.ip v (cells.drop p.1)) }
      | _ => none
    | _ => none
theorem fa_ok {P : Program} {B : Bd} {o : Oper} {a : Act} {W : World} {d : S Value} {nid : Nat} {e : Eff} (hi : Inv B W d) (hs : SlR d a) {s : TypeId} {f : Nat} {x : Operand} (ho : o.op = .fieldAddr s x f)
    (he : faF P s f (look (erS d).ob) (lO (evA (erS d) x)) = some e) : Done P B o a W d nid e := by
  unfold faF at he
  obtain ⟨i, ht, he⟩ := bind_some he
  obtain ⟨info, td, z, hinf, hu, _, _, hkd, _, _, _, hfs, _⟩ := tiOf_spec ht
  split at he
  · rename_i hk
    obtain ⟨fs, hd⟩ := kdD_struct (hkd.symm.trans hk)
    obtain ⟨p, hp, he⟩ := bind_some he
    rw [hfs] at hp
    obtain ⟨fld, hf1, hf2, hf3⟩ := fields_get hd hp
    obtain ⟨k, hk2, he⟩ := bind_some he
    obtain ⟨info2, _, _, hinf2, _, _, _, _, _, hsz2, _⟩ := tiOf_spec hk2
    subst hd
    split at he
    · cases he
    · rename_i hne
      have hrun : ∀ (b y : Nat), (Instr.fieldAt s (.pointer (some ⟨b, y, none⟩)) f).run P W = .ok (.pointer (some ⟨b, y + p.1, none⟩)) W := fun b y => by
        have hsz : (sizeOf fld.type).run P W = .ok k.size W := by simp [sizeOf, typeInfo, hf3, hinf2, hsz2]
        simp [Instr.fieldAt, run_underlying hu, hf1, Instr.sureAddr, fieldPlace, hsz, hne, addr_add, hf2]
      split at he
      · rename_i v id e' j hx
        obtain ⟨ob, hob, he⟩ := bind_some he
        cases he
        obtain ⟨l', h1, h2, h3⟩ := leaf_ok hi.good hs hx
        obtain ⟨v', rfl⟩ := er_ptr h1
        obtain ⟨ob', ho', rfl⟩ := look_lift hob
        obtain ⟨b, y, c0, hh, hv⟩ := h3.2.1 ob' ho'
        refine done_leaf (l := .ptr (.pointer (some ⟨b, y + (e' * ob'.n + (j + p.1)), none⟩)) id e' (j + p.1)) hi hs ?_ rfl ⟨⟨rfl, _, rfl⟩, fun o2 ho2 => ?_, by simp [immL], h3.2.2.2⟩
        · simp only [execOp, ho, h2, val, hv]
          rw [Sem.run_bind, hrun]
          simp [Nat.add_assoc]
        · rw [ho'] at ho2
          cases ho2
          exact ⟨b, y, c0, hh, rfl⟩
      · rename_i v cells hx
        cases he
        obtain ⟨l', h1, h2, h3⟩ := leaf_ok hi.good hs hx
        obtain ⟨v', c', rfl, rfl⟩ := er_ip h1
        obtain ⟨_, ⟨b, y, rfl⟩, _⟩ := h3.1
        have := done_leaf (P := P) (B := B) (o := o) (a := a) (W := W) (nid := nid) (rd := []) (hyp := True) (l := .ip (.pointer (some ⟨b, y + p.1, none⟩)) (c'.drop p.1)) hi hs (by
          simp only [execOp, ho, h2, val]
          rw [Sem.run_bind, hrun]
          rfl) rfl (has_ip_drop h3 p.1)
        simpa [mapL, mapC_eq, List.map_drop] using this
      · cases he
  · cases he

-- a field of a value
def fdF (P : Program) (s : TypeId) (f : Nat) (u : Option (U Unit)) : Option Eff :=
  (tiOf P s).bind fun i => match i.kd with
    | .struct => (i.fields[f]?).bind fun p => (tiOf P p.2).bind fun k => match u with
      | some (.agg ls) => (pk k ls p.1).bind fun u => if noOsU u then some { v := .u u } else none
      | _ => none
    | _ => none
theorem run_part' {P : Program} {W : World} {t : TypeId} {i : TI} (ht : tiOf P t = some i) {off : Nat} {cells : List (L Value)} {u : U Value} (h : pk i cells off = some u) :
    ∃ x, (part t (cells.map val).toArray off).run P W = .ok x W ∧ UR u x := by
  obtain ⟨info, d, z, hi, hu, _, _, _, hagg, hsz, _⟩ := tiOf_spec ht
  have hsize : (sizeOf t).run P W = .ok info.size W := by simp [sizeOf, typeInfo, hi]
  have hisagg : (isAgg t).run P W = .ok (isAggD d) W := by
    unfold isAgg
    rw [Sem.run_bind, run_underlying hu]
    cases d <;> rfl
  unfold pk at h
  rw [hagg] at h
  simp only [part, Sem.run_bind, hisagg, Result.andThen_ok]
  split at h
  · rename_i hag
    split at h
    · cases h
      rw [hag]
      simp only [if_true, Sem.run_bind, hsize, Result.andThen_ok]
      refine ⟨_, rfl, ?_⟩
      simp only [UR]
      congr 1
      rw [← hsz]
      simp [List.map_take, List.map_drop]
    · cases h
  · rename_i hag
    rw [Option.map_eq_some_iff] at h
    obtain ⟨l, hl, rfl⟩ := h
    have hag' : isAggD d = false := by simpa using hag
    rw [hag']
    simp [hl]
    rfl
theorem fd_ok {P : Program} {B : Bd} {o : Oper} {a : Act} {W : World} {d : S Value} {nid : Nat} {e : Eff} (hi : Inv B W d) (hs : SlR d a) {s : TypeId} {f : Nat} {x : Operand} (ho : o.op = .field s x f)
    (he : fdF P s f (uO (evA (erS d) x)) = some e) : Done P B o a W d nid e := by
  unfold fdF at he
  obtain ⟨i, ht, he⟩ := bind_some he
  obtain ⟨info, td, z, hinf, hu, _, _, hkd, _, _, _, hfs, _⟩ := tiOf_spec ht
  split at he
  · rename_i hk
    obtain ⟨fs, hd⟩ := kdD_struct (hkd.symm.trans hk)
    obtain ⟨p, hp, he⟩ := bind_some he
    rw [hfs] at hp
    obtain ⟨fld, hf1, hf2, hf3⟩ := fields_get hd hp
    obtain ⟨k, hk2, he⟩ := bind_some he
    subst hd
    split at he
    · rename_i ls hx
      obtain ⟨u, hu2, he⟩ := bind_some he
      split at he
      · rename_i hno
        cases he
        obtain ⟨u', h1, h2, h3⟩ := u_ok hi.good hs hx
        cases u' with
        | one l => cases h1
        | agg ls' =>
          simp only [mapU, U.agg.injEq] at h1
          subst h1
          rw [← pk_er, Option.map_eq_some_iff] at hu2
          obtain ⟨u2, hu2, rfl⟩ := hu2
          obtain ⟨x', hx', hur⟩ := run_part' (W := W) hk2 hu2
          refine done_pure hi hs (v := .u u2) (x := x') ?_ hur (by rw [← noOsV_er]; exact hno) (fun l hl => h3 l (pk_mem hu2 l hl)) trivial
          simp only [UR] at h2
          simp only [execOp, ho, h2]
          simp [Instr.field, run_underlying hu, hf1, asAgg, hf2, hf3, hx']
      · cases he
    · cases he
  · cases he

-- an element's place
def ixF (P : Program) (t : TypeId) (lk : Lk) (l ix : Option (L Unit)) : Option Eff :=
  (tiOf P t).bind fun i => match i.kd with
    | .slice => (tiOf P i.elem).bind fun ie => match ix with
      | some (.int _ n) => (match l with
        | some (.bs v m rows) => if m = ie.size then (if 0 ≤ n ∧ n < (rows.length : Int) then (rows[n.toNat]?).bind fun r => some { v := one1 (.ip v r) } else none) else none
        | some (.ref v id off len) => (lk id).bind fun ob => if ob.n = ie.size then (if 0 ≤ n ∧ n < (len : Int) then some { v := one1 (.ptr v id (off + n.toNat) 0), rd := [id] } else none) else none
        | _ => none)
      | _ => none
    | _ => none
theorem ix_ok {P : Program} {B : Bd} {o : Oper} {a : Act} {W : World} {d : S Value} {nid : Nat} {e : Eff} (hi : Inv B W d) (hs : SlR d a) {t : TypeId} {x y : Operand} (ho : o.op = .indexAddr t x y)
    (he : ixF P t (look (erS d).ob) (lO (evA (erS d) x)) (lO (evA (erS d) y)) = some e) : Done P B o a W d nid e := by
  unfold ixF at he
  obtain ⟨i, ht, he⟩ := bind_some he
  obtain ⟨info, td, z, hinf, hu, _, _, hkd, _, _, _, _, hel, _⟩ := tiOf_spec ht
  split at he
  · rename_i hk
    have hd := kdD_slice (hkd.symm.trans hk)
    obtain ⟨ie, hie, he⟩ := bind_some he
    obtain ⟨info2, _, _, hinf2, _, _, _, _, _, hsz2, _⟩ := tiOf_spec hie
    rw [hel] at hinf2
    have hsz : ∀ w : World, (sizeOf (elemD td)).run P w = .ok ie.size w := fun w => by simp [sizeOf, typeInfo, hinf2, hsz2]
    rw [hd] at hu
    split at he
    · rename_i k n hy
      obtain ⟨y', g1, g2, g3⟩ := leaf_ok hi.good hs hy
      obtain rfl := er_int g1
      have hrun : ∀ (b q len c : Nat), 0 ≤ n ∧ n < (len : Int) → (Instr.indexAt t (.slice (some ⟨b, q, none⟩) len c) (.int k n)).run P W = .ok (.pointer (some ⟨b, q + n.toNat * ie.size, none⟩)) W := fun b q len c hb => by
        simp [Instr.indexAt, run_underlying hu, asIntOf, hb, hsz, addr_add]
      split at he
      · rename_i v m rows hx
        split at he
        · rename_i hm
          split at he
          · rename_i hb
            obtain ⟨r, hr, he⟩ := bind_some he
            cases he
            obtain ⟨l', h1, h2, h3⟩ := leaf_ok hi.good hs hx
            obtain ⟨v', rows', rfl, rfl⟩ := er_bs h1
            rw [mapR_eq, List.getElem?_map, Option.map_eq_some_iff] at hr
            obtain ⟨r', hr', rfl⟩ := hr
            rw [mapR_eq, List.length_map] at hb
            obtain ⟨b, q, c, hv, hh⟩ := has_row h3 hr'
            have := done_leaf (P := P) (B := B) (o := o) (a := a) (W := W) (nid := nid) (rd := []) (hyp := True) (l := .ip (.pointer (some ⟨b, q + n.toNat * m, none⟩)) r') hi hs (by
              simp only [execOp, ho, h2, g2, val, hv]
              rw [Sem.run_bind, hrun _ _ _ _ hb, hm]
              rfl) rfl hh
            simpa [mapL, mapC_eq] using this
          · cases he
        · cases he
      · rename_i v id off len hx
        obtain ⟨ob, hob, he⟩ := bind_some he
        split at he
        · rename_i hm
          split at he
          · rename_i hb
            cases he
            obtain ⟨l', h1, h2, h3⟩ := leaf_ok hi.good hs hx
            obtain ⟨v', rfl⟩ := er_ref h1
            obtain ⟨ob', ho', rfl⟩ := look_lift hob
            obtain ⟨hlen, hv⟩ := h3.2.1 ob' ho'
            rcases hv with ⟨hh, hv⟩ | ⟨b, q, c0, hh, hv⟩
            · have := (hi.good.obs _ (find?_key ho')).1
              rcases this with ⟨_, h0⟩ | ⟨b, q, c, h0, _⟩
              · rw [h0] at hlen; simp at hlen; omega
              · rw [hh] at h0; cases h0
            · rcases hv with hv | ⟨a0, hv, h0, _⟩
              · refine done_leaf (l := .ptr (.pointer (some ⟨b, q + ((off + n.toNat) * ob'.n + 0), none⟩)) id (off + n.toNat) 0) hi hs ?_ rfl ⟨⟨rfl, _, rfl⟩, fun o2 ho2 => ?_, by simp [immL], h3.2.2.2⟩
                · simp only [execOp, ho, h2, g2, val, hv]
                  rw [Sem.run_bind, hrun _ _ _ _ hb]
                  have : (erOb ob').n = ob'.n := rfl
                  rw [this] at hm
                  simp [hm, Nat.add_mul, Nat.add_assoc]
                · rw [ho'] at ho2
                  cases ho2
                  exact ⟨b, q, c0, hh, rfl⟩
              · omega
          · cases he
        · cases he
      · cases he
    · cases he
  · cases he

-- a byte of a string
def siF (P : Program) (t : TypeId) (l ix : Option (L Unit)) : Option Eff :=
  (tiOf P t).bind fun i => match i.kd, l, ix with
    | .str, some (.str s), some (.int _ n) => if 0 ≤ n then (s[n.toNat]?).bind fun b => some { v := one1 (.int .u8 b.toNat) } else none
    | _, _, _ => none
theorem si_ok {P : Program} {B : Bd} {o : Oper} {a : Act} {W : World} {d : S Value} {nid : Nat} {e : Eff} (hi : Inv B W d) (hs : SlR d a) {t : TypeId} {x y : Operand} (ho : o.op = .index t x y)
    (he : siF P t (lO (evA (erS d) x)) (lO (evA (erS d) y)) = some e) : Done P B o a W d nid e := by
  unfold siF at he
  obtain ⟨i, ht, he⟩ := bind_some he
  obtain ⟨info, td, z, hinf, hu, _, _, hkd, _⟩ := tiOf_spec ht
  split at he
  · rename_i s k n hk hx hy
    obtain rfl := kdD_str (hkd.symm.trans hk)
    obtain ⟨l', h1, h2, h3⟩ := leaf_ok hi.good hs hx
    obtain rfl := er_str h1
    obtain ⟨y', g1, g2, g3⟩ := leaf_ok hi.good hs hy
    obtain rfl := er_int g1
    split at he
    · rename_i hn
      obtain ⟨b, hb, he⟩ := bind_some he
      cases he
      refine done_leaf (l := .int _ _) hi hs ?_ rfl (has_int _ _)
      simp [execOp, ho, h2, g2, val, Instr.index, asIntOf, run_underlying hu, hn, hb]
    · cases he
  · cases he

-- a part of what a call gave
def exF (v : Option (V Unit)) (n : Nat) : Option Eff := match v with
  | some (.tup xs) => (xs[n]?).bind fun u => if noOsU u then some { v := .u u } else none
  | _ => none
theorem ex_ok {P : Program} {B : Bd} {o : Oper} {a : Act} {W : World} {d : S Value} {nid : Nat} {e : Eff} (hi : Inv B W d) (hs : SlR d a) {x : Operand} {n : Nat} (ho : o.op = .extract x n)
    (he : exF (evA (erS d) x) n = some e) : Done P B o a W d nid e := by
  unfold exF at he
  split at he
  · rename_i xs hx
    obtain ⟨u, hu, he⟩ := bind_some he
    split at he
    · rename_i hno
      cases he
      obtain ⟨v', h1, h2⟩ := ev_lift hx
      obtain ⟨h3, h4⟩ := evD_ok hi.good hs h1
      cases v' with
      | tup xs' =>
        simp only [mapV, V.tup.injEq] at h2
        subst h2
        rw [List.getElem?_map, Option.map_eq_some_iff] at hu
        obtain ⟨u', hu', rfl⟩ := hu
        obtain ⟨vs, hv, hl, hall⟩ := h3
        have hlt : n < vs.length := by rw [hl]; exact (List.getElem?_eq_some_iff.1 hu').1
        refine done_pure hi hs (v := .u u') (x := vs[n]) ?_ (hall n u' _ hu' (List.getElem?_eq_getElem hlt)) (by rw [← noOsV_er]; exact hno) (fun l hl => h4 l ?_) trivial
        · simp [execOp, ho, hv, Instr.extract, hlt]
        · simp only [leavesV]
          exact List.mem_flatMap.2 ⟨u', List.mem_of_getElem? hu', hl⟩
      | u x => cases h2
      | un => cases h2
      | ud => cases h2
    · cases he
  · cases he

-- lengths
def lenF (P : Program) (ts : Array TypeId) (lk : Lk) (l : Option (L Unit)) : Option Eff := match ts[0]? with
  | some t => (tiOf P t).bind fun i => match i.kd, l with
    | .str, some (.str s) => some { v := one1 (.int .i64 s.size) }
    | .slice, some .nl => some { v := one1 (.int .i64 0) }
    | .slice, some (.bs _ _ rows) => some { v := one1 (.int .i64 rows.length), hyp := rows.length ≤ LIM }
    | .slice, some (.ref _ id _ len) => (lk id).bind fun _ => some { v := one1 (.int .i64 len), rd := [id], hyp := len ≤ LIM }
    | _, _ => none
  | none => none
theorem len_ok {P : Program} {B : Bd} {o : Oper} {a : Act} {W : World} {d : S Value} {nid : Nat} {e : Eff} (hi : Inv B W d) (hs : SlR d a) {ts : Array TypeId} {x : Operand}
    (ho : o.op = .call { callee := .builtin .len, args := #[x], argTypes := ts }) (he : lenF P ts (look (erS d).ob) (lO (evA (erS d) x)) = some e) : Done P B o a W d nid e := by
  unfold lenF at he
  split at he
  · rename_i t hts
    obtain ⟨i, ht, he⟩ := bind_some he
    obtain ⟨info, td, z, hinf, hu, _, _, hkd, _⟩ := tiOf_spec ht
    have hrun : ∀ v r, a.eval x = v → (match td, v with | .string, .string s => (goInt s.size) = r | .slice _, .slice _ n _ => goInt n = r | _, _ => False) → (execOp a.eval o).run P W = .ok (.value r) W := fun v r hv h => by
      simp only [execOp, ho, resolve, invoke, builtin, Builtin.len_, List.map_toArray, List.map_cons, List.map_nil, hv]
      split at h
      · simp [hts, run_underlying hu, h]
      · simp [hts, run_underlying hu, h]
      · cases h
    split at he
    · rename_i s hk hx
      obtain rfl := kdD_str (hkd.symm.trans hk)
      cases he
      obtain ⟨l', h1, h2, h3⟩ := leaf_ok hi.good hs hx
      obtain rfl := er_str h1
      exact done_leaf (l := .int _ _) hi hs (hrun _ _ h2 rfl) rfl (has_int _ _)
    · rename_i hk hx
      have hd := kdD_slice (hkd.symm.trans hk)
      cases he
      obtain ⟨l', h1, h2, h3⟩ := leaf_ok hi.good hs hx
      obtain rfl := er_nl h1
      exact done_leaf (l := .int _ _) hi hs (hrun _ _ h2 (by rw [hd]; rfl)) rfl (has_int _ _)
    · rename_i v m rows hk hx
      have hd := kdD_slice (hkd.symm.trans hk)
      cases he
      obtain ⟨l', h1, h2, h3⟩ := leaf_ok hi.good hs hx
      obtain ⟨v', rows', rfl, rfl⟩ := er_bs h1
      obtain ⟨⟨a0, c, hv, _, hlim, _⟩, _⟩ := h3.1
      have hl : (mapR (fun _ => ()) rows').length = rows'.length := by rw [mapR_eq, List.length_map]
      rw [hl]
      exact done_leaf (l := .int _ _) hi hs (hrun _ _ h2 (by rw [hd, val, hv]; rfl)) rfl (has_int _ _) hlim
    · rename_i v id off len hk hx
      have hd := kdD_slice (hkd.symm.trans hk)
      obtain ⟨ob, hob, he⟩ := bind_some he
      cases he
      obtain ⟨l', h1, h2, h3⟩ := leaf_ok hi.good hs hx
      obtain ⟨v', rfl⟩ := er_ref h1
      obtain ⟨ob', ho', rfl⟩ := look_lift hob
      obtain ⟨hlen, hv⟩ := h3.2.1 ob' ho'
      have hlim : len ≤ LIM := by
        have := (hi.good.obs _ (find?_key ho')).1
        rcases this with ⟨_, h0⟩ | ⟨_, _, _, _, _, h0⟩
        · rw [h0] at hlen; simp at hlen; omega
        · simp only at h0; omega
      have hval : ∃ a0 c, v' = .slice a0 len c := by
        rcases hv with ⟨hh, hv⟩ | ⟨b, q, c0, hh, hv⟩
        · have := (hi.good.obs _ (find?_key ho')).1
          rcases this with ⟨_, h0⟩ | ⟨b, q, c, h0, _⟩
          · rw [h0] at hlen; simp at hlen
            obtain ⟨_, rfl⟩ := hlen
            exact ⟨_, _, hv⟩
          · rw [hh] at h0; cases h0
        · rcases hv with hv | ⟨a0, hv, rfl, _⟩
          · exact ⟨_, _, hv⟩
          · exact ⟨_, _, hv⟩
      obtain ⟨a0, c, hv2⟩ := hval
      exact done_leaf (l := .int _ _) hi hs (hrun _ _ h2 (by rw [hd, val, hv2]; rfl)) rfl (has_int _ _) hlim
    · cases he
  · cases he

-- the greater, the less
def mmF (mx : Bool) (x y : Option (L Unit)) : Option Eff := match x, y with
  | some (.int k a), some (.int _ b) => some { v := one1 (.int k (if (if mx then b > a else b < a) then b else a)) }
  | _, _ => none
theorem mm_ok {P : Program} {B : Bd} {o : Oper} {a : Act} {W : World} {d : S Value} {nid : Nat} {e : Eff} (hi : Inv B W d) (hs : SlR d a) {ts : Array TypeId} {mx : Bool} {x y : Operand}
    (ho : o.op = .call { callee := .builtin (if mx then .max else .min), args := #[x, y], argTypes := ts }) (he : mmF mx (lO (evA (erS d) x)) (lO (evA (erS d) y)) = some e) : Done P B o a W d nid e := by
  unfold mmF at he
  split at he
  · rename_i k m k' n hx hy
    cases he
    obtain ⟨l', h1, h2, h3⟩ := leaf_ok hi.good hs hx
    obtain rfl := er_int h1
    obtain ⟨y', g1, g2, g3⟩ := leaf_ok hi.good hs hy
    obtain rfl := er_int g1
    refine done_leaf (l := .int _ _) hi hs ?_ rfl (has_int _ _)
    cases mx <;> simp [execOp, ho, resolve, invoke, builtin, Builtin.max_, Builtin.min_, Builtin.max2, Builtin.min2, h2, g2, val]
  · cases he
end Go.Proofs.Ytmckcjoacfekcaa.AM
