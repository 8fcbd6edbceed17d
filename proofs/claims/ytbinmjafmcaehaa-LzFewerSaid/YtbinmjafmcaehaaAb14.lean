/- The abstract layer, part 14: append. -/
import Derived.Test.YtbinmjafmcaehaaAb13
namespace Go.AB
open Go

section
variable {P : Program} {G G' : Gh} {n : Nat} {σ : St} {a : Act} {w w' : World}

/-- What is appended. -/
structure Src (P : Program) (w : World) (R : Nat → Nat) (sz m : Nat) (ds : List AV) (v : Value) (news : List Value) : Prop where
  len : news.length = m * sz
  lenD : ds.length = m * sz
  lenOf : ∀ w', (Builtin.lenOf v).run P w' = .ok m w'
  first : ∀ w', w'.heap = w.heap → (Builtin.firstCells sz m v).run P w' = .ok news.toArray w'
  one : ∀ u ∈ news, u.oneCell' = true
  vals : ∀ (j : Nat) (c : AV) (u : Value), ds[j]? = some c → news[j]? = some u → VR w R c u
  fl : Fl ds

theorem cell_heap {w w' : World} (h : w'.heap = w.heap) (a : Addr) : w'.cell? a = w.cell? a := by unfold World.cell?; rw [h]

theorem Src.of_sl {R : Nat → Nat} {o : Bool} {s sz m : Nat} {ds : List AV} {v : Value} (h : VR w R (.sl o s m ds) v) (hs : s = sz ∨ m = 0) : ∃ news, Src P w R sz m (views ds) v news := by
  rcases VR.inv_sl h with ⟨rfl, rfl, rfl⟩ | ⟨b, off, cap, rfl, hl, _, _, hat⟩
  · exact ⟨[], by simp, by simp [views], fun _ => rfl, fun _ _ => rfl, by simp, fun j c u hc => by simp [views] at hc, Fl.nil⟩
  · have hlen : (views ds).length = m * sz := by
      rcases hs with rfl | rfl
      · simp [views, hl]
      · simp only [views, List.length_map, hl]; omega
    have hatv := hat.views
    obtain ⟨us, h1, h2, h3⟩ := hatv.vals
    have hfl : Fl (views ds) := by obtain ⟨_, _, _, hf⟩ := hatv; exact hf
    refine ⟨us, by rw [h1, hlen], hlen, fun _ => rfl, fun w' hw' => ?_, fun u hu => ?_, h3, hfl⟩
    · exact run_firstCells_some w' sz m ⟨b, off, none⟩ m cap us (by rw [h1, hlen]) fun j v hj => by rw [cell_heap hw']; exact h2 j v hj
    · obtain ⟨j, hj⟩ := List.mem_iff_getElem?.1 hu
      have hlt : j < (views ds).length := by rw [← h1]; exact (List.getElem?_eq_some_iff.1 hj).1
      have hx := List.getElem?_eq_getElem hlt
      exact oneCell_of_flat (hfl _ (List.getElem_mem hlt)) (h3 j _ u hx hj)

theorem Src.of_str {R : Nat → Nat} {l : List UInt8} : Src P w R 1 l.length (l.map fun c => .int .u8 c.toNat) (.string ⟨l.toArray⟩) (l.map fun c => .int .u8 c.toNat) where
  len := by simp
  lenD := by simp
  lenOf := fun w' => by simp [Builtin.lenOf, ByteArray.size]
  first := fun w' _ => by
    have : (ByteArray.mk l.toArray).extract 0 l.length = ⟨l.toArray⟩ := by
      apply ByteArray.ext
      rw [ByteArray.data_extract]
      simp
    simp [Builtin.firstCells, this]
  one := fun u hu => by
    simp only [List.mem_map] at hu
    obtain ⟨x, _, rfl⟩ := hu
    rfl
  vals := fun j c u hc hu => by
    rw [List.getElem?_map] at hc hu
    cases hj : l[j]? with
    | none => rw [hj] at hc; cases hc
    | some x => rw [hj] at hc hu; simp at hc hu; rw [← hc, ← hu]; exact .int _ _
  fl := bytes_fl l

section runs
variable {t t' ty e : TypeId} {i : TypeInfo} {z : Value} {sz m : Nat} {ds : List AV} {v : Value} {news : List Value}

theorem run_app_stay (ht : P.underlying t = some (.slice e)) (ht' : (∃ e', P.underlying t' = some (.slice e')) ∨ P.underlying t' = some .string) (hi : P.info? e = some i) (hsz : i.size = sz) {R : Nat → Nat} (hs : Src P w R sz m ds v news) {b off k cap : Nat}
    (hroom : k + m ≤ cap) {w' : World} (hst : (storeCells ⟨b, off + k * sz, none⟩ news).run P w = .ok () w') :
    (Builtin.append_ #[t, t'] ty #[.slice (some ⟨b, off, none⟩) k cap, v]).run P w = .ok (.slice (some ⟨b, off, none⟩) (k + m) cap) w' := by
  subst hsz
  have h1 := hs.lenOf w
  have h2 := hs.first w rfl
  rcases ht' with ⟨e', ht'⟩ | ht' <;>
    simp [Builtin.append_, run_underlying ht, run_underlying ht', sizeOf, typeInfo, hi, h1, hroom, h2, add_eq, hst]

theorem run_app_nil0 (ht : P.underlying t = some (.slice e)) (ht' : (∃ e', P.underlying t' = some (.slice e')) ∨ P.underlying t' = some .string) (hi : P.info? e = some i) (hsz : i.size = sz) {R : Nat → Nat} (hs : Src P w R sz 0 ds v news) :
    (Builtin.append_ #[t, t'] ty #[.slice none 0 0, v]).run P w = .ok (.slice none 0 0) w := by
  subst hsz
  have h1 := hs.lenOf w
  have h2 := hs.first w rfl
  rcases ht' with ⟨e', ht'⟩ | ht' <;>
    simp [Builtin.append_, run_underlying ht, run_underlying ht', sizeOf, typeInfo, hi, h1, h2]

theorem run_app_grow (ht : P.underlying t = some (.slice e)) (ht' : (∃ e', P.underlying t' = some (.slice e')) ∨ P.underlying t' = some .string) (hi : P.info? e = some i) (hz : i.zero = some z) (hsz : i.size = sz) {R : Nat → Nat} (hs : Src P w R sz m ds v news) {base : Option Addr} {k cap : Nat} {olds : List Value}
    (hold : (Builtin.firstCells sz k (.slice base k cap)).run P w.drew = .ok olds.toArray w.drew) (hroom : cap < k + m) (hbytes : (k + m) * i.bytes ≤ room) (hb0 : 0 < i.bytes) :
    (Builtin.append_ #[t, t'] ty #[.slice base k cap, v]).run P w = .ok (.slice (some ⟨w.heap.size, 0, none⟩) (k + m) (grownCap w (k + m) cap e))
      (w.drew.alloc (.cells (olds.toArray ++ news.toArray ++ Builtin.zeroCells z.cells (grownCap w (k + m) cap e - (k + m))) e)) := by
  subst hsz
  have h1 := hs.lenOf w
  have h2 := hs.first w.drew rfl
  have h3 : ¬ (k + m ≤ cap) := by omega
  have h4 : ¬ (281474976710656 < Builtin.nextslicecap (k + m) cap * i.bytes) := by have := growslice_fits hroom hbytes; omega
  have h5 : k + m ≤ (k + m) * i.bytes := Nat.le_mul_of_pos_right _ hb0
  have h6 : ¬ ((9223372036854775807 : Int) < (k : Int) + m) := by unfold room at hbytes; omega
  rcases ht' with ⟨e', ht'⟩ | ht' <;>
    simp [Builtin.append_, run_underlying ht, run_underlying ht', sizeOf, typeInfo, zeroValue, hi, hz, h1, h3, h4, h6, Question.forced, hold, h2, newRow, grownCap] <;>
    (congr 2; apply Array.ext'; simp [List.append_assoc])
end runs

/-- The state behind an append that stays in its row. -/
theorem Inv.grown (h : Inv G n σ a w) {d : Option Nat} (hd : dstOK n d = true) {b off sz k m cap : Nat} {c : Array Value} {t : TypeId} {fz : Nat × Nat} {cs ds : List AV} {v : Value} {news : List Value} {R : Nat → Nat}
    (hb : w.heap[b]? = some (.cells c t fz)) (hfz : (∀ j, j < c.size → ¬ (fz.1 ≤ j ∧ j < fz.2)) ∧ fz.1 ≤ fz.2) (ho : ∀ i, d = some i → G.O b = .slot i 0) (hon : G.O b ≠ .none ∧ G.O b ≠ .frame ∧ G.O b ≠ .sh ∧ (∀ i, G.O b ≠ .loc i) ∧ (∀ i j, G.O b ≠ .cell i j) ∧ (∀ i j, G.O b = .slot i j → d = some i ∧ j = 0))
    (hR : G.R b = off + k * sz) (hsz : c.size = off + cap * sz) (hcap : k + m ≤ cap) (hlc : cs.length = k * sz) (hat : At w G.R b off cs) (hs : Src P w R sz m ds v news) (hRR : R = G.R) :
    ∃ G', Inv G' n (σ.put d (.sl true sz (k + m) (cs ++ ds))) (a.put d (.slice (some ⟨b, off, none⟩) (k + m) cap)) (w.setRow b (laid c (off + k * sz) news)) ∧ Pres G w G' (w.setRow b (laid c (off + k * sz) news)) := by
  subst hRR
  have hfit : off + k * sz + news.length ≤ c.size := by
    rw [hs.len, hsz, Nat.add_assoc, ← Nat.add_mul]
    exact Nat.add_le_add_left (Nat.mul_le_mul_right _ hcap) _
  let G' := G.upd b (G.O b) (off + (k + m) * sz)
  have hmul : (k + m) * sz = k * sz + m * sz := Nat.add_mul ..
  have hpres : Pres G w G' (w.setRow b (laid c (off + k * sz) news)) := Pres.write hb ⟨hon.2.1, hon.1⟩
    (fun j hj => by rw [hR] at hj; rw [laid_get _ _ _ hfit, if_neg (by omega)]) (by simp only [G', Gh.upd_R, if_true, hR, hmul]; omega) (fun b' hb' => by simp [G', hb'])
  have hgood : GoodW G' (w.setRow b (laid c (off + k * sz) news)) := by
    have hlt : b < w.heap.size := h.good.lt hon.1
    refine ⟨fun b' hb' => ?_, fun b' hb' => ?_⟩
    · have hb'' : w.heap.size ≤ b' := by simpa [World.setRow] using hb'
      have : b' ≠ b := by omega
      simp [G', this, h.good.newO b' hb'']
    · have hb'' : w.heap.size ≤ b' := by simpa [World.setRow] using hb'
      have : b' ≠ b := by omega
      simp [G', this, h.good.newR b' hb'']
  have same : ∀ b', b' ≠ b → G'.O b' = G.O b' ∧ G'.R b' = G.R b' ∧ (w.setRow b (laid c (off + k * sz) news)).heap[b']? = w.heap[b']? := fun b' hb' => ⟨by simp [G', hb'], by simp [G', hb'], setRow_other w b b' _ hb'⟩
  have hst := h.store.mono h.good hpres (fun b' hb' => by
      obtain ⟨q1, q2, q3⟩ := same b' (fun e => by subst e; exact hon.2.2.1 hb')
      exact ⟨q1.trans hb', q2, q3⟩) (fun b' c' j _ hc' => by
      obtain ⟨q1, q2, q3⟩ := same c' (fun e => by subst e; exact hon.2.2.2.2.1 _ _ hc')
      exact ⟨q1.trans hc', q2, q3⟩)
  have := h.put (s' := σ.s) (lp' := σ.lp) d (fun i hi => by subst hi; simpa [dstOK] using hd) (.sl true sz (k + m) (cs ++ ds)) (.slice (some ⟨b, off, none⟩) (k + m) cap) hgood hpres hst (fun _ hx => hx) (fun i t _ ht => ht.elim) (fun i t _ ⟨cs', hcs'⟩ => by cases hcs')
    (fun i b' hdi hb' => same b' (fun e => by
      subst e
      rcases hb' with ⟨j, hb'⟩ | hb'
      · exact hdi (hon.2.2.2.2.2 i j hb').1
      · exact hon.2.2.2.1 _ hb'))
    (fun i b' c' j hdi hb' hc' => by
      obtain ⟨q1, q2, q3⟩ := same c' (fun e => by subst e; exact hon.2.2.2.2.1 _ _ hc')
      exact ⟨q1.trans hc', q2, q3⟩)
    (fun i hi => by
      obtain ⟨u, u1, u2, u3⟩ := hat
      subst hi
      refine ⟨?_, ?_⟩
      · have hll : (cs ++ ds).length = (k + m) * sz := by rw [List.length_append, hlc, hs.lenD, hmul]
        refine .sl true sz (k + m) (cs ++ ds) b off cap (fun j => if j < k * sz then u j else news.getD (j - k * sz) undef) (fun x hx => ?_) hll (by rw [hll]; simp [G']) hcap (fun j x hj => ?_) (fun j x hj => ?_)
        · rcases List.mem_append.1 hx with hx | hx
          · exact u3 x hx
          · exact hs.fl x hx
        · rw [setRow_cell hb, if_pos rfl, laid_get _ _ _ hfit]
          have hjl : j < (k + m) * sz := by rw [← hll]; exact (List.getElem?_eq_some_iff.1 hj).1
          by_cases hjk : j < k * sz
          · rw [if_neg (by omega), if_pos hjk]
            rw [List.getElem?_append_left (by rw [hlc]; exact hjk)] at hj
            rw [← cell_of_row w hb]
            exact u1 j x hj
          · have h1 := hs.len
            rw [if_pos (by omega), if_neg hjk]
            have : off + j - (off + k * sz) = j - k * sz := by omega
            rw [this]
            have hlt : j - k * sz < news.length := by omega
            simp [List.getD_eq_getElem?_getD, hlt]
        · by_cases hjk : j < k * sz
          · rw [if_pos hjk]
            rw [List.getElem?_append_left (by rw [hlc]; exact hjk)] at hj
            exact hpres.vr h.good (u2 j x hj)
          · rw [if_neg hjk]
            rw [List.getElem?_append_right (by rw [hlc]; omega), hlc] at hj
            have h1 := hs.len
            have h2 := hs.lenD
            have hlt : j - k * sz < news.length := by have := (List.getElem?_eq_some_iff.1 hj).1; omega
            have hn : news[j - k * sz]? = some (news.getD (j - k * sz) undef) := by simp [List.getD_eq_getElem?_getD, hlt]
            exact hpres.vr h.good (hs.vals _ x _ hj hn)
      · intro base m' cap' hv hc
        injection hv with e1 e2 e3
        subst e3
        exact ⟨b, off, _, t, fz, e1.symm, by simp only [G', Gh.upd_O, if_true]; exact ho i rfl, by simp [G'], setRow_heap w b c _ t fz hb, by rw [laid_size _ _ _ hfit, hsz], by rw [laid_size _ _ _ hfit]; exact hfz⟩)
  exact ⟨G', by cases d <;> exact this, hpres⟩

def ownT : Option Nat → Owner
  | some i => .slot i 0
  | none => .res 0

theorem zeroLen_eq {e : TypeId} {sz : Nat} (h : zeroLen P e sz = true) : ∃ i z, P.info? e = some i ∧ i.zero = some z ∧ z.cells.size = sz := by
  unfold zeroLen at h
  split at h <;> try (cases h; done)
  split at h <;> try (cases h; done)
  rename_i i hi _ z hz
  exact ⟨i, z, hi, hz, by simpa using h⟩

theorem eff_append (h : Inv G n σ a w) {op : Op} {ty : TypeId} {sz by' : Nat} {x y : IX} {d : Option Nat} {K : St → Prop} (hd : dstOK n d = true) (hc : chkOp P op ty (.append sz by' x y) = true) (hw : iwp P (.append sz by' x y) d σ K) : Eff P G n w a op ty d K := by
  cases op <;> first | (simp [chkOp] at hc; done) | skip
  rename_i c
  simp only [chkOp] at hc
  split at hc <;> try (cases hc; done)
  rename_i u v t t' hb
  have hce := asB_eq hb
  subst hce
  simp only [Bool.and_eq_true] at hc
  obtain ⟨⟨hu, hv⟩, hc⟩ := hc
  split at hc <;> try (cases hc; done)
  rename_i e ht
  have ht := elemOfSl_eq ht
  simp only [Bool.and_eq_true] at hc
  obtain ⟨⟨⟨⟨⟨hs, hby⟩, hpos⟩, hbpos⟩, hzl⟩, ht'⟩ := hc
  obtain ⟨i, z, hi, hz, hzs⟩ := zeroLen_eq hzl
  obtain ⟨i', hi', hisz⟩ := sizeIs_eq hs
  rw [hi] at hi'; injection hi' with hi'; subst hi'
  have hpos := of_decide_eq_true hpos
  have hbpos := of_decide_eq_true hbpos
  have hby : i.bytes = by' := by
    unfold bytesIs at hby
    rw [hi] at hby
    simpa using hby
  have ht2 : (∃ e', P.underlying t' = some (.slice e')) ∨ P.underlying t' = some .string := by
    rcases Bool.or_eq_true .. ▸ ht' with h | h
    · cases he : elemOfSl P t' with
      | none => rw [he] at h; cases h
      | some e' => exact .inl ⟨e', elemOfSl_eq he⟩
    · exact .inr (strT_eq h)
  have hw' : appendW sz by' σ x d K (σ.x x) (σ.x y) := hw
  -- the two kinds of what is appended
  have key : ∃ k m cs ds news, σ.x x = .sl true sz k cs ∧ Src P w G.R sz m ds (a.eval v) news ∧ (k + m) * by' ≤ room ∧ K ((σ.drain x).put d (.sl true sz (k + m) (cs ++ ds))) := by
    have hbx := XR.of_inv h hu
    have hby := XR.of_inv h hv
    generalize hx : σ.x x = xv at hw' hbx
    generalize hy : σ.x y = yv at hw' hby
    unfold appendW at hw'
    split at hw' <;> try (exact hw'.elim)
    · rename_i s k cs o s' m ds
      obtain ⟨rfl, h2, h3, h4⟩ := hw'
      obtain ⟨news, hsrc⟩ := Src.of_sl (P := P) hby h2
      exact ⟨k, m, cs, views ds, news, rfl, hsrc, h3, h4⟩
    · rename_i s k cs ds
      obtain ⟨rfl, h2, h3, h4⟩ := hw'
      subst h2
      have e1 := VR.inv_str hby
      exact ⟨k, ds.length, cs, _, _, rfl, by rw [e1]; exact Src.of_str, h3, h4⟩
  obtain ⟨k, m, cs, ds, news, hx, hsrc, hroom, hk⟩ := key
  have hiv : isV (σ.x x) = true := by rw [hx]; rfl
  obtain ⟨G1, h1, hp1, hv1, hown1, hR1, hsh, hloc, hcell⟩ := h.drain hu hiv (ownT d) (by cases d <;> simp [ownT]) (by cases d <;> simp [ownT])
  rw [hx] at hv1 hown1
  have hsrc1 : Src P w G1.R sz m ds (a.eval v) news := by rw [hR1]; exact hsrc
  -- a new row
  have grow : ∀ (base : Option Addr) (cap : Nat) (olds : List Value), a.eval u = .slice base k cap → cap < k + m → olds.length = k * sz → cs.length = k * sz → Fl cs →
      (Builtin.firstCells sz k (.slice base k cap)).run P w.drew = .ok olds.toArray w.drew → (∀ (j : Nat) (c : AV) (u : Value), cs[j]? = some c → olds[j]? = some u → VR w G1.R c u) →
      Eff P G n w a (.call { callee := .builtin .append, args := #[u, v], argTypes := #[t, t'] }) ty d K := by
    intro base cap olds e1 hgrow hol hcl hcf hold hvals
    have hrun := run_app_grow (ty := ty) ht ht2 hi hz hisz hsrc1 hold hgrow (by rw [hby]; exact hroom) (by rw [hby]; exact hbpos)
    have hge : k + m ≤ grownCap w (k + m) cap e := grownCap_ge w (k + m) cap e
    obtain ⟨G2, h3, h4⟩ := (h1.drew).newSl (t := e) (c := olds.toArray ++ news.toArray ++ Builtin.zeroCells z.cells (grownCap w (k + m) cap e - (k + m))) (m := k + m) (cs := cs ++ ds) (cap := grownCap w (k + m) cap e) (sz := sz) (ob := match d with | some i => .slot i 0 | none => .none) hd
      (fun i hi => by subst hi; rfl) (fun hn => by subst hn; rfl) (by rw [List.length_append, hcl, hsrc.lenD, Nat.add_mul]) hge (by
        simp only [Array.size_append, List.size_toArray, size_zeroCells, hol, hsrc.len, hzs, ← Nat.add_mul]
        congr 1; omega) (fun c hc => by
        rcases List.mem_append.1 hc with hc | hc
        · exact hcf c hc
        · exact hsrc.fl c hc)
      (fun j x hj => by
        have hl1 := hsrc.len
        have hl2 := hsrc.lenD
        by_cases hjk : j < k * sz
        · rw [List.getElem?_append_left (by rw [hcl]; exact hjk)] at hj
          have hlt : j < olds.length := by rw [hol]; exact hjk
          refine ⟨olds[j], ?_, ?_⟩
          · rw [Array.append_assoc, Array.getElem?_append_left (by simpa using hlt)]
            simp [hlt]
          · exact (Pres.drew G1 w).vr h1.good (hvals j x _ hj (List.getElem?_eq_getElem hlt))
        · rw [List.getElem?_append_right (by rw [hcl]; omega), hcl] at hj
          have hlt : j - k * sz < news.length := by have := (List.getElem?_eq_some_iff.1 hj).1; omega
          refine ⟨news[j - k * sz], ?_, ?_⟩
          · rw [Array.append_assoc, Array.getElem?_append_right (by simp [hol]; omega), Array.getElem?_append_left (by simp [hol]; omega)]
            simp only [List.size_toArray, hol, List.getElem?_toArray]
            exact List.getElem?_eq_getElem hlt
          · exact (Pres.drew G1 w).vr h1.good (hsrc1.vals _ x _ hj (List.getElem?_eq_getElem hlt))) (0, 0) ⟨fun k _ hk => by simp at hk, Nat.le_refl _⟩
    intro pos after gd next Q hn
    refine wp_value ?_ (hn G2 _ _ _ h3 (hp1.trans ((Pres.drew G1 w).trans h4)) hk)
    simp [execOp, resolve, invoke, builtin, e1, hrun]
  rcases VR.inv_sl hv1 with ⟨e1, rfl, rfl⟩ | ⟨b, off, cap, e1, hcl, hRb, hcap, hat⟩
  · -- nil
    by_cases hm : m = 0
    · subst hm
      have hds : ds = [] := List.eq_nil_of_length_eq_zero (by simpa using hsrc.lenD)
      subst hds
      have hrun := run_app_nil0 (ty := ty) ht ht2 hi hisz hsrc1
      have hput : Inv G1 n ((σ.drain x).put d (.sl true sz 0 [])) (a.put d (.slice none 0 0)) w := by
        have := h1.put (s' := (σ.drain x).s) (lp' := (σ.drain x).lp) d (fun i hi => by subst hi; simpa [dstOK] using hd) (.sl true sz 0 []) (.slice none 0 0) h1.good (Pres.refl G1 w) h1.store (fun _ hx => hx) (fun i t _ ht => ht.elim) (fun i t _ ⟨cs, hcs⟩ => by cases hcs)
          (fun _ _ _ _ => ⟨rfl, rfl, rfl⟩) (fun _ _ _ _ _ _ hcc => ⟨hcc, rfl, rfl⟩) (fun i hdi => ⟨.slnil _ _, fun base m' cap' hv hc => by injection hv with _ e2 e3; omega⟩)
        cases d <;> exact this
      intro pos after gd next Q hn
      refine wp_value (w' := w) ?_ (hn G1 _ _ _ hput hp1 hk)
      simp [execOp, resolve, invoke, builtin, e1, hrun]
    · exact grow none 0 [] e1 (by omega) (by simp) (by simp) Fl.nil (by simp [Builtin.firstCells]) (fun j c u hc => by simp at hc)
  · by_cases hfit : k + m ≤ cap
    · by_cases hm : m = 0
      · subst hm
        have hds : ds = [] := List.eq_nil_of_length_eq_zero (by simpa using hsrc.lenD)
        have hnews : news = [] := List.eq_nil_of_length_eq_zero (by simpa using hsrc.len)
        subst hds; subst hnews
        have hrun := run_app_stay (ty := ty) (w := w) ht ht2 hi hisz hsrc1 (b := b) (off := off) (k := k) (cap := cap) hfit (w' := w) rfl
        simp only [List.append_nil, Nat.add_zero] at hk hrun
        have hput : Inv G1 n ((σ.drain x).put d (.sl true sz k cs)) (a.put d (a.eval u)) w := by
          have := h1.put (s' := (σ.drain x).s) (lp' := (σ.drain x).lp) d (fun i hi => by subst hi; simpa [dstOK] using hd) (.sl true sz k cs) (a.eval u) h1.good (Pres.refl G1 w) h1.store (fun _ hx => hx) (fun i t _ ht => ht.elim) (fun i t _ ⟨cs, hcs⟩ => by cases hcs)
            (fun _ _ _ _ => ⟨rfl, rfl, rfl⟩) (fun _ _ _ _ _ _ hcc => ⟨hcc, rfl, rfl⟩) (fun i hdi => by subst hdi; exact ⟨hv1, hown1⟩)
          cases d <;> exact this
        intro pos after gd next Q hn
        refine wp_value (w' := w) ?_ (hn G1 _ _ _ hput hp1 hk)
        simp [execOp, resolve, invoke, builtin, e1, hrun]
      · obtain ⟨b', off', c, et, fz, q1, q2, q3, q4, q5, q6⟩ := hown1 _ _ _ e1 (by omega)
        injection q1 with q1; injection q1 with q1 q1'
        subst q1; subst q1'
        have hon : G1.O b ≠ .none ∧ G1.O b ≠ .frame ∧ G1.O b ≠ .sh ∧ (∀ i, G1.O b ≠ .loc i) ∧ (∀ i j, G1.O b ≠ .cell i j) ∧ (∀ i j, G1.O b = .slot i j → d = some i ∧ j = 0) := by
          rw [q2]
          cases d with
          | none => simp [ownT]
          | some i => simp +contextual [ownT]
        obtain ⟨G2, h3, h4⟩ := h1.grown (k := k) (m := m) hd q4 q6 (fun i hi => by subst hi; exact q2) hon q3 q5 hfit hcl hat hsrc1 rfl
        have hfit2 : off + k * sz + news.length ≤ c.size := by
          rw [hsrc.len, q5, Nat.add_assoc, ← Nat.add_mul]
          exact Nat.add_le_add_left (Nat.mul_le_mul_right _ hfit) _
        have hst := run_storeCells_free (P := P) b (off + k * sz) et fz news 0 c w q4 q6.1 (by simpa using hfit2) hsrc.one
        have hrun := run_app_stay (ty := ty) (w := w) ht ht2 hi hisz hsrc1 (b := b) (off := off) (k := k) (cap := cap) hfit (w' := w.setRow b (laid c (off + k * sz) news)) (by simpa [laid] using hst)
        intro pos after gd next Q hn
        refine wp_value ?_ (hn G2 _ _ _ h3 (hp1.trans h4) hk)
        simp [execOp, resolve, invoke, builtin, e1, hrun]
    · have hfl : Fl cs := by obtain ⟨_, _, _, hf⟩ := hat; exact hf
      obtain ⟨us, u1, u2, u3⟩ := hat.vals
      exact grow _ cap us e1 (by omega) (by rw [u1, hcl]) hcl hfl (run_firstCells_some w.drew sz k ⟨b, off, none⟩ k cap us (by rw [u1, hcl]) u2) u3
end
end Go.AB
