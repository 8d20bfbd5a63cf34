/-
  An evaluator for calls whose arguments are known: append as the evaluator has it.
-/
import Derived.Test.YtbhgcdkahblllaaGreatDoorEvN
set_option linter.unusedVariables false
set_option linter.unusedSimpArgs false
namespace Go.Ev
open Go
noncomputable section
variable {P : Program} {o : Oper}

def newK (S : St) (o : AO) (k : Nat → St → R) : R := okK (Nat.ble (Nat.succ S.n) 65536) (hsetK S.n o S.h fun h => fN (Nat.succ S.n) fun n => k S.n ⟨h, n⟩)
theorem newK_inv {S : St} {o : AO} {k : Nat → St → R} {r : AV} {s : St} (h : newK S o k = .ok r s) : S.n < 65536 ∧ k S.n ⟨hset S.n o S.h, S.n + 1⟩ = .ok r s := by
  obtain ⟨h1, h⟩ := okK_inv h
  rw [hsetK_eq, fN_eq] at h
  exact ⟨Nat.le_of_ble_eq_true h1, h⟩
/-- A slice's elements in a block of their own, whose end is not known. -/
def freshK (S : St) (l : AV) (n sz : Nat) (k : K) : R := putsK (R.bad 70) l 0 (Cs.new l.len) fun m c => newK S (.cells m c) fun b S => k (.slu b 0 n sz) S
theorem freshK_inv {S : St} {l : AV} {n sz : Nat} {k : K} {r : AV} {s : St} (h : freshK S l n sz k = .ok r s) :
    ∃ v S', k v S' = .ok r s ∧ ∀ {ι : Inj} {w : World} {vs zs : List Value} {e : TypeId} {nc : Nat}, HR ι S w → RL ι l vs → vs.length = n * sz → n ≤ nc → nc < 9223372036854775808 → (vs ++ zs).length = nc * sz →
      ∃ κ, RV κ v (.slice (some ⟨w.heap.size, 0, none⟩) n nc) ∧ HR κ S' (w.drew.alloc (.cells (vs ++ zs).toArray e)) ∧ Ext ι w κ (w.drew.alloc (.cells (vs ++ zs).toArray e)) := by
  rcases putsK_inv h with h | ⟨c, h, -, hr, hd, hg, -⟩
  · exact (R.bad_ne h.symm).elim
  obtain ⟨h1, h⟩ := newK_inv h
  refine ⟨_, _, h, fun {ι w vs zs e nc} hh hl hlen hn hn63 htot => ?_⟩
  have hroom := puts_room hr hd
  have hll := hl.len
  have hres := hh.reserve h1 (.cells (0 + l.len) c)
  have hput := hres.make (b := S.n) (hh.fresh _ (Nat.le_refl _)) (fun h' => Nat.lt_irrefl _ (hh.resv _ h')) (Nat.lt_succ_self _) ⟨w.heap.size, 0, nc * sz⟩ (w' := w.drew.alloc (.cells (vs ++ zs).toArray e)) rfl rfl rfl (by simp) (fun k hk => heap_alloc_old (w := w.drew) hk) (Nat.le_refl _) ?_
  · refine ⟨_, ?_, hput⟩
    exact ⟨_, Inj.put_same _ _ _,   .inl ⟨nc, by simp, by simp, hn, hn63⟩⟩
  · show RO _ (hget S.n (hset S.n (.cells (0 + l.len) c) S.h)) _ _
    rw [hget_same]
    refine ⟨hroom, ?_, (vs ++ zs).toArray, e, heap_alloc_at (w := w.drew), by simpa using htot, fun i hi => ?_⟩
    · show 0 + l.len ≤ nc * sz
      rw [Nat.zero_add, hll, hlen]; exact Nat.mul_le_mul_right _ hn
    · obtain ⟨u, k1, k2⟩ := (hl.mono (Inj.le_put (hh.fresh S.n (Nat.le_refl _)) ⟨w.heap.size, 0, nc * sz⟩)).nth i (by omega)
      refine ⟨u, ?_, ?_⟩
      · simp only [Nat.zero_add, List.getElem?_toArray]
        rw [List.getElem?_append_left (by omega)]; exact k1
      · have := hg i (by omega)
        rw [Nat.zero_add] at this
        rw [this]; exact k2
/-! ### A block that grows -/
def growK (c : Cs) (m : Nat) (k : Cs → R) : R := match c with
  | .c1 a => (match Nat.ble m 16 with
    | true => k (.c1 a)
    | false => N16.setK .d0 a (N16.all (N16.all .top)) fun a => (match Nat.ble m 256 with
      | true => k (.c2 a)
      | false => N16.setK .d0 a (N16.all (N16.all (N16.all .top))) fun a => k (.c3 a)))
  | .c2 a => (match Nat.ble m 256 with
    | true => k (.c2 a)
    | false => N16.setK .d0 a (N16.all (N16.all (N16.all .top))) fun a => k (.c3 a))
  | .c3 a => k (.c3 a)
theorem toD_zero {k : Nat} (h : k % 16 = 0) : toD k = .d0 := by rw [toD_mod, h]; rfl
theorem grow12 (a : N16 AV) {j : Nat} (hj : j < 16) : Cs.get j (.c2 (N16.set .d0 a (N16.all (N16.all .top)))) = Cs.get j (.c1 a) := by
  simp only [Cs.get, toD_land]
  rw [toD_zero (k := Nat.div j 16) (by show (j / 16) % 16 = 0; omega), N16.get_set_same]
theorem grow23 (a : N16 (N16 AV)) {j : Nat} (hj : j < 256) : Cs.get j (.c3 (N16.set .d0 a (N16.all (N16.all (N16.all .top))))) = Cs.get j (.c2 a) := by
  simp only [Cs.get, toD_land]
  rw [toD_zero (k := Nat.div j 256) (by show (j / 256) % 16 = 0; omega), N16.get_set_same]
theorem growK_inv {c : Cs} {m : Nat} {k : Cs → R} {r : AV} {s : St} (h : growK c m k = .ok r s) : ∃ c' : Cs, k c' = .ok r s ∧ c.room ≤ c'.room ∧ ∀ j, j < c.room → c'.get j = c.get j := by
  unfold growK at h
  split at h
  · split at h
    · exact ⟨_, h, Nat.le_refl _, fun _ _ => rfl⟩
    · rw [N16.setK_eq] at h
      split at h
      · exact ⟨_, h, by show 16 ≤ 256; decide, fun j hj => grow12 _ hj⟩
      · rw [N16.setK_eq] at h
        exact ⟨_, h, by show 16 ≤ 4096; decide, fun j hj => (grow23 _ (Nat.lt_trans (show j < 16 from hj) (by decide))).trans (grow12 _ hj)⟩
  · split at h
    · exact ⟨_, h, Nat.le_refl _, fun _ _ => rfl⟩
    · rw [N16.setK_eq] at h
      exact ⟨_, h, by show 256 ≤ 4096; decide, fun j hj => grow23 _ hj⟩
  · exact ⟨_, h, Nat.le_refl _, fun _ _ => rfl⟩
/-- What stands in the new block: m old cells from q on, and new ones behind them. -/
def moreK (c : Cs) (q m : Nat) (new : AV) (k : Cs → R) : R := match q with
  | 0 => fN (Nat.add m new.len) fun t => growK c t fun c => putsK (R.bad 71) new m c fun _ c => k c
  | _ => takeK c m q fun old => fN (Nat.add m new.len) fun t => putsK (R.bad 71) (old.app new) 0 (Cs.new t) fun _ c => k c
theorem app_nth : ∀ (x y : AV) (j : Nat), x.isL = true → (x.app y).nth j = if j < x.len then x.nth j else y.nth (j - x.len)
  | .nl, y, j, _ => by simp [AV.app, AV.len]
  | .cons a t, y, 0, _ => by simp [AV.app, AV.len, AV.nth]
  | .cons a t, y, j + 1, h => by
    have := app_nth t y j h
    simp only [AV.app, AV.nth, AV.len, Nat.succ_eq_add_one, Nat.add_lt_add_iff_right]
    rw [this]
    split
    · rfl
    · congr 1; omega
  | .top, _, _, h => by cases h
  | .bool _, _, _, h => by cases h
  | .int _ _, _, _, h => by cases h
  | .str _ _, _, _, h => by cases h
  | .pnil, _, _, h => by cases h
  | .ptr _ _, _, _, h => by cases h
  | .snil, _, _, h => by cases h
  | .sl _ _ _ _, _, _, h => by cases h
  | .slu _ _ _ _, _, _, h => by cases h
  | .mnil, _, _, h => by cases h
  | .map _, _, _, h => by cases h
  | .fn _ _ _, _, _, h => by cases h
  | .fnil, _, _, h => by cases h
  | .inil, _, _, h => by cases h
  | .iface _ _, _, _, h => by cases h
  | .agg _, _, _, h => by cases h
  | .tup _, _, _, h => by cases h
  | .ge _, _, _, h => by cases h
theorem app_len : ∀ (x y : AV), x.isL = true → (x.app y).len = x.len + y.len
  | .nl, y, _ => by simp [AV.app, AV.len]
  | .cons a t, y, h => by simp only [AV.app, AV.len, app_len t y h]; omega
  | .top, _, h => by cases h
  | .bool _, _, h => by cases h
  | .int _ _, _, h => by cases h
  | .str _ _, _, h => by cases h
  | .pnil, _, h => by cases h
  | .ptr _ _, _, h => by cases h
  | .snil, _, h => by cases h
  | .sl _ _ _ _, _, h => by cases h
  | .slu _ _ _ _, _, h => by cases h
  | .mnil, _, h => by cases h
  | .map _, _, h => by cases h
  | .fn _ _ _, _, h => by cases h
  | .fnil, _, h => by cases h
  | .inil, _, h => by cases h
  | .iface _ _, _, h => by cases h
  | .agg _, _, h => by cases h
  | .tup _, _, h => by cases h
  | .ge _, _, h => by cases h
theorem moreK_inv {c : Cs} {q m : Nat} {new : AV} {k : Cs → R} {r : AV} {s : St} (h : moreK c q m new k = .ok r s) :
    ∃ c' : Cs, k c' = .ok r s ∧ (new.len = 0 ∨ m + new.len ≤ c'.room) ∧ (new.len ≠ 0 → q + m ≤ c.room → (∀ j, j < m → c'.get j = c.get (q + j)) ∧ ∀ j, j < new.len → c'.get (m + j) = new.nth j) := by
  unfold moreK at h
  split at h
  · rw [fN_eq] at h
    obtain ⟨c1, h, h1, h2⟩ := growK_inv h
    rcases putsK_inv h with h | ⟨c2, h, -, hr, hd, hg, hk⟩
    · exact (R.bad_ne h.symm).elim
    refine ⟨c2, h, ?_, fun hne hq => ⟨fun j hj => ?_, hg⟩⟩
    · rcases hd with hd | hd
      · exact .inl hd
      · exact .inr (by rw [hr]; exact hd)
    · rw [hk j (by omega) (.inl hj), h2 j (by omega), Nat.zero_add]
  · rw [takeK_eq, fN_eq] at h
    rcases putsK_inv h with h | ⟨c2, h, -, hr, hd, hg, hk⟩
    · exact (R.bad_ne h.symm).elim
    have hl := app_len (takeL c m q) new (takeL_isL _ _ _)
    rw [takeL_len] at hl
    refine ⟨c2, h, ?_, fun hne hq => ⟨fun j hj => ?_, fun j hj => ?_⟩⟩
    · rcases hd with hd | hd
      · left; omega
      · right; omega
    · have := hg j (by omega)
      rw [Nat.zero_add, app_nth _ _ _ (takeL_isL _ _ _), takeL_len, if_pos hj, takeL_nth _ _ _ _ hj] at this
      exact this
    · have := hg (m + j) (by omega)
      rw [Nat.zero_add, app_nth _ _ _ (takeL_isL _ _ _), takeL_len, if_neg (by omega), show m + j - m = j by omega] at this
      exact this
/-- A block that takes over the world's block of one that has been given up. -/
theorem HR.take {ι : Inj} {S : St} {w w' : World} (h : HR ι S w) {b : Nat} (hb : ι b = none) (hv : ¬ ι.res b) (l : Loc)
    (hos : w'.os = w.os) (htape : w'.tape = w.tape) (hout : w'.output = w.output) (hsz : w.heap.size ≤ w'.heap.size)
    (hk : ∀ k : Nat, k < w.heap.size → k ≠ l.b → w'.heap[k]? = w.heap[k]?) (happ : ∀ c m, ι c = some m → hget c S.h ≠ .gone → m.b ≠ l.b) (hlt : b < S.n)
    (hnew : (∃ b' l', ι b' = some l' ∧ l'.b = l.b) ∨ w.heap.size ≤ l.b) (ho : RO (ι.put b l) (hget b S.h) l w') :
    HR (ι.put b l) S w' ∧ Ext ι w (ι.put b l) w' := by
  have hle := Inj.le_put hb l
  refine ⟨⟨h.lim, ?_, ?_, ?_, h.resv⟩, ⟨hos, htape, hout, hsz, hle, fun k hlt hn => hk k hlt ?_, ?_, rfl, fun c hc hn => by rw [Inj.put_other _ _ (by rintro rfl; exact hv hc)]; exact hn⟩⟩
  · intro c hc
    rw [Inj.put_other _ _ (by omega)]
    exact h.fresh c hc
  · intro c m e
    by_cases hcb : c = b
    · subst hcb; rw [Inj.put_same] at e; cases e; exact ho
    · rw [Inj.put_other _ _ hcb] at e
      have := h.live c m e
      by_cases hg : hget c S.h = .gone
      · rw [hg]; exact trivial
      · exact (this.mono hle).world (hk _ (this.lt hg) (happ c m e hg))
  · intro c e m n hc he hgc hge hne
    by_cases hcb : c = b
    · subst hcb
      rw [Inj.put_same] at hc; cases hc
      rw [Inj.put_other _ _ (fun h => hne h.symm)] at he
      exact (happ e n he hge).symm
    · rw [Inj.put_other _ _ hcb] at hc
      by_cases heb : e = b
      · subst heb
        rw [Inj.put_same] at he; cases he
        exact happ c m hc hgc
      · rw [Inj.put_other _ _ heb] at he
        exact h.apart c e m n hc he hgc hge hne
  · rcases hnew with ⟨b', l', h1, h2⟩ | h1
    · exact fun e => hn b' l' h1 (h2.trans e.symm)
    · omega
  · intro c m e
    by_cases hcb : c = b
    · subst hcb; rw [Inj.put_same] at e; cases e; exact hnew
    · rw [Inj.put_other _ _ hcb] at e; exact .inl ⟨c, m, e, rfl⟩
/-- What the new block holds. -/
theorem more_cells {κ : Inj} {c c' : Cs} {q m : Nat} {new : AV} {os vs : List Value} (h1 : ∀ j, j < m → c'.get j = c.get (q + j)) (h2 : ∀ j, j < new.len → c'.get (m + j) = new.nth j)
    (ho : ∀ j, j < m → ∃ x, os[j]? = some x ∧ RV κ (c.get (q + j)) x) (hl : os.length = m) (hn : RL κ new vs) : ∀ i, i < m + new.len → ∃ x, (os ++ vs)[i]? = some x ∧ RV κ (c'.get i) x := by
  intro i hi
  by_cases g : i < m
  · obtain ⟨x, a, b⟩ := ho i g
    exact ⟨x, by rw [List.getElem?_append_left (by omega)]; exact a, by rw [h1 i g]; exact b⟩
  · obtain ⟨x, a, b⟩ := hn.nth (i - m) (by omega)
    refine ⟨x, by rw [List.getElem?_append_right (by omega), hl]; exact a, ?_⟩
    have := h2 (i - m) (by omega)
    rw [show m + (i - m) = i by omega] at this
    rw [this]; exact b
/-! ### append -/
def appendK (sz : Nat) (s y : AV) (S : St) (k : K) : R := srcK sz y S.h fun n new => okK (Nat.ble n 100000) (okK (Nat.beq new.len (Nat.mul n sz)) (match s with
  | .snil => (match n with
    | 0 => k .snil S
    | _ => freshK S new n sz k)
  | .sl b o l c => fN (Nat.add l n) fun need => (match Nat.ble need c with
    | true => setK b (Nat.add o (Nat.mul l sz)) new S fun S => k (.sl b o need c) S
    | false => srcK sz s S.h fun l2 old => okK (Nat.beq l2 l) (okK (Nat.ble need 1000000) (freshK S (old.app new) need sz k)))
  | .slu b o l z => okK (Nat.beq z sz) (match n with
    | 0 => k s S
    | _ => fN (Nat.add l n) fun need => okK (Nat.ble need 1000000) (onCells (hget b S.h) fun m c => (match Nat.ble 1 l && Nat.ble (Nat.add o (Nat.mul need sz)) m with
      | true => setK b (Nat.add o (Nat.mul l sz)) new S fun S => k (.slu b o need sz) S
      | false => okK (Nat.beq (Nat.add o (Nat.mul l sz)) m) (okK new.ones (moreK c o (Nat.mul l sz) new fun c => hsetK b .gone S.h fun h => fN (Nat.mul need sz) fun m => newK ⟨h, S.n⟩ (.cells m c) fun b S => k (.slu b 0 need sz) S)))))
  | _ => .bad 72))
def kAppend (P : Program) (ts : Array TypeId) (args : Array Operand) : Kd := match args, ts with
  | ⟨[x, y]⟩, ⟨[t, t1]⟩ => match elA P t, srcT P t1 with
    | some e, true => .eff fun T S k => appendK e.size (opnd x T) (opnd y T) S k
    | _, _ => .no
  | _, _ => .no
theorem appendK_inv {t t1 : TypeId} {e : El} (ok : ElOk P t e) (hz : srcT P t1 = true) {s y : AV} {S : St} {k : K} {r : AV} {q : St} (h : appendK e.size s y S k = .ok r q) :
    ∃ v S', k v S' = .ok r q ∧ ∀ {ι : Inj} {w : World} {us uy : Value} {ty : TypeId}, HR ι S w → RV ι s us → RV ι y uy →
      ∃ u w' κ, (Builtin.append_ #[t, t1] ty #[us, uy]).run P w = .ok u w' ∧ RV κ v u ∧ HR κ S' w' ∧ Ext ι w κ w' := by
  obtain ⟨n, new, h, -, hsrc⟩ := srcK_inv (P := P) h
  obtain ⟨hn, h⟩ := okK_inv h
  obtain ⟨hnl, h⟩ := okK_inv h
  have hn := Nat.le_of_ble_eq_true hn
  have hnl : new.len = n * e.size := Nat.eq_of_beq_eq_true hnl
  have drew : ∀ {w : World} {ι : Inj}, HR ι S w → HR ι S w.drew := fun h => h.world fun _ => rfl
  have hzc : ∀ m, (Builtin.zeroCells e.z.cells m).toList.length = m * e.size := fun m => by simp [Builtin.zeroCells, ok.len]
  have hpos := ok.pos
  cases s with
  | snil =>
    dsimp only at h
    split at h
    · refine ⟨_, _, h, fun {ι w us uy ty} hh hs hy => ?_⟩
      have hs : us = _ := hs
      subst hs
      obtain ⟨h1, vs, h2, h3⟩ := hsrc hy hh
      have hr := run_append_in (P := P) hz ok (base := none) (l := 0) (cap := 0) (ty := ty) h1 h3 (Nat.le_refl _)
      exact ⟨_, _, ι, hr, rfl, hh, Ext.refl _ _⟩
    · rename_i hn0
      obtain ⟨v, S', h, hv⟩ := freshK_inv h
      refine ⟨_, _, h, fun {ι w us uy ty} hh hs hy => ?_⟩
      have hs : us = _ := hs
      subst hs
      obtain ⟨h1, vs, h2, h3⟩ := hsrc hy hh
      obtain ⟨h1', vs', h2', h3'⟩ := hsrc hy (drew hh)
      have hpos' : 0 < n := Nat.pos_of_ne_zero hn0
      obtain ⟨nc, g1, g163, g2⟩ := run_append_new (P := P) hz ok (base := none) (l := 0) (cap := 0) (ty := ty) (old := []) h1 h3' (by omega) (by omega) rfl
      simp only [Nat.zero_add, List.nil_append] at g1 g2
      have hlen := h2'.len
      obtain ⟨κ, k1, k2, k3⟩ := hv (zs := (Builtin.zeroCells e.z.cells (nc - n)).toList) (e := e.e) (nc := nc) hh h2' (by omega) g1 g163 (by
        rw [List.length_append, hzc, ← hlen, hnl, ← Nat.add_mul]; congr 1; omega)
      exact ⟨_, _, κ, g2, k1, k2, k3⟩
  | sl b o l c =>
    dsimp only at h
    rw [fN_eq] at h
    split at h
    · rename_i hc
      have hc : l + n ≤ c := Nat.le_of_ble_eq_true hc
      obtain ⟨S', h, hset⟩ := setK_inv (P := P) h
      refine ⟨_, _, h, fun {ι w us uy ty} hh hs hy => ?_⟩
      obtain ⟨L, hL, rfl⟩ := hs
      obtain ⟨h1, vs, h2, h3⟩ := hsrc hy hh
      have hr := run_append_in (P := P) hz ok (base := some ⟨L.b, L.d + o, none⟩) (l := l) (cap := c) (ty := ty) h1 h3 hc
      obtain ⟨w', g1, g2, g3⟩ := hset hh hL h2
      refine ⟨_, w', ι, ?_, ⟨L, hL, rfl⟩, g2, g3⟩
      rw [hr]
      dsimp only
      rw [addr_add, Nat.add_assoc]
      have g1' : (storeCells ⟨L.b, L.d + (o + l * e.size), none⟩ vs).run P w = .ok () w' := g1
      rw [g1']; rfl
    · rename_i hc
      have hc : c < l + n := by
        have : ¬ (l + n ≤ c) := fun h => by
          have h2 : Nat.ble (l + n) c = true := by rw [Nat.ble_eq]; exact h
          have hc : Nat.ble (l + n) c = false := hc
          rw [hc] at h2; cases h2
        omega
      obtain ⟨l2, old, h, hol, hso⟩ := srcK_inv (P := P) h
      obtain ⟨e1, h⟩ := okK_inv h
      obtain ⟨e2, h⟩ := okK_inv h
      obtain rfl := Nat.eq_of_beq_eq_true e1
      have e2 : l2 + n ≤ 1000000 := Nat.le_of_ble_eq_true e2
      have hol : old.len = l2 * e.size := by
        rcases hol with ⟨_, _, h⟩ | h
        · cases h
        · exact h
      obtain ⟨v, S', h, hv⟩ := freshK_inv h
      refine ⟨_, _, h, fun {ι w us uy ty} hh hs hy => ?_⟩
      have hs0 := hs
      obtain ⟨L, hL, rfl⟩ := hs
      obtain ⟨h1, vs, h2, h3⟩ := hsrc hy hh
      obtain ⟨h1', vs', h2', h3'⟩ := hsrc hy (drew hh)
      obtain ⟨-, os, o2, o3⟩ := hso hs0 (drew hh)
      obtain ⟨nc, g1, g163, g2⟩ := run_append_new (P := P) hz ok (base := some ⟨L.b, L.d + o, none⟩) (l := l2) (cap := c) (ty := ty) (old := os) h1 h3' hc e2 o3
      have hlen := h2'.len
      have hlen2 := o2.len
      obtain ⟨κ, k1, k2, k3⟩ := hv (zs := (Builtin.zeroCells e.z.cells (nc - (l2 + n))).toList) (e := e.e) (nc := nc) hh (o2.app h2') (by
        rw [List.length_append, ← hlen, ← hlen2, hnl, hol, ← Nat.add_mul]; rfl) g1 g163 (by
        rw [List.length_append, List.length_append, hzc, ← hlen, ← hlen2, hnl, hol, ← Nat.add_mul, ← Nat.add_mul]; congr 1; omega)
      exact ⟨_, _, κ, g2, k1, k2, k3⟩
  | slu b o l z =>
    dsimp only at h
    obtain ⟨e1, h⟩ := okK_inv h
    obtain rfl := Nat.eq_of_beq_eq_true e1
    split at h
    · refine ⟨_, _, h, fun {ι w us uy ty} hh hs hy => ?_⟩
      obtain ⟨h1, vs, h2, h3⟩ := hsrc hy hh
      have hvs : vs = [] := by
        have := h2.len
        rw [hnl, Nat.zero_mul] at this
        exact List.eq_nil_of_length_eq_zero this.symm
      subst hvs
      have hs0 := hs
      obtain ⟨L, hL, ⟨cap, rfl, hcap, hlc, h63⟩ | ⟨rfl, ad, rfl⟩⟩ := hs
      · have hr := run_append_in (P := P) hz ok (base := some ⟨L.b, L.d + o, none⟩) (l := l) (cap := cap) (ty := ty) h1 h3 (by omega)
        exact ⟨_, _, ι, hr, hs0, hh, Ext.refl _ _⟩
      · have hr := run_append_in (P := P) hz ok (base := some ad) (l := 0) (cap := 0) (ty := ty) h1 h3 (by omega)
        exact ⟨_, _, ι, hr, hs0, hh, Ext.refl _ _⟩
    · rename_i hn0
      have hpos' : 0 < n := Nat.pos_of_ne_zero hn0
      rw [fN_eq] at h
      obtain ⟨e2, h⟩ := okK_inv h
      have e2 : l + n ≤ 1000000 := Nat.le_of_ble_eq_true e2
      obtain ⟨m, c, hc, h⟩ := onCells_inv h
      have hne : hget b S.h ≠ .gone := by rw [hc]; exact fun e => by cases e
      split at h
      · rename_i hin
        rw [Bool.and_eq_true] at hin
        have i1 : 1 ≤ l := Nat.le_of_ble_eq_true hin.1
        have i2 : o + (l + n) * e.size ≤ m := Nat.le_of_ble_eq_true hin.2
        obtain ⟨S', h, hset⟩ := setK_inv (P := P) h
        refine ⟨_, _, h, fun {ι w us uy ty} hh hs hy => ?_⟩
        obtain ⟨h1, vs, h2, h3⟩ := hsrc hy hh
        obtain ⟨L, hL, ⟨cap, rfl, hcap, hlc, h63⟩ | ⟨rfl, ad, rfl⟩⟩ := hs
        · have hlive := hh.live b L hL
          rw [hc] at hlive
          obtain ⟨-, hms, -⟩ := hlive
          have hfit : l + n ≤ cap := by
            rcases Nat.lt_or_ge cap (l + n) with h | h
            · have : cap * e.size + e.size ≤ (l + n) * e.size := by rw [← Nat.succ_mul]; exact Nat.mul_le_mul_right _ h
              omega
            · exact h
          have hr := run_append_in (P := P) hz ok (base := some ⟨L.b, L.d + o, none⟩) (l := l) (cap := cap) (ty := ty) h1 h3 hfit
          obtain ⟨w', g1, g2, g3⟩ := hset hh hL h2
          refine ⟨_, w', ι, ?_, ⟨L, hL, .inl ⟨cap, rfl, hcap, hfit, h63⟩⟩, g2, g3⟩
          rw [hr]
          dsimp only
          rw [addr_add, Nat.add_assoc]
          have g1' : (storeCells ⟨L.b, L.d + (o + l * e.size), none⟩ vs).run P w = .ok () w' := g1
          rw [g1']; rfl
        · omega
      · obtain ⟨e3, h⟩ := okK_inv h
        have e3 : o + l * e.size = m := Nat.eq_of_beq_eq_true e3
        obtain ⟨e4, h⟩ := okK_inv h
        obtain ⟨c', h, hroom, hcon⟩ := moreK_inv h
        rw [hsetK_eq, fN_eq] at h
        obtain ⟨hlt, h⟩ := newK_inv h
        have hlt : S.n < 65536 := hlt
        refine ⟨_, _, h, fun {ι w us uy ty} hh hs hy => ?_⟩
        obtain ⟨h1, vs, h2, h3⟩ := hsrc hy hh
        obtain ⟨h1', vs', h2', h3'⟩ := hsrc hy (drew hh)
        obtain ⟨L, hL, hs⟩ := hs
        have hlive := hh.live b L hL
        rw [hc] at hlive
        obtain ⟨hmr, hms, ar, el, hheap, harsz, hcells⟩ := hlive
        have hnl0 : new.len ≠ 0 := by
          rw [hnl]
          have : 1 * 1 ≤ n * e.size := Nat.mul_le_mul hpos' hpos
          omega
        obtain ⟨hc1, hc2⟩ := hcon hnl0 (by show o + l * e.size ≤ c.room; omega)
        have hc1 : ∀ j, j < l * e.size → c'.get j = c.get (o + j) := hc1
        have hc2 : ∀ j, j < new.len → c'.get (l * e.size + j) = new.nth j := hc2
        have hroom : l * e.size + new.len ≤ c'.room := hroom.resolve_left hnl0
        have hneed : (l + n) * e.size = l * e.size + new.len := by rw [hnl, Nat.add_mul]
        have hkill := hh.kill hL
        have hSn : ι S.n = none := hh.fresh _ (Nat.le_refl _)
        have hres := hkill.reserve (show S.n < 65536 from hlt) (.cells ((l + n) * e.size) c')
        have hgn : hget S.n (hset S.n (.cells ((l + n) * e.size) c') (hset b .gone S.h)) = .cells ((l + n) * e.size) c' := hget_same _ _ _
        have happ : ∀ c m, ι c = some m → hget c (hset S.n (.cells ((l + n) * e.size) c') (hset b .gone S.h)) ≠ .gone → m.b ≠ L.b := by
          intro d m hd hg
          have hdn : d ≠ S.n := by rintro rfl; rw [hSn] at hd; cases hd
          have hds := hh.small hd
          rw [hget_other hlt hds (fun h => hdn h.symm)] at hg
          have hdb : d ≠ b := by rintro rfl; rw [hget_same] at hg; exact hg rfl
          rw [hget_other (hh.small hL) hds (fun h => hdb h.symm)] at hg
          exact hh.apart d b m L hd hL hg hne hdb
        have hvlen := h2.len
        -- a new block
        have grow : ∀ {base : Option Addr} {cap : Nat} {os : List Value}, cap < l + n → (Builtin.firstCells e.size l (.slice base l cap)).run P w.drew = .ok os.toArray w.drew → os.length = l * e.size →
            (∀ j, j < l * e.size → ∃ x, os[j]? = some x ∧ RV ι (c.get (o + j)) x) →
            ∃ u w' κ, (Builtin.append_ #[t, t1] ty #[.slice base l cap, uy]).run P w = .ok u w' ∧ RV κ (.slu S.n 0 (l + n) e.size) u ∧ HR κ ⟨hset S.n (.cells ((l + n) * e.size) c') (hset b .gone S.h), S.n + 1⟩ w' ∧ Ext ι w κ w' := by
          intro base cap os hcap hos holen hocells
          obtain ⟨nc, g1, g163, g2⟩ := run_append_new (P := P) hz ok (base := base) (l := l) (cap := cap) (ty := ty) (old := os) h1 h3' hcap e2 hos
          have hle := Inj.le_put hSn ⟨w.heap.size, 0, nc * e.size⟩
          have hmk := hres.make (b := S.n) hSn (fun h' => Nat.lt_irrefl _ (hh.resv _ h')) (Nat.lt_succ_self _) ⟨w.heap.size, 0, nc * e.size⟩ (w' := w.drew.alloc (.cells (os ++ vs' ++ (Builtin.zeroCells e.z.cells (nc - (l + n))).toList).toArray e.e)) rfl rfl rfl (by simp) (fun k hk => heap_alloc_old (w := w.drew) hk) (Nat.le_refl _) (by
            show RO _ (hget S.n (hset S.n (.cells ((l + n) * e.size) c') (hset b .gone S.h))) _ _
            rw [hgn]
            refine ⟨by omega, Nat.mul_le_mul_right _ g1, _, _, heap_alloc_at (w := w.drew), ?_, fun i hi => ?_⟩
            · have := h2'.len
              simp only [List.size_toArray, List.length_append, hzc, holen, ← this, hnl, Nat.zero_add]
              rw [← Nat.add_mul, ← Nat.add_mul]; congr 1; omega
            · have hi : i < (l + n) * e.size := hi
              obtain ⟨x, a1, a2⟩ := more_cells (κ := ι.put S.n ⟨w.heap.size, 0, nc * e.size⟩) hc1 hc2 (fun j hj => let ⟨x, p, q⟩ := hocells j hj; ⟨x, p, q.mono hle⟩) holen (h2'.mono hle) i (by omega)
              refine ⟨x, ?_, a2⟩
              simp only [Nat.zero_add, List.getElem?_toArray]
              rw [List.getElem?_append_left (by rw [List.length_append, holen, ← h2'.len]; omega)]
              exact a1)
          exact ⟨_, _, _, g2, ⟨_, Inj.put_same _ _ _, .inl ⟨nc, by simp, by simp, g1, g163⟩⟩, hmk.1, hmk.2⟩
        rcases hs with ⟨cap, rfl, hcap, hlc, h63⟩ | ⟨rfl, ad, rfl⟩
        · obtain ⟨os, o1, o2⟩ := (drew hh).cells (P := P) hL hc (l * e.size) o (by omega)
          have ol := o2.len
          rw [takeL_len] at ol
          have ocells : ∀ j, j < l * e.size → ∃ x, os[j]? = some x ∧ RV ι (c.get (o + j)) x := fun j hj => by
            obtain ⟨x, p, q⟩ := o2.nth j (by rw [takeL_len]; exact hj)
            rw [takeL_nth _ _ _ _ hj] at q
            exact ⟨x, p, q⟩
          rcases Nat.lt_or_ge cap (l + n) with g | g
          · exact grow g (by simp only [Builtin.firstCells]; exact o1) ol.symm ocells
          · have hr := run_append_in (P := P) hz ok (base := some ⟨L.b, L.d + o, none⟩) (l := l) (cap := cap) (ty := ty) h1 h3 g
            have hfit : (l + n) * e.size ≤ cap * e.size := Nat.mul_le_mul_right _ g
            have hst := run_storeCells_at P L.b (L.d + (o + l * e.size)) el vs 0 ar w hheap (by omega) (ones_cell e4 h2)
            have hle := Inj.le_put hSn ⟨L.b, L.d + o, L.s - o⟩
            have hmk := hres.take (b := S.n) hSn (fun h' => Nat.lt_irrefl _ (hh.resv _ h')) ⟨L.b, L.d + o, L.s - o⟩ (w' := w.setRow L.b (ar.toList.take (L.d + (o + l * e.size) + 0) ++ vs ++ ar.toList.drop (L.d + (o + l * e.size) + 0 + vs.length)).toArray) rfl rfl rfl (by simp) (fun k _ hk => heap_setRow_other hk) happ (Nat.lt_succ_self _) (.inl ⟨b, L, hL, rfl⟩) (by
              show RO _ (hget S.n (hset S.n (.cells ((l + n) * e.size) c') (hset b .gone S.h))) _ _
              rw [hgn]
              refine ⟨by omega, by show (l + n) * e.size ≤ L.s - o; omega, _, el, heap_setRow hheap, ?_, fun i hi => ?_⟩
              · simp
                omega
              · have hi : i < (l + n) * e.size := hi
                have hmin : min (L.d + (o + l * e.size)) ar.size = L.d + (o + l * e.size) := by omega
                by_cases gi : i < l * e.size
                · obtain ⟨x, p, q⟩ := hcells (o + i) (by omega)
                  refine ⟨x, ?_, by rw [hc1 i gi]; exact q.mono hle⟩
                  simp only [Nat.add_zero, List.append_assoc, List.getElem?_toArray]
                  rw [List.getElem?_append_left (by simp; omega), List.getElem?_take, if_pos (by omega), Array.getElem?_toList, Nat.add_assoc]
                  exact p
                · obtain ⟨x, p, q⟩ := (h2.mono hle).nth (i - l * e.size) (by omega)
                  have := hc2 (i - l * e.size) (by omega)
                  rw [show l * e.size + (i - l * e.size) = i by omega] at this
                  refine ⟨x, ?_, by rw [this]; exact q⟩
                  simp only [Nat.add_zero, List.append_assoc, List.getElem?_toArray]
                  rw [List.getElem?_append_right (by simp; omega), List.getElem?_append_left (by simp [hmin]; omega)]
                  simp only [List.length_take, Array.length_toList, hmin]
                  rw [show L.d + o + i - (L.d + (o + l * e.size)) = i - l * e.size by omega]
                  exact p)
            refine ⟨.slice (some ⟨L.b, L.d + o, none⟩) (l + n) cap, _, _, ?_, ⟨_, Inj.put_same _ _ _, .inl ⟨cap, by simp, by show 0 + cap * e.size = L.s - o; omega, g, h63⟩⟩, hmk.1, hmk.2⟩
            rw [hr]
            dsimp only
            rw [addr_add, Nat.add_assoc, hst]; rfl
        · have hl0 : 0 * e.size = 0 := Nat.zero_mul _
          exact grow (os := []) (by omega) (by simp [Builtin.firstCells, loadCells, loadCellsFrom]) (by rw [hl0]; rfl) (fun j hj => by rw [hl0] at hj; exact absurd hj (Nat.not_lt_zero _))
  | _ => exact (R.bad_ne h).elim
theorem kAppend_ok {ts : Array TypeId} {args : Array Operand} (ho : o.op = .call { callee := .builtin .append, args := args, argTypes := ts }) : KdOk P o (kAppend P ts args) := by
  unfold kAppend
  split
  · rename_i x y t t1
    split
    · rename_i e he hz
      intro T S k r s h
      obtain ⟨v, S', h, hv⟩ := appendK_inv (elA_ok he) hz h
      refine ⟨v, S', h, fun {ι m a w} ra hr => ?_⟩
      obtain ⟨u, w', κ, g1, g2, g3, g4⟩ := hv (ty := o.type) hr (opnd_rep ra x) (opnd_rep ra y)
      refine ⟨.value u, w', κ, u, ?_, .inl rfl, g2, g3, g4⟩
      obtain ⟨cs, hb⟩ := run_builtin (P := P) (a := a) (w := w) ho
      rw [hb]
      have g1' : (Builtin.append_ #[t, t1] o.type #[a.eval x, a.eval y]).run P w = .ok u w' := g1
      simp [builtin, g1']
    · exact trivial
  · exact trivial
end
end Go.Ev
