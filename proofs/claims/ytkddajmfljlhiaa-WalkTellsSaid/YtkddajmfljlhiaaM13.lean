/-
  Regions, code, loops and whole functions, carried out on names.
-/
import Derived.Test.YtkddajmfljlhiaaM12
set_option linter.unusedSimpArgs false
set_option linter.unusedVariables false
namespace Go.Mini
open Go

section
variable {P : Program} {n : Nat}

/-! ### What stands ahead of what -/
def maskOf (o : Oper) (acc : List Nat) : Nat := o.after.toList.foldl (fun s e => if Region.binds .any e then s ||| 2 ^ e.on ||| acc.getD e.on 0 else s) 0
def masks : List Oper → List Nat → List Nat
  | [], acc => acc
  | o :: r, acc => masks r (acc ++ [maskOf o acc])

def drawOk (P : Program) (ops : Array Oper) (pure : List Nat) : Bool :=
  let ms := masks ops.toList []
  (List.range ops.size).all fun i => match ops[i]? with
    | some oi => (oi.after.all fun e => !Region.binds .any e || decide (e.on < i)) &&
        (List.range i).all fun x => (ms.getD i 0).testBit x || (match ops[x]? with | some ox => swapOk P ops pure x i ox oi | none => true)
    | none => true

def Closed (ops : Array Oper) (listed : Array Bool) : Prop := ∀ j o, ops[j]? = some o → listed.getD j false = true → ∀ e ∈ o.after, Region.binds .any e = true → listed.getD e.on false = true

def MaskInv (ops : Array Oper) (acc : List Nat) : Prop := ∀ k o, k < acc.length → ops[k]? = some o → ∀ x, (acc.getD k 0).testBit x = true → ∀ listed, Closed ops listed → (∀ e ∈ o.after, Region.binds .any e = true → listed.getD e.on false = true) → listed.getD x false = true

theorem mask_fold (acc : List Nat) (x : Nat) (l : List Edge) : ∀ s, (l.foldl (fun s e => if Region.binds .any e then s ||| 2 ^ e.on ||| acc.getD e.on 0 else s) s).testBit x = true →
    s.testBit x = true ∨ ∃ e ∈ l, Region.binds .any e = true ∧ (e.on = x ∨ (acc.getD e.on 0).testBit x = true) := by
  induction l with
  | nil => intro s h; exact .inl h
  | cons e l ih =>
    intro s h
    simp only [List.foldl_cons] at h
    rcases ih _ h with h | ⟨e', he, hb, hx⟩
    · by_cases hb : Region.binds .any e = true
      · rw [if_pos hb, Nat.testBit_or, Nat.testBit_or, Bool.or_eq_true, Bool.or_eq_true] at h
        rcases h with (h | h) | h
        · exact .inl h
        · exact .inr ⟨e, by simp, hb, .inl (by
            rw [Nat.testBit_two_pow] at h
            simpa using h)⟩
        · exact .inr ⟨e, by simp, hb, .inr h⟩
      · rw [if_neg hb] at h; exact .inl h
    · exact .inr ⟨e', by simp [he], hb, hx⟩

theorem mask_inv (ops : Array Oper) (l : List Oper) : ∀ acc, (∀ j, l[j]? = ops[acc.length + j]?) → MaskInv ops acc → MaskInv ops (masks l acc) := by
  induction l with
  | nil => intro acc _ h; exact h
  | cons o l ih =>
    intro acc hl h
    have h0 : ops[acc.length]? = some o := by simpa using (hl 0).symm
    refine ih _ (fun j => by have := hl (j + 1); simp only [List.getElem?_cons_succ] at this; rw [this, List.length_append]; congr 1; simp; omega) ?_
    intro k o' hk ho' x hx listed hc hr
    simp only [List.length_append, List.length_singleton] at hk
    by_cases hk' : k < acc.length
    · have e : (acc ++ [maskOf o acc]).getD k 0 = acc.getD k 0 := by simp [List.getElem?_append_left hk']
      rw [e] at hx
      exact h k o' hk' ho' x hx listed hc hr
    · have hke : k = acc.length := by omega
      subst hke
      rw [h0] at ho'
      cases ho'
      have e : (acc ++ [maskOf o acc]).getD acc.length 0 = maskOf o acc := by simp
      rw [e] at hx
      rcases mask_fold acc x _ _ hx with h1 | ⟨e', he', hb, h1 | h1⟩
      · simp at h1
      · subst h1; exact hr e' (by simpa using he') hb
      · have hlt : e'.on < acc.length := by
          by_cases hlt : e'.on < acc.length
          · exact hlt
          · simp [List.getElem?_eq_none (Nat.le_of_not_lt hlt)] at h1
        have hon := hr e' (by simpa using he') hb
        cases ho : ops[e'.on]? with
        | none =>
          have : l.length + 1 ≤ 0 ∨ True := .inr trivial
          exact absurd ho (by
            have h2 : acc.length < ops.size := (Array.getElem?_eq_some_iff.1 h0).1
            have h3 : e'.on < ops.size := by omega
            simp [h3])
        | some o2 => exact h e'.on o2 hlt ho x h1 listed hc (fun e2 h2 h3 => hc e'.on o2 ho hon e2 h2 h3)

/-! ### Any order -/
def unl (ops : Array Oper) (listed : Array Bool) : List Nat := (List.range ops.size).filter fun j => !listed.getD j true

theorem DL_pull {all : Array Oper} (hall : ∀ o ∈ all, okOper n o = true) {pure : Marks} {i : Nat} {oi : Oper} (hi : all[i]? = some oi) {K : Tm → Hp → Prop} (L2 : List Nat) (L1 : List Nat) : ∀ {t : Tm} {h : Hp}, (∀ x ∈ L1, ∃ ox, all[x]? = some ox ∧ swapOk P all pure.l x i ox oi = true) → Real n t h →
    DL P all pure (L1 ++ i :: L2) K t h → stepD P all pure i oi t h fun t' h' => DL P all pure (L1 ++ L2) K t' h' := by
  induction L1 with
  | nil => intro t h _ _ hd; simpa only [List.nil_append, DL, hi] using hd
  | cons x L1 ih =>
    intro t h hx hr hd
    obtain ⟨ox, hox, hsw⟩ := hx x (by simp)
    have hokx := hall ox (Array.mem_of_getElem? hox)
    simp only [List.cons_append, DL, hox] at hd ⊢
    have h1 := stepD_mono (fun t' h' ⟨q1, q2⟩ => ih (fun y hy => hx y (by simp [hy])) q2 q1) (stepD_real hokx hr hd)
    exact stepD_swap hsw hr hokx (hall oi (Array.mem_of_getElem? hi)) h1

theorem filter_ne (i : Nat) (L1 L2 : List Nat) (hnd : (L1 ++ i :: L2).Nodup) : (L1 ++ i :: L2).filter (fun j => decide (j ≠ i)) = L1 ++ L2 := by
  rw [List.nodup_append] at hnd
  obtain ⟨h1, h2, h3⟩ := hnd
  rw [List.nodup_cons] at h2
  rw [List.filter_append, List.filter_cons]
  have e1 : L1.filter (fun j => decide (j ≠ i)) = L1 := List.filter_eq_self.2 fun a ha => by simpa using h3 a ha i (by simp)
  have e2 : L2.filter (fun j => decide (j ≠ i)) = L2 := List.filter_eq_self.2 fun a ha => by simp; intro e; exact h2.1 (e ▸ ha)
  rw [e1, e2]
  simp

theorem unl_set {ops : Array Oper} {listed : Array Bool} (hsz : listed.size = ops.size) {i : Nat} : unl ops (listed.setIfInBounds i true) = (unl ops listed).filter fun j => decide (j ≠ i) := by
  unfold unl
  rw [List.filter_filter]
  apply List.filter_congr
  intro j hj
  have hjs : j < listed.size := by rw [hsz]; simpa using hj
  by_cases hij : i = j
  · subst hij; simp [hjs]
  · have : j ≠ i := fun e => hij e.symm
    simp [Array.getElem?_setIfInBounds_ne hij, this]

theorem any_sound {ops : Array Oper} (hall : ∀ o ∈ ops, okOper n o = true) {pure : Marks} (hdraw : drawOk P ops pure.l = true) (Q : APost) {B : Nat} {w0 : World} {ρ0 : Rn} {h0 : Hp} {ds : List Deferred} : ∀ (fuel : Nat) {listed : Array Bool} {w : World} {ρ : Rn} {h : Hp} {t : Tm} {a : Act},
    listed.size = ops.size → Closed ops listed → (unl ops listed).length = fuel → Sim B w0 ρ h w → TR ρ n t h.next a.tmps → a.defers = ds → h0.next ≤ h.next → Goes h0.next ρ0 ρ →
    DL P ops pure (unl ops listed) (Q .normal) t h → wpAny P .any ops (Post n B w0 ρ0 h0 ds Q) fuel listed a w := by
  have hd : ∀ o ∈ ops, okDst n o.dst = true := fun o ho => by have := hall o ho; simp [okOper] at this; exact this.2
  have hM : MaskInv ops (masks ops.toList []) := mask_inv ops ops.toList [] (by simp) (fun k o hk => by simp at hk)
  have hlenM : (masks ops.toList []).length = ops.size := by
    have : ∀ (l : List Oper) acc, (masks l acc).length = acc.length + l.length := by
      intro l; induction l with
      | nil => intro acc; simp [masks]
      | cons o l ih => intro acc; simp only [masks, ih, List.length_append, List.length_cons]; simp; omega
    rw [this]; simp
  have hst : ∀ i oi, ops[i]? = some oi → (∀ e ∈ oi.after, Region.binds .any e = true → e.on < i) ∧ ∀ x, x < i → ((masks ops.toList []).getD i 0).testBit x = false → ∀ ox, ops[x]? = some ox → swapOk P ops pure.l x i ox oi = true := by
    intro i oi hi
    have hlt : i < ops.size := (Array.getElem?_eq_some_iff.1 hi).1
    have h1 := List.all_eq_true.1 hdraw i (List.mem_range.2 hlt)
    simp only [hi, Bool.and_eq_true] at h1
    refine ⟨fun e he hb => ?_, fun x hx hm ox hox => ?_⟩
    · have := Array.all_eq_true'.1 h1.1 e he
      simpa [hb] using this
    · have := List.all_eq_true.1 h1.2 x (List.mem_range.2 hx)
      simp only [hm, Bool.false_or, hox] at this
      exact this
  intro fuel
  induction fuel with
  | zero =>
    intro listed w ρ h t a hsz hcl hlen hs ht hds hn hg hD
    have hnil : unl ops listed = [] := List.eq_nil_of_length_eq_zero hlen
    refine ⟨?_, ?_⟩
    · apply List.eq_nil_iff_forall_not_mem.2
      intro i hi
      obtain ⟨h1, o, ho, _⟩ := mem_ready.1 hi
      have : i ∈ unl ops listed := List.mem_filter.2 ⟨List.mem_range.2 (Array.getElem?_eq_some_iff.1 ho).1, by simp [h1]⟩
      rw [hnil] at this
      cases this
    · rw [hnil] at hD
      exact ⟨ρ, t, h, hD, hs, ht, hds, hn, hg⟩
  | succ fuel ih =>
    intro listed w ρ h t a hsz hcl hlen hs ht hds hn hg hD
    have hnd : (unl ops listed).Nodup := List.Nodup.sublist List.filter_sublist List.nodup_range
    refine ⟨fun hre => ?_, fun i hi => ?_⟩
    · -- the first one that is not listed is ready
      exfalso
      cases hu : unl ops listed with
      | nil => rw [hu] at hlen; simp at hlen
      | cons i0 L =>
        have hi0 : i0 ∈ unl ops listed := by rw [hu]; simp
        obtain ⟨h1, h2⟩ := List.mem_filter.1 hi0
        have hlt : i0 < ops.size := List.mem_range.1 h1
        have hmin : ∀ j, j < i0 → listed.getD j false = true := by
          intro j hj
          cases hb : listed.getD j false with
          | true => rfl
          | false =>
            have hjs : j < listed.size := by omega
            have hb' : listed.getD j true = false := by simp [hjs] at hb ⊢; exact hb
            have hjm : j ∈ unl ops listed := List.mem_filter.2 ⟨List.mem_range.2 (by omega), by simp [hb']⟩
            have hsorted : (unl ops listed).Pairwise (· < ·) := List.Pairwise.sublist List.filter_sublist List.pairwise_lt_range
            rw [hu] at hjm hsorted
            rcases List.mem_cons.1 hjm with rfl | hjm
            · omega
            · have := (List.pairwise_cons.1 hsorted).1 j hjm; omega
        have : i0 ∈ Region.ready .any ops listed := mem_ready.2 ⟨by simpa using h2, ops[i0], by simp [hlt], fun e he hb => hmin e.on ((hst i0 ops[i0] (by simp [hlt])).1 e he hb)⟩
        rw [hre] at this
        cases this
    · obtain ⟨h1, oi, hoi, hrd⟩ := mem_ready.1 hi
      have hlt : i < ops.size := (Array.getElem?_eq_some_iff.1 hoi).1
      have him : i ∈ unl ops listed := List.mem_filter.2 ⟨List.mem_range.2 hlt, by simp [h1]⟩
      obtain ⟨L1, L2, hL⟩ := List.append_of_mem him
      have hoki := hall oi (Array.mem_of_getElem? hoi)
      have hsorted : (unl ops listed).Pairwise (· < ·) := List.Pairwise.sublist List.filter_sublist List.pairwise_lt_range
      rw [hL] at hsorted
      have hsw : ∀ x ∈ L1, ∃ ox, ops[x]? = some ox ∧ swapOk P ops pure.l x i ox oi = true := by
        intro x hx
        have hxm : x ∈ unl ops listed := by rw [hL]; simp [hx]
        obtain ⟨q1, q2⟩ := List.mem_filter.1 hxm
        have hxlt : x < ops.size := List.mem_range.1 q1
        have hxi : x < i := (List.pairwise_append.1 hsorted).2.2 x hx i (by simp)
        refine ⟨ops[x], by simp [hxlt], (hst i oi hoi).2 x hxi ?_ ops[x] (by simp [hxlt])⟩
        cases hm : ((masks ops.toList []).getD i 0).testBit x with
        | false => rfl
        | true =>
          have := hM i oi (by rw [hlenM]; exact hlt) hoi x hm listed hcl hrd
          have hxs : x < listed.size := by omega
          simp [hxs] at this q2
          rw [this] at q2; cases q2
      have hreal : Real n t h := ⟨B, w0, ρ, w, hs, ht.top⟩
      rw [hL] at hD
      have hpull := DL_pull hall hoi L2 L1 hsw hreal hD
      have hunl : unl ops (listed.setIfInBounds i true) = L1 ++ L2 := by rw [unl_set hsz, hL, filter_ne i L1 L2 (hL ▸ hnd)]
      have hsz' : (listed.setIfInBounds i true).size = ops.size := by simp [hsz]
      have hcl' : Closed ops (listed.setIfInBounds i true) := by
        intro j o hj hl e he hb
        by_cases hij : i = j
        · subst hij
          rw [hoi] at hj; cases hj
          exact getD_set_true (hrd e he hb)
        · rw [getD_set_ne false hij] at hl
          exact getD_set_true (hcl j o hj hl e he hb)
      have hlen' : (unl ops (listed.setIfInBounds i true)).length = fuel := by
        rw [hunl]; rw [hL] at hlen; simp at hlen ⊢; omega
      have hod : ∀ k, oi.dst = some k → k < n := okDst_spec (hd oi (Array.mem_of_getElem? hoi))
      have hde : ∀ u, (a.put oi.dst u).defers = ds := fun u => by rw [← hds]; unfold Act.put; split <;> rfl
      unfold wpOp
      simp only [hoi]
      rw [wanted_eq ht hd]
      unfold stepD at hpull
      cases hw : wantedA ops oi t with
      | true =>
        rw [hw] at hpull
        simp only [if_true]
        refine .inl (Oper.wp_mono ?_ (astep_sound hs ht hoki hpull))
        rintro a' w' ⟨ρ', v, h', ⟨_, k1⟩, k2, k3, rfl, k4, k5⟩
        exact ih hsz' hcl' hlen' k2 ((ht.mono k5 k4).put oi.dst k3 hod) (hde _) (by omega) (hg.trans hn k5) (by rw [hunl]; exact k1)
      | false =>
        rw [hw] at hpull
        simp only [Bool.false_eq_true, if_false]
        have ht' := ht.put oi.dst (v := undef) (by simp [vtop_undef]) hod
        rw [rl_undef] at ht'
        exact ih hsz' hcl' hlen' hs ht' (hde _) hn hg (by rw [hunl]; exact hpull)

theorem aopsD_DL {ops : Array Oper} {pure : Marks} {K : Tm → Hp → Prop} (l : List Oper) : ∀ k t h, (∀ j, l[j]? = ops[k + j]?) → aopsD P ops pure k l K t h = DL P ops pure (List.range' k l.length) K t h := by
  induction l with
  | nil => intro k t h _; rfl
  | cons o l ih =>
    intro k t h hl
    have h0 : ops[k]? = some o := by simpa using (hl 0).symm
    simp only [aopsD, List.length_cons, List.range'_succ, DL, h0]
    congr 1
    funext t' h'
    exact ih (k + 1) t' h' fun j => by have := hl (j + 1); simp only [List.getElem?_cons_succ] at this; rw [this]; congr 1; omega

end
end Go.Mini
