/-
  RamKeeps.
-/
import Derived.Test.YtgafaelakjnemaaB6
import Derived.Test.YtgafaelakjnemaaP2
import Derived.Test.YtgafaelakjnemaaShelf
import Derived.Test.YtgafaelakjnemaaM24
set_option linter.unusedSimpArgs false
set_option linter.unusedVariables false
namespace Go.Proofs.Ytgafaelakjnemaa
open Go Go.Mini Go.Proofs.Try

theorem repeat_zero : ∀ c, Lib.repeatL [(0 : UInt8)] c = List.replicate c 0 := fun c => by
  have := Lib.repeatL_replicate (0 : UInt8) 1 c
  simpa using this
theorem repeat_call {h : Hp} {K : Value → Hp → Prop} {c : Nat} (hc : c ≤ 4096) (hK : K (.string (txt (List.replicate c 0))) h) : ACall prog 29 [.string (txt [0]), .int .i64 c] h K := by
  refine ACall.of_calls (r := .string (txt (List.replicate c 0))) ⟨_, _, func29, rfl, rfl⟩ (by simp [vtop]) rfl (fun w => ?_) hK
  have := Go.Proofs.Try.strings_Repeat (txt [0]) c w (by omega) (by show 1 * c ≤ _; omega)
  refine this.mono fun e w' ⟨he, hb⟩ => ⟨?_, hb⟩
  rw [he, show (txt [0]).data.toList = [0] from rfl, repeat_zero]
  rfl

theorem lt63 {a b : Nat} (h : a = b) (h2 : b ≤ maxLen) : a < 9223372036854775808 := by
  have : maxLen < 9223372036854775808 := by decide
  omega
theorem leaves4 {a b c d : Leaf} {r : List Value} (h : leavesIn [a, b, c, d] r) : ∃ x y z u, r = [x, y, z, u] ∧ leafIn a x ∧ leafIn b y ∧ leafIn c z ∧ leafIn d u := by
  match r, h with
  | [x, y, z, u], ⟨h1, h2, h3, h4, _⟩ => exact ⟨x, y, z, u, rfl, h1, h2, h3, h4⟩
theorem and_u64 (y k : Nat) (hk : k ≤ 64) (hy : y < 18446744073709551616) (m d : Nat) (hm : m = 2 ^ k - 1) (hd : d = y % 2 ^ k) (ty : TypeId) (xo yo : Operand) : abin prog .and ty xo yo (.int .u64 y) (.int .u64 (m : Nat)) = some (.int .u64 (d : Nat)) := by
  rw [abin_and, show IntKind.u64.bits = 64 from rfl, hm]
  have := (and_low y k).resolve_right (by omega)
  rw [this, Nat.mod_eq_of_lt (show y < 2 ^ 64 from hy), ← hd]
  have hdl : d < 18446744073709551616 := by rw [hd]; exact Nat.lt_of_le_of_lt (Nat.mod_le _ _) hy
  simp (disch := omega)

set_option maxRecDepth 100000 in
set_option maxHeartbeats 4000000 in
theorem ramKeeps_call {h : Hp} {K : Value → Hp → Prop} {l : List UInt8} {x y z : Nat} {n : Int} (hl : l.length < 9223372036854775808) (hx : x < 18446744073709551616) (hy : y < 18446744073709551616) (hz : z < 18446744073709551616) (hn : -9223372036854775808 ≤ n ∧ n ≤ 9223372036854775807) (hK : ∀ h', (∀ i, i < h.next → h'.blks i = h.blks i) → K (.bool true) h') : ACall prog 7 [.string (txt l), .agg #[.int .u64 x, .int .u64 y, .int .i64 n, .int .u64 z]] h K := by
  refine acallF_of tb0 func7 rfl rfl mixed (by kernel_rfl) fun hwf => ?_
  obtain ⟨H, hH⟩ : ∃ H, H = h.alloc ⟨#[.int .u64 x, .int .u64 y, .int .i64 n, .int .u64 z], 1, true⟩ := ⟨_, rfl⟩
  have eH : Ext h H := by rw [hH]; exact Ext.alloc _ _
  have hB : H.blks h.next = some ⟨#[.int .u64 x, .int .u64 y, .int .i64 n, .int .u64 z], 1, true⟩ := by rw [hH]; exact blks_alloc_eq _ _
  have hHl : h.next < H.next := by rw [hH]; simp
  obtain ⟨len, hlen⟩ : ∃ len, len = l.length := ⟨_, rfl⟩
  have hsz : (txt l).size = len := hlen.symm
  rw [← hlen] at hl
  simp -dsimp (disch := omega) [← hH]
  refine own_new (n := 1) (by omega) (by omega) fun h1 p b r1 => ?_
  rw [Nat.one_mul] at r1
  have hB1 : h1.blks h.next = some ⟨#[.int .u64 x, .int .u64 y, .int .i64 n, .int .u64 z], 1, true⟩ := by rw [r1.ext.same _ hHl]; exact hB
  have hpn : h.next ≠ p := by have := r1.pn; omega
  have hbn : h.next ≠ b := by have := r1.bn; omega
  rcases Nat.lt_or_ge 4096 len with hbig | hsm
  · have hbig' : (4096 : Int) < len := by omega
    simp -dsimp (disch := omega) [hsz, hbig']
    refine works_call fun h2 e2 => ?_
    simp -dsimp (disch := omega)
    exact RetF.all (by simp) (hK _ ((eH.trans r1.ext).trans e2).same)
  · have hbig' : ¬ (4096 : Int) < len := by omega
    obtain ⟨c, hc⟩ : ∃ c : Nat, c = 4096 - len := ⟨_, rfl⟩
    have hc' : (4096 : Int) - len = c := by omega
    simp -dsimp (disch := omega) [hsz, hbig', hc']
    refine repeat_call (by omega) ?_
    have hF : l ++ List.replicate c 0 = firstL l := by rw [hc, hlen]; rfl
    have hFl := first_length l (by omega)
    have hrs : (txt (List.replicate c (0 : UInt8))).size = c := by show (List.replicate c (0 : UInt8)).length = c; simp
    simp -dsimp (disch := omega) [hsz, hrs, txt_append, hF]
    refine own_put (x := 0) r1 (by omega) (fun _ h2 r2 ch2 => ?_) (fun hc => absurd (by omega) hc)
    rw [show toA 0 0 l.length = 0 from by unfold toA; split <;> rfl, show toW 0 0 0 l.length = 0 from by unfold toW; split <;> rfl] at r2
    have hfb := first_bytes l (by omega)
    obtain ⟨M0, hM0⟩ : ∃ M0, M0 = lay (fun _ => 0) 0 l := ⟨_, rfl⟩
    rw [← hM0] at r2 hfb
    have hB2 : h2.blks h.next = some ⟨#[.int .u64 x, .int .u64 y, .int .i64 n, .int .u64 z], 1, true⟩ := by rw [ch2.same _ hpn hbn]; exact hB1
    obtain ⟨F, hFF⟩ : ∃ F, F = firstL l := ⟨_, rfl⟩
    rw [← hFF] at hfb hFl
    rw [← hFF]
    have hFs : (txt F).size = 4096 := hFl
    simp -dsimp (disch := omega) [hB2]
    refine own_write r2 hy hx (fun hok h3 r3 ch3 => ?_) (fun hno => ?_)
    · obtain ⟨hw, hxn⟩ := hok
      have hB3 : h3.blks h.next = some ⟨#[.int .u64 x, .int .u64 y, .int .i64 n, .int .u64 z], 1, true⟩ := by rw [ch3.same _ hpn hbn]; exact hB2
      obtain rfl | rfl | rfl | rfl := hw
      · have hxk : x + 1 ≤ 4096 := hxn
        have hxk' : (x : Int) ≤ 4095 := by omega
        have rM : Own H h3 p b 4096 4096 (wr M0 x y 1) (toA 0 x 1) (toW 0 0 x 1) := r3
        clear r3 hxn
        simp -dsimp (disch := omega) [hB3]
        refine bytes_call (x := 0) (n := 4096) rM.ram (fun _ => ?_) (fun hc => absurd (by omega) hc)
        have hG := bytesM_length (wr M0 x y 1) 0 4096
        have htk := take_wr M0 x y 1 hxk
        have hdr := drop_wr M0 x y 1
        have hat := at_wr M0 x y 1
        rw [hfb] at htk hdr
        obtain ⟨G, hGG⟩ : ∃ G, G = bytesM (wr M0 x y 1) 0 4096 := ⟨_, rfl⟩
        rw [← hGG] at hG htk hdr hat
        rw [← hGG]
        have hGs : (txt G).size = 4096 := hG
        obtain ⟨d, hd⟩ : ∃ d, d = y % 2 ^ 8 := ⟨_, rfl⟩
        have hdl : d < 18446744073709551616 := by rw [hd]; exact Nat.lt_of_le_of_lt (Nat.mod_le _ _) hy
        have hand : ∀ (ty : TypeId) (xo yo : Operand), abin prog .and ty xo yo (.int .u64 y) (.int .u64 255) = some (.int .u64 (d : Nat)) := and_u64 y 8 (by omega) hy 255 d (by rfl) hd
        have hmask : IntKind.u64.wrap (IntKind.u64.wrap (2 ^ min 8 IntKind.u64.bits) - 1) = 255 := by decide +kernel
        simp -dsimp (disch := omega) [hB3, hxk', hGs, hmask, hand, -abin_and]
        have hle : leN (wr M0 x y 1) x (Int.toNat 1) = d := by rw [hd]; exact leN_wr M0 x y 1 1 (Nat.le_refl _)
        refine reads_call rM.ram hx hdl ?_
        rw [decide_eq_true ⟨⟨by decide, hxk⟩, hle⟩]
        have x1 : (txt G).extract 0 x = txt (F.take x) := by rw [txt_extract, List.drop_zero, htk]
        have x2 : (txt F).extract 0 x = txt (F.take x) := by rw [txt_extract, List.drop_zero]
        have x3 : (txt G).extract (x + 1) 4096 = txt (F.drop (x + 1)) := by rw [txt_extract, List.take_of_length_le (by omega), hdr]
        have x4 : (txt F).extract (x + 1) 4096 = txt (F.drop (x + 1)) := by rw [txt_extract, List.take_of_length_le (by omega)]
        simp -dsimp (disch := omega) [hB3, hGs, hFs, x1, x2, x3, x4]
        refine awp_loop (fun t h' => h' = h3 ∧ ∃ i : Nat, i ≤ 1 ∧ t 3 = ptr h.next ∧ t 5 = ptr p ∧ t 8 = .string (txt G) ∧ t 10 = .int .i64 1 ∧ t 12 = .int .i64 i) (fun t _ => 1 - ivN (t 12)) ?_ ?_
        · simp -dsimp (disch := omega)
          exact ⟨0, by omega, rfl⟩
        · rintro t h' ⟨rfl, i, hi, g3, g5, g8, g10, g12⟩
          refine vcF_sound mixed (tb := tb0) _ (by kernel_rfl) ?_
          rcases Nat.lt_or_ge i 1 with hi2 | hi2
          · obtain rfl : i = 0 := by omega
            have ea := hat 0 hxk hi2
            rw [Nat.pow_zero, Nat.div_one, Nat.add_zero] at ea
            have hyl : y % 256 < 256 := by omega
            have e1 : IntKind.u8.wrap (y : Int) = ((y % 256 : Nat) : Int) := by rw [IntKind.wrap_u8]; omega
            have e2 : (y : Int).fdiv 1 = y := by rw [Int.fdiv_one]
            obtain ⟨D, hD⟩ : ∃ D, D = y % 256 := ⟨_, rfl⟩
            rw [← hD] at ea e1 hyl
            have eb : bAt (txt G) x = (D : Nat) := by rw [bAt_txt, ea]; simp; omega
            simp -dsimp (disch := omega) [g3, g5, g8, g10, g12, hB3, hGs, eb, e1, e2]
            exact ⟨⟨1, by omega, by simp⟩, by simp [ivN]⟩
          · have hi2' : ¬ (i : Int) < 1 := by omega
            simp -dsimp (disch := omega) [g3, g5, g8, g10, g12, hB3, hi2, hi2']
            refine read_call rM.ram hz (fun hcc => ?_) (fun hcc => ?_)
            · have hz4 : z < 4096 := hcc.2
              have hz4' : (z : Int) < 4096 := by omega
              have hm8 := rM.ram.M8 z
              have el : leN (wr M0 x y 1) z (Int.toNat 1) = wr M0 x y 1 z := by show 0 * 256 + _ = _; omega
              have ea : G[z]? = some (UInt8.ofNat (wr M0 x y 1 z)) := by rw [hGG, bytesM_at _ _ _ _ hz4, Nat.zero_add]
              rw [el]
              obtain ⟨D, hD⟩ : ∃ D, D = wr M0 x y 1 z := ⟨_, rfl⟩
              rw [← hD] at ea hm8
              rw [← hD]
              have eb : bAt (txt G) z = (D : Nat) := by rw [bAt_txt, ea]; simp; omega
              simp -dsimp (disch := omega) [g3, g5, g8, g10, g12, hB3, hz4, hz4', hGs, eb]
              refine works_call fun h4 e4 => ?_
              simp -dsimp (disch := omega)
              exact RetF.all (by simp) (hK _ ((eH.trans rM.ext).trans e4).same)
            · have hz4 : ¬ z < 4096 := fun h => hcc ⟨.inl rfl, h⟩
              have hz4' : ¬ (z : Int) < 4096 := by omega
              simp -dsimp (disch := omega) [g3, g5, g8, g10, g12, hB3, hz4, hz4', hGs]
              refine works_call fun h4 e4 => ?_
              simp -dsimp (disch := omega)
              exact RetF.all (by simp) (hK _ ((eH.trans rM.ext).trans e4).same)
      · have hxk : x + 2 ≤ 4096 := hxn
        have hxk' : (x : Int) ≤ 4094 := by omega
        have rM : Own H h3 p b 4096 4096 (wr M0 x y 2) (toA 0 x 2) (toW 0 0 x 2) := r3
        clear r3 hxn
        simp -dsimp (disch := omega) [hB3]
        refine bytes_call (x := 0) (n := 4096) rM.ram (fun _ => ?_) (fun hc => absurd (by omega) hc)
        have hG := bytesM_length (wr M0 x y 2) 0 4096
        have htk := take_wr M0 x y 2 hxk
        have hdr := drop_wr M0 x y 2
        have hat := at_wr M0 x y 2
        rw [hfb] at htk hdr
        obtain ⟨G, hGG⟩ : ∃ G, G = bytesM (wr M0 x y 2) 0 4096 := ⟨_, rfl⟩
        rw [← hGG] at hG htk hdr hat
        rw [← hGG]
        have hGs : (txt G).size = 4096 := hG
        obtain ⟨d, hd⟩ : ∃ d, d = y % 2 ^ 16 := ⟨_, rfl⟩
        have hdl : d < 18446744073709551616 := by rw [hd]; exact Nat.lt_of_le_of_lt (Nat.mod_le _ _) hy
        have hand : ∀ (ty : TypeId) (xo yo : Operand), abin prog .and ty xo yo (.int .u64 y) (.int .u64 65535) = some (.int .u64 (d : Nat)) := and_u64 y 16 (by omega) hy 65535 d (by rfl) hd
        have hmask : IntKind.u64.wrap (IntKind.u64.wrap (2 ^ min 16 IntKind.u64.bits) - 1) = 65535 := by decide +kernel
        simp -dsimp (disch := omega) [hB3, hxk', hGs, hmask, hand, -abin_and]
        have hle : leN (wr M0 x y 2) x (Int.toNat 2) = d := by rw [hd]; exact leN_wr M0 x y 2 2 (Nat.le_refl _)
        refine reads_call rM.ram hx hdl ?_
        rw [decide_eq_true ⟨⟨by decide, hxk⟩, hle⟩]
        have x1 : (txt G).extract 0 x = txt (F.take x) := by rw [txt_extract, List.drop_zero, htk]
        have x2 : (txt F).extract 0 x = txt (F.take x) := by rw [txt_extract, List.drop_zero]
        have x3 : (txt G).extract ((x : Int) + 2).toNat 4096 = txt (F.drop (x + 2)) := by rw [txt_extract, List.take_of_length_le (by omega), show ((x : Int) + 2).toNat = x + 2 from by omega, hdr]
        have x4 : (txt F).extract ((x : Int) + 2).toNat 4096 = txt (F.drop (x + 2)) := by rw [txt_extract, List.take_of_length_le (by omega), show ((x : Int) + 2).toNat = x + 2 from by omega]
        simp -dsimp (disch := omega) [hB3, hGs, hFs, x1, x2, x3, x4]
        refine awp_loop (fun t h' => h' = h3 ∧ ∃ i : Nat, i ≤ 2 ∧ t 3 = ptr h.next ∧ t 5 = ptr p ∧ t 8 = .string (txt G) ∧ t 10 = .int .i64 2 ∧ t 12 = .int .i64 i) (fun t _ => 2 - ivN (t 12)) ?_ ?_
        · simp -dsimp (disch := omega)
          exact ⟨0, by omega, rfl⟩
        · rintro t h' ⟨rfl, i, hi, g3, g5, g8, g10, g12⟩
          refine vcF_sound mixed (tb := tb0) _ (by kernel_rfl) ?_
          rcases Nat.lt_or_ge i 2 with hi2 | hi2
          · have hi2' : (i : Int) < 2 := by omega
            have ea := hat i hxk hi2
            have e1 := shr8 y i (by omega)
            have hyl : y / 256 ^ i % 256 < 256 := by omega
            obtain ⟨D, hD⟩ : ∃ D, D = y / 256 ^ i % 256 := ⟨_, rfl⟩
            rw [← hD] at ea e1 hyl
            have eb : bAt (txt G) (x + i) = (D : Nat) := by rw [bAt_txt, ea]; simp; omega
            have ex : ((x : Int) + i).toNat = x + i := by omega
            have e1' : IntKind.u8.wrap ((y : Int).fdiv (2 ^ min (8 * (i : Int)).toNat IntKind.u64.bits)) = (D : Nat) := e1
            simp -dsimp (disch := omega) [g3, g5, g8, g10, g12, hB3, hi2, hi2', hGs, ex, eb, e1']
            exact ⟨⟨i + 1, by omega, by simp⟩, by simp [ivN]; omega⟩
          · have hi2' : ¬ (i : Int) < 2 := by omega
            simp -dsimp (disch := omega) [g3, g5, g8, g10, g12, hB3, hi2, hi2']
            refine read_call rM.ram hz (fun hcc => ?_) (fun hcc => ?_)
            · have hz4 : z < 4096 := hcc.2
              have hz4' : (z : Int) < 4096 := by omega
              have hm8 := rM.ram.M8 z
              have el : leN (wr M0 x y 2) z (Int.toNat 1) = wr M0 x y 2 z := by show 0 * 256 + _ = _; omega
              have ea : G[z]? = some (UInt8.ofNat (wr M0 x y 2 z)) := by rw [hGG, bytesM_at _ _ _ _ hz4, Nat.zero_add]
              rw [el]
              obtain ⟨D, hD⟩ : ∃ D, D = wr M0 x y 2 z := ⟨_, rfl⟩
              rw [← hD] at ea hm8
              rw [← hD]
              have eb : bAt (txt G) z = (D : Nat) := by rw [bAt_txt, ea]; simp; omega
              simp -dsimp (disch := omega) [g3, g5, g8, g10, g12, hB3, hz4, hz4', hGs, eb]
              refine works_call fun h4 e4 => ?_
              simp -dsimp (disch := omega)
              exact RetF.all (by simp) (hK _ ((eH.trans rM.ext).trans e4).same)
            · have hz4 : ¬ z < 4096 := fun h => hcc ⟨.inl rfl, h⟩
              have hz4' : ¬ (z : Int) < 4096 := by omega
              simp -dsimp (disch := omega) [g3, g5, g8, g10, g12, hB3, hz4, hz4', hGs]
              refine works_call fun h4 e4 => ?_
              simp -dsimp (disch := omega)
              exact RetF.all (by simp) (hK _ ((eH.trans rM.ext).trans e4).same)
      · have hxk : x + 4 ≤ 4096 := hxn
        have hxk' : (x : Int) ≤ 4092 := by omega
        have rM : Own H h3 p b 4096 4096 (wr M0 x y 4) (toA 0 x 4) (toW 0 0 x 4) := r3
        clear r3 hxn
        simp -dsimp (disch := omega) [hB3]
        refine bytes_call (x := 0) (n := 4096) rM.ram (fun _ => ?_) (fun hc => absurd (by omega) hc)
        have hG := bytesM_length (wr M0 x y 4) 0 4096
        have htk := take_wr M0 x y 4 hxk
        have hdr := drop_wr M0 x y 4
        have hat := at_wr M0 x y 4
        rw [hfb] at htk hdr
        obtain ⟨G, hGG⟩ : ∃ G, G = bytesM (wr M0 x y 4) 0 4096 := ⟨_, rfl⟩
        rw [← hGG] at hG htk hdr hat
        rw [← hGG]
        have hGs : (txt G).size = 4096 := hG
        obtain ⟨d, hd⟩ : ∃ d, d = y % 2 ^ 32 := ⟨_, rfl⟩
        have hdl : d < 18446744073709551616 := by rw [hd]; exact Nat.lt_of_le_of_lt (Nat.mod_le _ _) hy
        have hand : ∀ (ty : TypeId) (xo yo : Operand), abin prog .and ty xo yo (.int .u64 y) (.int .u64 4294967295) = some (.int .u64 (d : Nat)) := and_u64 y 32 (by omega) hy 4294967295 d (by rfl) hd
        have hmask : IntKind.u64.wrap (IntKind.u64.wrap (2 ^ min 32 IntKind.u64.bits) - 1) = 4294967295 := by decide +kernel
        simp -dsimp (disch := omega) [hB3, hxk', hGs, hmask, hand, -abin_and]
        have hle : leN (wr M0 x y 4) x (Int.toNat 4) = d := by rw [hd]; exact leN_wr M0 x y 4 4 (Nat.le_refl _)
        refine reads_call rM.ram hx hdl ?_
        rw [decide_eq_true ⟨⟨by decide, hxk⟩, hle⟩]
        have x1 : (txt G).extract 0 x = txt (F.take x) := by rw [txt_extract, List.drop_zero, htk]
        have x2 : (txt F).extract 0 x = txt (F.take x) := by rw [txt_extract, List.drop_zero]
        have x3 : (txt G).extract ((x : Int) + 4).toNat 4096 = txt (F.drop (x + 4)) := by rw [txt_extract, List.take_of_length_le (by omega), show ((x : Int) + 4).toNat = x + 4 from by omega, hdr]
        have x4 : (txt F).extract ((x : Int) + 4).toNat 4096 = txt (F.drop (x + 4)) := by rw [txt_extract, List.take_of_length_le (by omega), show ((x : Int) + 4).toNat = x + 4 from by omega]
        simp -dsimp (disch := omega) [hB3, hGs, hFs, x1, x2, x3, x4]
        refine awp_loop (fun t h' => h' = h3 ∧ ∃ i : Nat, i ≤ 4 ∧ t 3 = ptr h.next ∧ t 5 = ptr p ∧ t 8 = .string (txt G) ∧ t 10 = .int .i64 4 ∧ t 12 = .int .i64 i) (fun t _ => 4 - ivN (t 12)) ?_ ?_
        · simp -dsimp (disch := omega)
          exact ⟨0, by omega, rfl⟩
        · rintro t h' ⟨rfl, i, hi, g3, g5, g8, g10, g12⟩
          refine vcF_sound mixed (tb := tb0) _ (by kernel_rfl) ?_
          rcases Nat.lt_or_ge i 4 with hi2 | hi2
          · have hi2' : (i : Int) < 4 := by omega
            have ea := hat i hxk hi2
            have e1 := shr8 y i (by omega)
            have hyl : y / 256 ^ i % 256 < 256 := by omega
            obtain ⟨D, hD⟩ : ∃ D, D = y / 256 ^ i % 256 := ⟨_, rfl⟩
            rw [← hD] at ea e1 hyl
            have eb : bAt (txt G) (x + i) = (D : Nat) := by rw [bAt_txt, ea]; simp; omega
            have ex : ((x : Int) + i).toNat = x + i := by omega
            have e1' : IntKind.u8.wrap ((y : Int).fdiv (2 ^ min (8 * (i : Int)).toNat IntKind.u64.bits)) = (D : Nat) := e1
            simp -dsimp (disch := omega) [g3, g5, g8, g10, g12, hB3, hi2, hi2', hGs, ex, eb, e1']
            exact ⟨⟨i + 1, by omega, by simp⟩, by simp [ivN]; omega⟩
          · have hi2' : ¬ (i : Int) < 4 := by omega
            simp -dsimp (disch := omega) [g3, g5, g8, g10, g12, hB3, hi2, hi2']
            refine read_call rM.ram hz (fun hcc => ?_) (fun hcc => ?_)
            · have hz4 : z < 4096 := hcc.2
              have hz4' : (z : Int) < 4096 := by omega
              have hm8 := rM.ram.M8 z
              have el : leN (wr M0 x y 4) z (Int.toNat 1) = wr M0 x y 4 z := by show 0 * 256 + _ = _; omega
              have ea : G[z]? = some (UInt8.ofNat (wr M0 x y 4 z)) := by rw [hGG, bytesM_at _ _ _ _ hz4, Nat.zero_add]
              rw [el]
              obtain ⟨D, hD⟩ : ∃ D, D = wr M0 x y 4 z := ⟨_, rfl⟩
              rw [← hD] at ea hm8
              rw [← hD]
              have eb : bAt (txt G) z = (D : Nat) := by rw [bAt_txt, ea]; simp; omega
              simp -dsimp (disch := omega) [g3, g5, g8, g10, g12, hB3, hz4, hz4', hGs, eb]
              refine works_call fun h4 e4 => ?_
              simp -dsimp (disch := omega)
              exact RetF.all (by simp) (hK _ ((eH.trans rM.ext).trans e4).same)
            · have hz4 : ¬ z < 4096 := fun h => hcc ⟨.inl rfl, h⟩
              have hz4' : ¬ (z : Int) < 4096 := by omega
              simp -dsimp (disch := omega) [g3, g5, g8, g10, g12, hB3, hz4, hz4', hGs]
              refine works_call fun h4 e4 => ?_
              simp -dsimp (disch := omega)
              exact RetF.all (by simp) (hK _ ((eH.trans rM.ext).trans e4).same)
      · have hxk : x + 8 ≤ 4096 := hxn
        have hxk' : (x : Int) ≤ 4088 := by omega
        have rM : Own H h3 p b 4096 4096 (wr M0 x y 8) (toA 0 x 8) (toW 0 0 x 8) := r3
        clear r3 hxn
        simp -dsimp (disch := omega) [hB3]
        refine bytes_call (x := 0) (n := 4096) rM.ram (fun _ => ?_) (fun hc => absurd (by omega) hc)
        have hG := bytesM_length (wr M0 x y 8) 0 4096
        have htk := take_wr M0 x y 8 hxk
        have hdr := drop_wr M0 x y 8
        have hat := at_wr M0 x y 8
        rw [hfb] at htk hdr
        obtain ⟨G, hGG⟩ : ∃ G, G = bytesM (wr M0 x y 8) 0 4096 := ⟨_, rfl⟩
        rw [← hGG] at hG htk hdr hat
        rw [← hGG]
        have hGs : (txt G).size = 4096 := hG
        obtain ⟨d, hd⟩ : ∃ d, d = y % 2 ^ 64 := ⟨_, rfl⟩
        have hdl : d < 18446744073709551616 := by rw [hd]; exact Nat.lt_of_le_of_lt (Nat.mod_le _ _) hy
        have hand : ∀ (ty : TypeId) (xo yo : Operand), abin prog .and ty xo yo (.int .u64 y) (.int .u64 18446744073709551615) = some (.int .u64 (d : Nat)) := and_u64 y 64 (by omega) hy 18446744073709551615 d (by rfl) hd
        have hmask : True := trivial
        simp -dsimp (disch := omega) [hB3, hxk', hGs, hmask, hand, -abin_and]
        have hle : leN (wr M0 x y 8) x (Int.toNat 8) = d := by rw [hd]; exact leN_wr M0 x y 8 8 (Nat.le_refl _)
        refine reads_call rM.ram hx hdl ?_
        rw [decide_eq_true ⟨⟨by decide, hxk⟩, hle⟩]
        have x1 : (txt G).extract 0 x = txt (F.take x) := by rw [txt_extract, List.drop_zero, htk]
        have x2 : (txt F).extract 0 x = txt (F.take x) := by rw [txt_extract, List.drop_zero]
        have x3 : (txt G).extract ((x : Int) + 8).toNat 4096 = txt (F.drop (x + 8)) := by rw [txt_extract, List.take_of_length_le (by omega), show ((x : Int) + 8).toNat = x + 8 from by omega, hdr]
        have x4 : (txt F).extract ((x : Int) + 8).toNat 4096 = txt (F.drop (x + 8)) := by rw [txt_extract, List.take_of_length_le (by omega), show ((x : Int) + 8).toNat = x + 8 from by omega]
        simp -dsimp (disch := omega) [hB3, hGs, hFs, x1, x2, x3, x4]
        refine awp_loop (fun t h' => h' = h3 ∧ ∃ i : Nat, i ≤ 8 ∧ t 3 = ptr h.next ∧ t 5 = ptr p ∧ t 8 = .string (txt G) ∧ t 10 = .int .i64 8 ∧ t 12 = .int .i64 i) (fun t _ => 8 - ivN (t 12)) ?_ ?_
        · simp -dsimp (disch := omega)
          exact ⟨0, by omega, rfl⟩
        · rintro t h' ⟨rfl, i, hi, g3, g5, g8, g10, g12⟩
          refine vcF_sound mixed (tb := tb0) _ (by kernel_rfl) ?_
          rcases Nat.lt_or_ge i 8 with hi2 | hi2
          · have hi2' : (i : Int) < 8 := by omega
            have ea := hat i hxk hi2
            have e1 := shr8 y i (by omega)
            have hyl : y / 256 ^ i % 256 < 256 := by omega
            obtain ⟨D, hD⟩ : ∃ D, D = y / 256 ^ i % 256 := ⟨_, rfl⟩
            rw [← hD] at ea e1 hyl
            have eb : bAt (txt G) (x + i) = (D : Nat) := by rw [bAt_txt, ea]; simp; omega
            have ex : ((x : Int) + i).toNat = x + i := by omega
            have e1' : IntKind.u8.wrap ((y : Int).fdiv (2 ^ min (8 * (i : Int)).toNat IntKind.u64.bits)) = (D : Nat) := e1
            simp -dsimp (disch := omega) [g3, g5, g8, g10, g12, hB3, hi2, hi2', hGs, ex, eb, e1']
            exact ⟨⟨i + 1, by omega, by simp⟩, by simp [ivN]; omega⟩
          · have hi2' : ¬ (i : Int) < 8 := by omega
            simp -dsimp (disch := omega) [g3, g5, g8, g10, g12, hB3, hi2, hi2']
            refine read_call rM.ram hz (fun hcc => ?_) (fun hcc => ?_)
            · have hz4 : z < 4096 := hcc.2
              have hz4' : (z : Int) < 4096 := by omega
              have hm8 := rM.ram.M8 z
              have el : leN (wr M0 x y 8) z (Int.toNat 1) = wr M0 x y 8 z := by show 0 * 256 + _ = _; omega
              have ea : G[z]? = some (UInt8.ofNat (wr M0 x y 8 z)) := by rw [hGG, bytesM_at _ _ _ _ hz4, Nat.zero_add]
              rw [el]
              obtain ⟨D, hD⟩ : ∃ D, D = wr M0 x y 8 z := ⟨_, rfl⟩
              rw [← hD] at ea hm8
              rw [← hD]
              have eb : bAt (txt G) z = (D : Nat) := by rw [bAt_txt, ea]; simp; omega
              simp -dsimp (disch := omega) [g3, g5, g8, g10, g12, hB3, hz4, hz4', hGs, eb]
              refine works_call fun h4 e4 => ?_
              simp -dsimp (disch := omega)
              exact RetF.all (by simp) (hK _ ((eH.trans rM.ext).trans e4).same)
            · have hz4 : ¬ z < 4096 := fun h => hcc ⟨.inl rfl, h⟩
              have hz4' : ¬ (z : Int) < 4096 := by omega
              simp -dsimp (disch := omega) [g3, g5, g8, g10, g12, hB3, hz4, hz4', hGs]
              refine works_call fun h4 e4 => ?_
              simp -dsimp (disch := omega)
              exact RetF.all (by simp) (hK _ ((eH.trans rM.ext).trans e4).same)
    · have hbs : bytesM M0 0 4096 = F := hfb
      simp -dsimp (disch := omega) [hB2]
      refine bytes_call (x := 0) (n := 4096) r2.ram (fun _ => ?_) (fun hc => absurd (by omega) hc)
      rw [hbs]
      by_cases hw : wok n
      · have hxn : ¬ x + n.toNat ≤ 4096 := fun hh => hno ⟨hw, hh⟩
        clear hno
        obtain rfl | rfl | rfl | rfl := hw
        · have hxk : ¬ x + 1 ≤ 4096 := hxn
          have hxk' : ¬ (x : Int) ≤ 4095 := by omega
          simp -dsimp (disch := omega) [hB2, hxk', hFs]
          refine works_call fun h4 e4 => ?_
          simp -dsimp (disch := omega)
          exact RetF.all (by simp) (hK _ ((eH.trans r2.ext).trans e4).same)
        · have hxk : ¬ x + 2 ≤ 4096 := hxn
          have hxk' : ¬ (x : Int) ≤ 4094 := by omega
          simp -dsimp (disch := omega) [hB2, hxk', hFs]
          refine works_call fun h4 e4 => ?_
          simp -dsimp (disch := omega)
          exact RetF.all (by simp) (hK _ ((eH.trans r2.ext).trans e4).same)
        · have hxk : ¬ x + 4 ≤ 4096 := hxn
          have hxk' : ¬ (x : Int) ≤ 4092 := by omega
          simp -dsimp (disch := omega) [hB2, hxk', hFs]
          refine works_call fun h4 e4 => ?_
          simp -dsimp (disch := omega)
          exact RetF.all (by simp) (hK _ ((eH.trans r2.ext).trans e4).same)
        · have hxk : ¬ x + 8 ≤ 4096 := hxn
          have hxk' : ¬ (x : Int) ≤ 4088 := by omega
          simp -dsimp (disch := omega) [hB2, hxk', hFs]
          refine works_call fun h4 e4 => ?_
          simp -dsimp (disch := omega)
          exact RetF.all (by simp) (hK _ ((eH.trans r2.ext).trans e4).same)
      · unfold wok at hw
        have w1 : ¬ n = 1 := by omega
        have w2 : ¬ n = 2 := by omega
        have w4 : ¬ n = 4 := by omega
        have w8 : ¬ n = 8 := by omega
        simp -dsimp (disch := omega) [hB2, w1, w2, w4, w8, hFs]
        refine works_call fun h4 e4 => ?_
        simp -dsimp (disch := omega)
        exact RetF.all (by simp) (hK _ ((eH.trans r2.ext).trans e4).same)
end Go.Proofs.Ytgafaelakjnemaa
