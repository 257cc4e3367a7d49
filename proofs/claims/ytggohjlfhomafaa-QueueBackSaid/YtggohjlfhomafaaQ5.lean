/-
  A queue told as its list of messages.
-/
import Derived.Test.YtggohjlfhomafaaQ4
set_option linter.unusedSimpArgs false
set_option linter.unusedVariables false
set_option linter.unusedSectionVars false
namespace Go.Proofs.Ytggohjlfhomafaa
open Go Go.Mini Go.Proofs.Try

theorem mod_two {x d : Nat} (hx : x < 2 * d) : x % d = if x < d then x else x - d := by
  split
  · exact Nat.mod_eq_of_lt ‹_›
  · rw [Nat.mod_eq_sub_mod (by omega), Nat.mod_eq_of_lt (by omega)]
theorem msgs_length (rg : Nat → ByteArray) (f d m : Nat) : (msgs rg f d m).length = m := by simp [msgs]
theorem msgs_send {rg : Nat → ByteArray} {f d m : Nat} (S : ByteArray) (hf : f < d) (hm : m < d) : msgs (updR rg ((f + m) % d) S) f d (m + 1) = msgs rg f d m ++ [S] := by
  rw [msgs_succ]
  congr 1
  · refine List.map_congr_left fun k hk => ?_
    have hk := List.mem_range.1 hk
    show (if (f + k) % d = (f + m) % d then S else rg ((f + k) % d)) = _
    rw [if_neg]
    rw [mod_two (by omega), mod_two (by omega)]
    split <;> split <;> omega
  · show [if (f + m) % d = (f + m) % d then S else _] = _
    rw [if_pos rfl]
theorem msgs_recv {rg : Nat → ByteArray} {f d m : Nat} (S : ByteArray) (hf : f < d) (hm : m ≤ d) (h0 : 0 < m) : msgs rg f d m = rg f :: msgs (updR rg f S) ((f + 1) % d) d (m - 1) := by
  obtain ⟨n, rfl⟩ : ∃ n, m = n + 1 := ⟨m - 1, by omega⟩
  unfold msgs
  rw [List.range_succ_eq_map, List.map_cons, List.map_map]
  congr 1
  · rw [Nat.add_zero, Nat.mod_eq_of_lt hf]
  · refine List.map_congr_left fun k hk => ?_
    have hk : k < n := List.mem_range.1 hk
    show rg ((f + (k + 1)) % d) = if ((f + 1) % d + k) % d = f then S else rg (((f + 1) % d + k) % d)
    have e : ((f + 1) % d + k) % d = (f + (k + 1)) % d := by rw [Nat.mod_add_mod]; congr 1; omega
    rw [e, if_neg]
    rw [mod_two (by omega)]
    split <;> omega

/-- A queue that holds these messages. -/
def Que (h : Hp) (p : Nat) (L : List ByteArray) (d o : Nat) : Prop :=
  ∃ (rg : Nat → ByteArray) (f m : Nat), h.blks p = some (qB rg f m d o) ∧ 0 < d ∧ d ≤ 16 ∧ f < d ∧ m ≤ d ∧ o ≤ 64 ∧ (∀ i, i < d → (rg i).size ≤ o) ∧ msgs rg f d m = L
theorem Que.len {h : Hp} {p : Nat} {L : List ByteArray} {d o : Nat} (q : Que h p L d o) : L.length ≤ d := by
  obtain ⟨rg, f, m, _, _, _, _, hm, _, _, rfl⟩ := q
  rw [msgs_length]; exact hm
theorem Que.dep {h : Hp} {p : Nat} {L : List ByteArray} {d o : Nat} (q : Que h p L d o) : 0 < d ∧ d ≤ 16 ∧ o ≤ 64 := by
  obtain ⟨rg, f, m, _, h1, h2, _, hm, h3, _, rfl⟩ := q
  exact ⟨h1, h2, h3⟩
theorem Que.sizes {h : Hp} {p : Nat} {L : List ByteArray} {d o : Nat} (q : Que h p L d o) : ∀ s ∈ L, s.size ≤ o := by
  obtain ⟨rg, f, m, _, h1, h2, _, hm, h3, h4, rfl⟩ := q
  intro s hs
  obtain ⟨k, _, rfl⟩ := List.mem_map.1 hs
  exact h4 _ (Nat.mod_lt _ h1)
theorem Que.mono {h h' : Hp} {p : Nat} {L : List ByteArray} {d o : Nat} (q : Que h p L d o) (e : h'.blks p = h.blks p) : Que h' p L d o := by
  obtain ⟨rg, f, m, h1, r⟩ := q
  exact ⟨rg, f, m, e.trans h1, r⟩
abbrev ptr (p : Nat) : Value := .pointer (some ⟨p, 0, none⟩)
section
variable {h : Hp} {K : Value → Hp → Prop} {p d o : Nat} {L : List ByteArray}
theorem que_new {a b : Nat} (hok : newOk a b = true) : Que (h.alloc (qB noRg (0 : Nat) (0 : Nat) a b)) h.next [] a b := by
  have hok' : 1 ≤ a ∧ a ≤ 16 ∧ 1 ≤ b ∧ b ≤ 64 := by simpa [newOk, and_assoc] using hok
  exact ⟨noRg, 0, 0, blks_alloc_eq _ _, by omega, by omega, by omega, by omega, by omega, fun i _ => by show (0 : Nat) ≤ _; omega, rfl⟩
theorem newQ {a b : Nat} (ha : a < 256) (hb : b < 256) (h1 : newOk a b = true → ∀ b', Que (h.alloc b') h.next [] a b → K (.tuple #[ptr h.next, .int .i64 0]) (h.alloc b'))
    (h2 : newOk a b = false → K (.tuple #[.pointer none, .int .i64 2]) h) : ACall prog 7 [.int .u8 a, .int .u8 b] h K :=
  new_call ha hb (fun hok => h1 hok _ (que_new hok)) h2
theorem roomQ (q : Que h p L d o) (hK : K (.int .i64 ((d - L.length : Nat) : Int)) h) : ACall prog 10 [ptr p] h K := by
  obtain ⟨rg, f, m, hb, h1, h2, h3, h4, h5, h6, rfl⟩ := q
  rw [msgs_length] at hK
  refine room_call hb (by omega) (by omega) (by omega) (by omega) ?_
  rw [show ((d : Int) - m) = ((d - m : Nat) : Int) by omega]
  exact hK
theorem waitingQ (q : Que h p L d o) (hK : K (.int .i64 (L.length : Int)) h) : ACall prog 13 [ptr p] h K := by
  obtain ⟨rg, f, m, hb, h1, h2, h3, h4, h5, h6, rfl⟩ := q
  rw [msgs_length] at hK
  exact waiting_call hb (by omega) hK
theorem dumpQ (q : Que h p L d o) (hK : K (.string (txt (dumpOf L))) h) : ACall prog 22 [ptr p] h K := by
  obtain ⟨rg, f, m, hb, h1, h2, h3, h4, h5, h6, rfl⟩ := q
  exact dump_call hb h1 h2 h3 h4 (fun i hi => Nat.le_trans (h6 i hi) h5) hK
theorem sendQ {S : ByteArray} (q : Que h p L d o) (hS : (S.size : Int) ≤ 9223372036854775807) (k1 : o < S.size → K (.int .u8 3) h) (k2 : S.size ≤ o → L.length = d → K (.int .u8 1) h)
    (k3 : S.size ≤ o → L.length < d → ∀ b', Que (h.set p b') p (L ++ [S]) d o → K (.int .u8 0) (h.set p b')) : ACall prog 11 [ptr p, .string S] h K := by
  obtain ⟨rg, f, m, hb, h1, h2, h3, h4, h5, h6, rfl⟩ := q
  rw [msgs_length] at k2 k3
  refine send_call hb h1 h2 h3 h4 h5 hS k1 k2 fun c1 c2 => k3 c1 c2 _ ⟨_, _, _, blks_set_eq _ _ _, h1, h2, h3, by omega, h5, fun i hi => ?_, msgs_send S h3 c2⟩
  show (if i = (f + m) % d then S else rg i).size ≤ o
  split
  · omega
  · exact h6 i hi
theorem recv0Q (q : Que h p [] d o) (hK : K (.tuple #[.string (txt []), .int .u8 4]) h) : ACall prog 12 [ptr p] h K := by
  obtain ⟨rg, f, m, hb, h1, h2, h3, h4, h5, h6, h7⟩ := q
  obtain rfl : m = 0 := by rw [← msgs_length rg f d m, h7]; rfl
  exact recv_empty hb (by omega) hK
theorem recvQ {s : ByteArray} {L : List ByteArray} (q : Que h p (s :: L) d o) (hK : ∀ b', Que (h.set p b') p L d o → K (.tuple #[.string s, .int .u8 0]) (h.set p b')) : ACall prog 12 [ptr p] h K := by
  obtain ⟨rg, f, m, hb, h1, h2, h3, h4, h5, h6, h7⟩ := q
  have hm0 : 0 < m := by
    rcases Nat.eq_zero_or_pos m with rfl | hm
    · cases h7
    · exact hm
  rw [msgs_recv (txt []) h3 h4 hm0] at h7
  simp only [List.cons.injEq] at h7
  obtain ⟨rfl, rfl⟩ := h7
  refine recv_call hb h1 h2 h3 h4 hm0 (hK _ ⟨_, _, _, blks_set_eq _ _ _, h1, h2, Nat.mod_lt _ h1, by omega, h5, fun i hi => ?_, rfl⟩)
  show (if i = f then txt [] else rg i).size ≤ o
  split
  · show 0 ≤ o; omega
  · exact h6 i hi
end
end Go.Proofs.Ytggohjlfhomafaa
