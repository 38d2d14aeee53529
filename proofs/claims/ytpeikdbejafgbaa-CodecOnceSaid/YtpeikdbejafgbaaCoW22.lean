/- Walks and plain facts for the laws of this seat: what each function answers, for every input. -/
import Derived.Test.YtpeikdbejafgbaaCoW21
set_option linter.unusedVariables false
set_option linter.unusedSimpArgs false
namespace Go.Proofs
open Go.SL Go.RowKit
set_option maxHeartbeats 1000000
theorem readN_lt {most at_ : Nat} {l : List UInt8} {e : Int} (hm : most < 18446744073709551616) (hat : at_ ≤ l.length) : (readN most l at_ e).1 < 18446744073709551616 := by
  have := (readN_le (most := most) (err := e) hat).1
  omega
theorem comp_8 (b : List UInt8) (h : b.length ≤ 8) : comp b < 18446744073709551616 := by
  have h1 := (comp_foldl b 0).2
  have h2 : 256 ^ b.length ≤ 256 ^ 8 := Nat.pow_le_pow_right (by decide) h
  have h3 : 256 ^ 8 = 18446744073709551616 := rfl
  omega
theorem hashR_len (l : List UInt8) (at_ : Nat) (e : Int) : (hashR l at_ e).1.length = 32 := padH_len (tkR_len 32 l at_ e)
theorem num1_fc {w0 : World} {S : SS} {A : Option Addr} {cap at_ rb : Nat} {l : List UInt8} (hx : Rd w0 S A (bytesC l)) (hat : at_ ≤ l.length) (hcap : l.length ≤ cap) (hb : l.length ≤ 1000000000000) :
    FC Try.prog w0 16 [.pointer (some ⟨rb, 0, none⟩), .int .u64 18446744073709551615] (RB rb A l.length cap at_ 0 :: S)
      (fun v S' => ∃ (n : Nat) (at2 : Nat) (e2 : Int), v = .int .u64 (n : Int) ∧ S' = RB rb A l.length cap at2 e2 :: S ∧ at2 ≤ l.length ∧ n < 18446744073709551616 ∧ (e2 = 0 → l.take at2 = l.take at_ ++ numB n)) :=
  (rdnum_fc (most := 18446744073709551615) hx hat hcap hb).mono fun _ _ h => ⟨_, _, _, h.1, h.2, (readN_le hat).2, readN_lt (by decide) hat, once_num⟩
theorem text1_fc {w0 : World} {S : SS} {A : Option Addr} {cap at_ rb : Nat} {l : List UInt8} (hx : Rd w0 S A (bytesC l)) (hat : at_ ≤ l.length) (hcap : l.length ≤ cap) (hb : l.length ≤ 1000000000000) :
    FC Try.prog w0 20 [.pointer (some ⟨rb, 0, none⟩), .int .i64 1000] (RB rb A l.length cap at_ 0 :: S)
      (fun v S' => ∃ (s : ByteArray) (at2 : Nat) (e2 : Int), v = .string s ∧ S' = RB rb A l.length cap at2 e2 :: S ∧ at2 ≤ l.length ∧ s.size ≤ 1000 ∧ (e2 = 0 → l.take at2 = l.take at_ ++ textB s)) :=
  (rtext_fc' (mo := 1000) hx hat hcap hb (by decide)).mono fun _ _ h => ⟨_, _, _, h.1, h.2, tkR_le (readN_le hat).2, (by show (textR 1000 l at_ 0).1.toArray.size ≤ 1000; rw [List.size_toArray]; exact Nat.le_trans (tkR_len _ _ _ _) (readN_le hat).1), once_text⟩
theorem hash1_fc {w0 : World} {S : SS} {A : Option Addr} {cap at_ rb : Nat} {l : List UInt8} (hx : Rd w0 S A (bytesC l)) (hat : at_ ≤ l.length) (hcap : l.length ≤ cap) (hb : l.length ≤ 1000000000000) :
    FC Try.prog w0 21 [.pointer (some ⟨rb, 0, none⟩)] (RB rb A l.length cap at_ 0 :: S)
      (fun v S' => ∃ (h : List UInt8) (at2 : Nat) (e2 : Int), v = .agg (bytesC h).toArray ∧ S' = RB rb A l.length cap at2 e2 :: S ∧ at2 ≤ l.length ∧ h.length = 32 ∧ (e2 = 0 → l.take at2 = l.take at_ ++ h)) :=
  (rdhash_fc hx hat hcap hb).mono fun _ _ h => ⟨_, _, _, h.1, h.2, tkR_le hat, hashR_len _ _ _, fun x => (once_hash x).2⟩
theorem label1_fc {w0 : World} {S : SS} {A : Option Addr} {cap at_ rb : Nat} {l : List UInt8} (hx : Rd w0 S A (bytesC l)) (hat : at_ ≤ l.length) (hcap : l.length ≤ cap) (hb : l.length ≤ 1000000000000) :
    FC Try.prog w0 18 [.pointer (some ⟨rb, 0, none⟩)] (RB rb A l.length cap at_ 0 :: S)
      (fun v S' => ∃ (lv : Int) (c : Nat) (at2 : Nat) (e2 : Int), v = .agg (labelC lv c).toArray ∧ S' = RB rb A l.length cap at2 e2 :: S ∧ at2 ≤ l.length ∧ c < 18446744073709551616 ∧ (e2 = 0 → l.take at2 = l.take at_ ++ labelB lv c)) :=
  (rdlabel_fc hx hat hcap hb).mono fun _ _ h => ⟨_, _, _, _, h.1, h.2, tkR_le (formN_le hat).2, (by
    unfold labelR
    simp only
    split
    · exact comp_8 _ (tkR_len _ _ _ _)
    · simp), once_label⟩
theorem vertex1_fc {w0 : World} {S : SS} {A : Option Addr} {cap at_ rb : Nat} {l : List UInt8} (hx : Rd w0 S A (bytesC l)) (hat : at_ ≤ l.length) (hcap : l.length ≤ cap) (hb : l.length ≤ 1000000000000) :
    FC Try.prog w0 25 [.pointer (some ⟨rb, 0, none⟩)] (RB rb A l.length cap at_ 0 :: S)
      (fun v S' => ∃ (h : List UInt8) (z : Int) (at2 : Nat) (e2 : Int), v = .agg (vertexC h z).toArray ∧ S' = RB rb A l.length cap at2 e2 :: S ∧ at2 ≤ l.length ∧ h.length = 32 ∧ (e2 = 0 → l.take at2 = l.take at_ ++ vertexB h z)) :=
  (rdvertex_fc hx hat hcap hb).mono fun _ _ h => ⟨_, _, _, _, h.1, h.2, (formN_le (tkR_le hat)).2, (by
    unfold vertexR
    simp only
    split
    · exact hashR_len _ _ _
    · rfl), once_vertex⟩

end Go.Proofs
