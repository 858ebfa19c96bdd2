/- heap.Fix, heap.Push, heap.Pop, heap.Remove. -/
import Derived.Test.YtkigoihdmojpfaaK5
import Derived.Test.YtkigoihdmojpfaaK6
namespace Go.Proofs.Ytkigoihdmojpfaa
open Go.RowKit

theorem last_split {L : List TR} {n : Nat} {x : TR} (h : L.length = n + 1) (hx : L[n]? = some x) : L = L.take n ++ [x] := by
  obtain ⟨h1, h2⟩ := List.getElem?_eq_some_iff.1 hx
  have := List.take_succ_eq_append_getElem h1
  rw [h2] at this
  rw [← this, List.take_of_length_le (by omega)]
theorem take_perm {L M : List TR} {i n : Nat} {x : TR} (hp : M.Perm L) (hi : L[i]? = some x) (hl : M.length = n + 1) (hx : M[n]? = some x) : (M.take n).Perm (L.eraseIdx i) := by
  obtain ⟨h1, h2⟩ := List.getElem?_eq_some_iff.1 hi
  have e1 := get_cons_erase h1
  rw [h2] at e1
  have e2 : (x :: M.take n).Perm M := by
    have := last_split hl hx
    have h3 : (M.take n ++ [x]).Perm (x :: M.take n) := List.perm_append_singleton _ _
    rw [← this] at h3
    exact h3.symm
  exact List.Perm.cons_inv (e2.trans (hp.trans e1.symm))

theorem KB.trans' {S S' : List Nat} {a b c : World} (h : KB S a b) (k : KB S' b c) (hs : ∀ x ∈ S', x ∈ S ∨ a.heap.size ≤ x) : KB S a c :=
  ⟨k.os.trans h.os, k.tape.trans h.tape, k.output.trans h.output, Nat.le_trans h.size k.size, fun i hi hn => (k.block i (Nat.lt_of_lt_of_le hi h.size) (fun hm => by rcases hs i hm with h1 | h1; exact hn h1; omega)).trans (h.block i hi hn)⟩
/-- what Fix, Push leave -/
def Heaped (w W : World) (p m : Nat) (v : Value) (L : List TR) : Prop :=
  ∃ v' L', HS W p m v' L' ∧ L'.Perm L ∧ Hp ltT L' L'.length ∧ (v'.ownBlock = v.ownBlock ∨ ∃ g, v'.ownBlock = some g ∧ w.heap.size ≤ g) ∧ KB (foot p m v) w W

set_option maxRecDepth 100000 in
set_option maxHeartbeats 4000000 in
theorem down_zero (p : Nat) (w : World) :
    Calls Try.prog 54 #[.iface 70 (.pointer (some ⟨p, 0, none⟩)), .int .i64 0, .int .i64 0] w fun e w' => e = .returned (.bool false) ∧ w = w' := by
  go_enter Try.func54, Try.ntmps54
  go_wp2_with fail
  refine wp_loop_rounds 1 ?_
  rw [rounds_succ]
  go_wp2_with fail
  go_ret
  exact ⟨rfl, rfl⟩

set_option maxRecDepth 100000 in
set_option maxHeartbeats 4000000 in
theorem Fix_any (p m : Nat) (v : Value) (L : List TR) (i : Nat) (w : World) (h : HS w p m v L) (hi : i < L.length) (hl : L.length < 1000000) (ha : Ax ltT L L.length i) :
    Calls Try.prog 39 #[.iface 70 (.pointer (some ⟨p, 0, none⟩)), .int .i64 i] w fun e w' => e = .returned (.tuple #[]) ∧ Heaped w w' p m v L := by
  have m1 := mLen p
  have HD := Lib.hid (down_any p m v L L.length i w h hl (Nat.le_refl _) hi ha)
  have HL := Lib.hid (rLen_any p m v L w h)
  clear h ha
  go_enter Try.func39, Try.ntmps39
  go_upto_if 9 with (first | (go_at_call 43; (with_reducible refine HL.out.mono ?_); rintro e w' ⟨rfl, rfl⟩) | (go_at_call 54; (with_reducible refine HD.out.mono ?_); rintro e w2 hd; obtain ⟨b, L2, rfl, hT, h1, h2⟩ := hd; have HT := Lib.hid hT; have H1 := Lib.hid h1; have H2 := Lib.hid h2; clear hT h1 h2))
  cases b with
  | true =>
    go_wp2_with fail
    exact bodyPost_end (results_none rfl _ _ _) rfl ⟨rfl, v, L2, HT.out.hs, HT.out.perm, (by rw [HT.out.len]; first | exact H1.out rfl | exact H1.out trivial), .inl rfl, HT.out.kb⟩
  | false =>
    obtain ⟨rfl, hu⟩ := H2.out rfl
    have HU := Lib.hid (up_any p m v L2 L2.length i w2 HT.out.hs hl (Nat.le_refl _) hi hu)
    clear hu
    go_wp2_with (go_at_call 55; (with_reducible refine HU.out.mono ?_); rintro e w3 ⟨rfl, L3, hT3, h3⟩; have HT3 := Lib.hid hT3; have H3 := Lib.hid h3; clear hT3 h3)
    exact bodyPost_end (results_none rfl _ _ _) rfl ⟨rfl, v, L3, HT3.out.hs, HT3.out.perm, by rw [HT3.out.len]; exact H3.out, .inl rfl, HT.out.kb.trans HT3.out.kb⟩

set_option maxRecDepth 100000 in
set_option maxHeartbeats 4000000 in
theorem hPush_any (p m : Nat) (v : Value) (L : List TR) (x : TR) (w : World) (h : HS w p m v L) (hx : x.Wf) (hn : ∀ r ∈ L, ¬ (r.kind = x.kind ∧ r.addr = x.addr ∧ r.len = x.len)) (hl : L.length < 100000) (hH : Hp ltT L L.length) :
    Calls Try.prog 40 #[.iface 70 (.pointer (some ⟨p, 0, none⟩)), .iface 85 (rowV x)] w fun e w' => e = .returned (.tuple #[]) ∧ Heaped w w' p m v (L ++ [x]) := by
  have m1 := mLen p
  have m2 := mPush p
  have HP := Lib.hid (rPush_any p m v L x w h hx hn (by omega))
  have HH := Lib.hid hH
  have Hh := Lib.hid h
  clear h hx hn hH
  unfold rowV at HP ⊢
  go_enter Try.func40, Try.ntmps40
  go_upto_region 1 with (go_at_call 106; (with_reducible refine HP.out.mono ?_); rintro e w2 ⟨rfl, hP⟩; have HP2 := Lib.hid hP; clear hP)
  obtain ⟨v2, hS2, ho2, hk2⟩ := HP2.out
  have HL := Lib.hid (rLen_any p m v2 (L ++ [x]) w2 hS2)
  have HU := Lib.hid (up_any p m v2 (L ++ [x]) (L.length + 1) L.length w2 hS2 (by simp; omega) (by simp) (by omega) (Hp.ux_push HH.out))
  have hlen : (((L ++ [x]).length : Nat) : Int) = (L.length : Int) + 1 := by simp
  rw [hlen] at HL
  have HO2 := Lib.hid ho2
  have HK2 := Lib.hid hk2
  clear hS2 ho2 hk2 hlen
  go_wp2_with (first | (go_at_call 43; (with_reducible refine HL.out.mono ?_); rintro e w' ⟨rfl, rfl⟩) | (go_at_call 55; (with_reducible refine HU.out.mono ?_); rintro e w3 ⟨rfl, L3, hT3, h3⟩; have HT3 := Lib.hid hT3; have H3 := Lib.hid h3; clear hT3 h3))
  refine bodyPost_end (results_none rfl _ _ _) rfl ⟨rfl, v2, L3, HT3.out.hs, HT3.out.perm, ?_, HO2.out, HK2.out.trans' HT3.out.kb ?_⟩
  · have := HT3.out.len
    rw [this]
    simpa using H3.out
  · intro c hc
    simp [foot] at hc ⊢
    have hs := HK2.out.size
    rcases HO2.out with e | ⟨g, e, hg⟩
    · rw [e] at hc; exact .inl hc
    · rw [e] at hc
      rcases hc with h | h | h
      · exact .inl (.inl h)
      · exact .inl (.inr (.inl h))
      · simp at h; subst h; exact .inr hg

/-- what Pop, Remove leave -/
def Popped (w W : World) (p m : Nat) (v : Value) (L : List TR) (i : Nat) (x : TR) (e : Ending) : Prop :=
  e = .returned (.iface 85 (rowV x)) ∧ Heaped w W p m v (L.eraseIdx i)

theorem popped_of {w W W' : World} {p m : Nat} {v v' : Value} {L M : List TR} {i n : Nat} {x : TR} (hp : M.Perm L) (hi : L[i]? = some x) (hl : M.length = n + 1) (hx : M[n]? = some x) (hh : Hp ltT M n) (hk : KB (foot p m v) w W) (hs : HS W' p m v' (M.take n)) (ho : v'.ownBlock = v.ownBlock) (hk' : KB (foot p m v) W W') :
    Heaped w W' p m v (L.eraseIdx i) :=
  ⟨v', M.take n, hs, take_perm hp hi hl hx, hh.take (by omega), .inl ho, hk.trans hk'⟩

set_option maxRecDepth 100000 in
set_option maxHeartbeats 4000000 in
theorem hPop_any (p m : Nat) (v : Value) (L : List TR) (x : TR) (n : Nat) (w : World) (h : HS w p m v L) (hx : L[0]? = some x) (hn : L.length = n + 1) (hl : L.length < 100000) (hH : Hp ltT L L.length) :
    Calls Try.prog 42 #[.iface 70 (.pointer (some ⟨p, 0, none⟩))] w fun e w' => Popped w w' p m v L 0 x e := by
  have m1 := mLen p
  have m2 := mSwap p
  have m3 := mPop p
  have HL := Lib.hid (rLen_any p m v L w h)
  have HS1 := Lib.hid (Swap_any p m v L 0 n w h (by omega) (by omega) (by omega))
  rw [show ((0 : Nat) : Int) = 0 from rfl] at HS1
  have hnb : n < 100000 := by omega
  have hnI : ((L.length : Nat) : Int) = (n : Int) + 1 := by omega
  rw [hnI] at HL
  have Hx := Lib.hid hx
  have Hn := Lib.hid hn
  have HH := Lib.hid hH
  have Hl := Lib.hid hl
  clear h hx hH hnI hl
  have hln : (swapL L 0 n).length = n + 1 := by rw [swapL_len]; exact hn
  have hgn : (swapL L 0 n)[n]? = some x := by rw [swapL_get (by omega) (by omega), if_pos rfl]; exact Hx.out
  have HLn := Lib.hid hln
  have HGn := Lib.hid hgn
  clear hln hgn hn
  -- the last one is taken off
  have HEnd := Lib.hid (fun (W : World) (M : List TR) (hs : HS W p m v M) (hl : M.length = n + 1) (hx : M[n]? = some x) =>
    rPop_any p m v (M.take n) x W (by rw [← last_split hl hx]; exact hs) (by have := Hl.out; have := Hn.out; rw [List.length_take]; omega))
  go_enter Try.func42, Try.ntmps42
  go_upto_region 3 with (first | (go_at_call 43; (with_reducible refine HL.out.mono ?_); rintro e w' ⟨rfl, rfl⟩) | (go_at_call 107; (with_reducible refine HS1.out.mono ?_); rintro e w2 ⟨rfl, hs2, hk2⟩; have HS2 := Lib.hid hs2; have HK2 := Lib.hid hk2; clear hs2 hk2))
  by_cases h0 : n = 0
  · subst h0
    have hPop := HEnd.out w2 (swapL L 0 0) HS2.out HLn.out HGn.out
    have HPp := Lib.hid hPop
    clear hPop HEnd
    go_wp2_with (first | (go_at_call 54; (with_reducible refine (down_zero _ _).mono ?_); rintro e w' ⟨rfl, rfl⟩) | (go_at_call 105; (with_reducible refine HPp.out.mono ?_); rintro e w3 ⟨rfl, hp3⟩; have HP3 := Lib.hid hp3; clear hp3))
    go_ret
    obtain ⟨v', h1, h2, h3⟩ := HP3.out
    exact ⟨rfl, popped_of (swapL_perm L 0 0) Hx.out HLn.out HGn.out (fun k hk0 hk => by omega) HK2.out h1 h2 h3⟩
  · have HD := Lib.hid (down_any p m v (swapL L 0 n) n 0 w2 HS2.out (by have := HLn.out; have := Hl.out; have := Hn.out; omega) (by have := HLn.out; omega) (by omega) (Hp.ax_swap weakT (by rw [← Hn.out]; exact HH.out) (by have := Hn.out; omega) (by omega)))
    rw [show ((0 : Nat) : Int) = 0 from rfl] at HD
    go_upto_region 4 with (go_at_call 54; (with_reducible refine HD.out.mono ?_); rintro e w3 hd; obtain ⟨b, L2, rfl, hT, h1, h2⟩ := hd; have HT := Lib.hid hT; have H1 := Lib.hid h1; have H2 := Lib.hid h2; clear hT h1 h2)
    have hh2 : Hp ltT L2 n := by
      cases b with
      | true => exact H1.out rfl
      | false =>
        obtain ⟨rfl, hu⟩ := H2.out rfl
        exact hu.done (.inl rfl)
    have hl2 : L2.length = n + 1 := by rw [HT.out.len]; exact HLn.out
    have hx2 : L2[n]? = some x := by rw [HT.out.far n (Nat.le_refl _)]; exact HGn.out
    have HPp := Lib.hid (HEnd.out w3 L2 HT.out.hs hl2 hx2)
    have HHh := Lib.hid hh2
    have Hl2 := Lib.hid hl2
    have Hx2 := Lib.hid hx2
    clear hh2 hl2 hx2 HEnd
    go_wp2_with (go_at_call 105; (with_reducible refine HPp.out.mono ?_); rintro e w4 ⟨rfl, hp3⟩; have HP3 := Lib.hid hp3; clear hp3)
    go_ret
    obtain ⟨v', h1, h2, h3⟩ := HP3.out
    exact ⟨rfl, popped_of (HT.out.perm.trans (swapL_perm L 0 n)) Hx.out Hl2.out Hx2.out HHh.out (HK2.out.trans HT.out.kb) h1 h2 h3⟩

set_option maxRecDepth 100000 in
set_option maxHeartbeats 4000000 in
theorem hRemove_any (p m : Nat) (v : Value) (L : List TR) (x : TR) (i n : Nat) (w : World) (h : HS w p m v L) (hx : L[i]? = some x) (hn : L.length = n + 1) (hl : L.length < 100000) (hH : Hp ltT L L.length) :
    Calls Try.prog 46 #[.iface 70 (.pointer (some ⟨p, 0, none⟩)), .int .i64 i] w fun e w' => Popped w w' p m v L i x e := by
  have m1 := mLen p
  have m2 := mSwap p
  have m3 := mPop p
  have hil := (List.getElem?_eq_some_iff.1 hx).1
  have HL := Lib.hid (rLen_any p m v L w h)
  have HS1 := Lib.hid (Swap_any p m v L i n w h (by omega) (by omega) (by omega))
  have hnb : n < 100000 := by omega
  have hnI : ((L.length : Nat) : Int) = (n : Int) + 1 := by omega
  rw [hnI] at HL
  have Hx := Lib.hid hx
  have Hn := Lib.hid hn
  have HH := Lib.hid hH
  have Hl := Lib.hid hl
  have Hh := Lib.hid h
  have HEnd := Lib.hid (fun (W : World) (M : List TR) (hs : HS W p m v M) (hl : M.length = n + 1) (hx : M[n]? = some x) =>
    rPop_any p m v (M.take n) x W (by rw [← last_split hl hx]; exact hs) (by have := Hl.out; have := Hn.out; rw [List.length_take]; omega))
  clear h hx hH hnI hl
  by_cases hni : n = i
  · subst hni
    have HPp := Lib.hid (HEnd.out w L Hh.out Hn.out Hx.out)
    clear HEnd hn
    go_enter Try.func46, Try.ntmps46
    go_wp2_with (first | (go_at_call 43; (with_reducible refine HL.out.mono ?_); rintro e w' ⟨rfl, rfl⟩) | (go_at_call 105; (with_reducible refine HPp.out.mono ?_); rintro e w3 ⟨rfl, hp3⟩; have HP3 := Lib.hid hp3; clear hp3))
    go_ret
    obtain ⟨v', h1, h2, h3⟩ := HP3.out
    have hh : Hp ltT L n := fun k hk0 hk => HH.out k hk0 (by have := Hn.out; omega)
    exact ⟨rfl, popped_of (List.Perm.refl L) Hx.out Hn.out Hx.out hh (KB.refl _ _) h1 h2 h3⟩
  · have t1 : ((n : Int) != (i : Int)) = true := by simp; omega
    have hin : i < n := by omega
    have hln : (swapL L i n).length = n + 1 := by rw [swapL_len]; exact hn
    have hgn : (swapL L i n)[n]? = some x := by rw [swapL_get (by omega) (by omega), if_pos rfl]; exact Hx.out
    have HLn := Lib.hid hln
    have HGn := Lib.hid hgn
    clear hln hgn hn hni
    have HD := Lib.hid (fun W (hs : HS W p m v (swapL L i n)) => down_any p m v (swapL L i n) n i W hs (by have := HLn.out; have := Hl.out; have := Hn.out; omega) (by have := HLn.out; omega) (by omega) (Hp.ax_swap weakT (by rw [← Hn.out]; exact HH.out) (by have := Hn.out; omega) (by omega)))
    go_enter Try.func46, Try.ntmps46
    go_upto_if 20 with (first | (go_at_call 43; (with_reducible refine HL.out.mono ?_); rintro e w' ⟨rfl, rfl⟩) | (go_at_call 107; (with_reducible refine HS1.out.mono ?_); rintro e w2 ⟨rfl, hs2, hk2⟩; have HS2 := Lib.hid hs2; have HK2 := Lib.hid hk2; clear hs2 hk2) | (go_at_call 54; (with_reducible refine (HD.out _ HS2.out).mono ?_); rintro e w3 hd; obtain ⟨b, L2, rfl, hT, h1, h2⟩ := hd; have HT := Lib.hid hT; have H1 := Lib.hid h1; have H2 := Lib.hid h2; clear hT h1 h2))
    have hl2 : L2.length = n + 1 := by rw [HT.out.len]; exact HLn.out
    have hx2 : L2[n]? = some x := by rw [HT.out.far n (Nat.le_refl _)]; exact HGn.out
    have Hl2 := Lib.hid hl2
    have Hx2 := Lib.hid hx2
    clear hl2 hx2
    cases b with
    | true =>
      have HPp := Lib.hid (HEnd.out w3 L2 HT.out.hs Hl2.out Hx2.out)
      clear HEnd
      go_wp2_with (go_at_call 105; (with_reducible refine HPp.out.mono ?_); rintro e w4 ⟨rfl, hp3⟩; have HP3 := Lib.hid hp3; clear hp3)
      go_ret
      obtain ⟨v', h1, h2, h3⟩ := HP3.out
      exact ⟨rfl, popped_of (HT.out.perm.trans (swapL_perm L i n)) Hx.out Hl2.out Hx2.out (by first | exact H1.out rfl | exact H1.out trivial) (HK2.out.trans HT.out.kb) h1 h2 h3⟩
    | false =>
      obtain ⟨e2, hu⟩ := H2.out rfl
      subst e2
      have HU := Lib.hid (up_any p m v (swapL L i n) n i w3 HT.out.hs (by have := Hl2.out; have := Hl.out; have := Hn.out; omega) (by have := Hl2.out; omega) hin hu)
      clear hu
      go_upto_region 6 with (go_at_call 55; (with_reducible refine HU.out.mono ?_); rintro e w4 ⟨rfl, L3, hT3, h3⟩; have HT3 := Lib.hid hT3; have H3 := Lib.hid h3; clear hT3 h3)
      have hl3 : L3.length = n + 1 := by rw [HT3.out.len]; exact HLn.out
      have hx3 : L3[n]? = some x := by rw [HT3.out.far n hin]; exact HGn.out
      have HPp := Lib.hid (HEnd.out w4 L3 HT3.out.hs hl3 hx3)
      have Hl3 := Lib.hid hl3
      have Hx3 := Lib.hid hx3
      clear HEnd hl3 hx3
      go_wp2_with (go_at_call 105; (with_reducible refine HPp.out.mono ?_); rintro e w5 ⟨rfl, hp3⟩; have HP3 := Lib.hid hp3; clear hp3)
      go_ret
      obtain ⟨v', h1, h2, h3⟩ := HP3.out
      exact ⟨rfl, popped_of (HT3.out.perm.trans (swapL_perm L i n)) Hx.out Hl3.out Hx3.out H3.out ((HK2.out.trans HT.out.kb).trans HT3.out.kb) h1 h2 h3⟩
end Go.Proofs.Ytkigoihdmojpfaa
