/- A log's Append. Condition: the log and its disk stand; the payload is read; the table stands. -/
import Derived.Test.YtkameiopahcacaaDoorLogA15
import Derived.Deep.RegionHeld3
set_option linter.unusedVariables false
set_option linter.unusedSimpArgs false
set_option maxRecDepth 100000
namespace Go.Proofs.YtkameiopahcacaaDoor
open Go.RowKit

/-- What Append answers, and what it leaves. -/
def AppP (w : World) (g dg : Nat) (r : Option Nat) (at_ sum next : Nat) (d : Dsk) (x : List Int) (e : Ending) (w' : World) : Prop :=
  let sm := checkN sum next x
  let res := d.put at_ (frameN next sm x)
  ∃ r', IsDisk w' dg r' res.2 ∧ Fr w r r' ∧ Kp w w' (fun k => k = g ∨ k = dg ∨ r = some k) ∧
    ((res.1 ≠ 0 ∧ e = .returned (.tuple #[.int .u32 0, .int .i64 res.1]) ∧ IsLog w' g dg at_ sum next) ∨
     (res.1 = 0 ∧ e = .returned (.tuple #[.int .u32 next, .int .i64 0]) ∧ IsLog w' g dg (at_ + 10 + x.length) sm ((next + 1) % 4294967296)))

set_option maxHeartbeats 2000000 in
theorem lappend_any (w : World) (ht : Tab w) (g dg : Nat) (r : Option Nat) (at_ sum next : Nat) (d : Dsk) (hl : IsLog w g dg at_ sum next) (hd : IsDisk w dg r d) (hok : d.ok)
    (hat : at_ ≤ 1048576) (hsum : sum < 4294967296) (hnext : next < 4294967296) (A : Option Addr) (n c : Nat) (x : List Int) (hx : x.length = n) (hrd : Rd w A n c (B8 x)) (hb : IsB x) (hn : n ≤ 65535) :
    Calls Tryd.prog 7 #[.pointer (some ⟨g, 0, none⟩), .slice A n c] w (AppP w g dg r at_ sum next d x) := by
  have hn0 := V.mk (lnone_is w g dg at_ sum next hl)
  have hck := check_any w ht sum next hsum hnext A n c x hx hrd hb (by omega)
  obtain ⟨sm, hsm⟩ : ∃ v, checkN sum next x = v := ⟨_, rfl⟩
  rw [hsm] at hck
  have hckV := V.mk hck
  have hsm32 : sm < 4294967296 := by rw [← hsm]; unfold checkN crcN; omega
  have q0 := Blk.cell' hl 0 rfl
  have q1 := Blk.cell' hl 1 rfl
  have q2 := Blk.cell' hl 2 rfl
  have q3 := Blk.cell' hl 3 rfl
  have d1 : decide ((n : Int) > 65535) = false := by simp; omega
  have d2 : decide (65535 < n) = false := by simp; omega
  have hsmV := V.mk hsm
  clear hck hsm
  go_enter Tryd.func7, Tryd.ntmps7
  go_wp2_with fail
  refine hn0.out.mono ?_
  rintro e w0 ⟨rfl, rfl⟩
  go_wp2_with fail
  refine hckV.out.mono ?_
  rintro e w1 ⟨rfl, k1⟩
  have l1 : IsLog w1 g dg at_ sum next := Blk.kp hl k1 (fun h => h)
  have p0 := Blk.cell' l1 0 rfl
  have p1 := Blk.cell' l1 1 rfl
  clear q0 q1 q2 q3 hn0 hckV
  go_wp2_with fail
  have hne : g ≠ dg := by
    obtain ⟨A0, c0, hb0, _⟩ := hd
    intro e
    subst e
    unfold IsLog Blk at hl
    unfold Blk at hb0
    rw [hl] at hb0
    simp at hb0
  have hd1 := hd.kp k1 (fun h => h) (fun _ _ h => h)
  have hrd1 := hrd.kp k1 (fun _ _ _ h => h)
  have hfr := V.mk (frame_any w1.drew next sm hnext hsm32 A n c x hx hrd1.drew (by omega))
  have hgr : r ≠ some g := by
    obtain ⟨A0, c0, hb0, hr0⟩ := hd1
    exact hr0.ne_type l1 (by decide)
  go_region_held3 (fun W => W.cell? ⟨g, 0, none⟩ = some (.pointer (some ⟨dg, 0, none⟩)) ∧ W.cell? ⟨g, 1, none⟩ = some (.int .i64 at_)) (exact ⟨by assumption, by assumption⟩)
    ((first | (go_at_call 33; refine (put_any _ dg r d hd2 hok (at_ : Int) A2 m2 c2 (frameN next sm x) hm2 hrow2.rd haw).mono ?_; rintro e w3 ⟨rfl, r3, hd3, k3, f3⟩; have l3 : IsLog w3 g dg at_ sum next := Blk.kp l2 k3 (by rintro (h | h); exact hne h; exact hgr h); have p03 := Blk.cell' l3 0 rfl; have p13 := Blk.cell' l3 1 rfl)
            | (go_at_call 34; refine hfr.out.mono ?_; rintro e w2 ⟨A2, m2, c2, r2, rfl, hm2, hrow2, hnew2, k2⟩; have hd2 := hd1.kp (Kp.of_drew k2) (fun h => h) (fun _ _ h => h); have l2 : IsLog w2 g dg at_ sum next := Blk.kp l1 (Kp.of_drew k2) (fun h => h); have p02 := Blk.cell' l2 0 rfl; have p12 := Blk.cell' l2 1 rfl; have haw : ∀ ad, A2 = some ad → frameN next sm x ≠ [] → ad.block ≠ dg ∧ r ≠ some ad.block := by
                intro ad h1 _
                obtain ⟨g2, rfl, h2⟩ := hrow2.addr_some h1
                have h3 := hnew2 g2 h2
                have h4 : dg < w1.heap.size := by
                  obtain ⟨A0, c0, hb0, _⟩ := hd1
                  exact hb0.lt
                refine ⟨fun e => ?_, fun e => ?_⟩
                · simp only at e; have : w1.drew.heap.size = w1.heap.size := rfl; omega
                · have h5 : g2 < w1.heap.size := by
                    obtain ⟨A0, c0, _, hr0⟩ := hd1
                    exact hr0.lt (by rw [e])
                  have : w1.drew.heap.size = w1.heap.size := rfl
                  omega)
            | fail "no arm"))
  have kA : Kp w w3 (fun k => k = g ∨ k = dg ∨ r = some k) :=
    ((k1.mono (fun _ h => h.elim)).trans (Kp.of_drew k2) (fun _ h => h.elim)).trans k3 (fun j h => .inl (.inr h))
  have fA : Fr w r r3 := (Fr.refl w r).trans (by have h1 := k1.size; have h2 := (Kp.of_drew k2).size; omega) f3
  obtain ⟨res, hres⟩ : ∃ v, d.put (at_ : Int) (frameN next sm x) = v := ⟨_, rfl⟩
  rw [hres] at hd3 ⊢
  obtain ⟨r1, rd⟩ := res
  have hresV := V.mk hres
  simp only at hd3 ⊢
  clear hres hfr hd1 hd2 haw hrow2 hrd1 p0 p1 p02 p12 k1 k2 k3 l1 l2
  by_cases h0 : r1 = 0
  · subst h0
    have f1 := Blk.free l3 1
    have f2 := Blk.free l3 2
    have f3' := Blk.free l3 3
    have p23 := Blk.cell' l3 2 rfl
    have p33 := Blk.cell' l3 3 rfl
    obtain ⟨m1, hm1⟩ : ∃ v : Nat, (next + 1) % 4294967296 = v := ⟨_, rfl⟩
    have hwp : IntKind.u32.wrap ((next : Int) + 1) = (m1 : Int) := by rw [IntKind.wrap_u32]; omega
    have l4 := ((Blk.set l3 1 (.int .i64 ((at_ : Int) + 10 + (n : Int)))).set 2 (.int .u32 sm)).set 3 (.int .u32 m1)
    have kg : Kp w3 (((w3.setCell ⟨g, 1, none⟩ (.int .i64 ((at_ : Int) + 10 + (n : Int)))).setCell ⟨g, 2, none⟩ (.int .u32 sm)).setCell ⟨g, 3, none⟩ (.int .u32 m1)) (fun j => j = g) :=
      (((Kp.refl w3 (fun j => j = g)).set _ _ _ (.inl rfl)).set _ _ _ (.inl rfl)).set _ _ _ (.inl rfl)
    have hd4 := hd3.kp kg (fun e => hne e.symm) (fun k h1 h2 => by
      obtain ⟨A0, c0, _, hr0⟩ := hd3
      exact hr0.ne_type l3 (by decide) (by rw [h1, h2]))
    have kB := kA.trans kg (fun j h => .inl (.inl h))
    have hm1V := V.mk hm1
    clear hm1
    go_wp2
    refine bodyPost_ret (v := .tuple #[.int .u32 next, .int .i64 0]) (by simp [results, Tryd.results7, go_sem]) rfl ?_
    unfold AppP
    dsimp only
    rw [hsmV.out, hresV.out, hm1V.out, hx]
    exact ⟨r3, hd4, fA, kB, .inr ⟨rfl, rfl, by unfold IsLog; simpa using l4⟩⟩
  · have h1 : (r1 != (0 : Int)) = true := by simpa using h0
    go_wp2
    refine bodyPost_ret (v := .tuple #[.int .u32 0, .int .i64 r1]) (by simp [results, Tryd.results7, go_sem]) rfl ?_
    unfold AppP
    dsimp only
    rw [hsmV.out, hresV.out]
    exact ⟨r3, hd3, fA, kA, .inl ⟨h0, rfl, l3⟩⟩

theorem lappend_nil (w : World) (A : Option Addr) (n c : Nat) :
    Calls Tryd.prog 7 #[.pointer none, .slice A n c] w fun e w' => e = .returned (.tuple #[.int .u32 0, .int .i64 2]) ∧ w = w' := by
  have hn0 := V.mk (lnone_nil w)
  go_enter Tryd.func7, Tryd.ntmps7
  go_wp2_with fail
  refine hn0.out.mono ?_
  rintro e w0 ⟨rfl, rfl⟩
  go_wp2
  exact bodyPost_ret (v := .tuple #[.int .u32 0, .int .i64 2]) (by simp [results, Tryd.results7, go_sem]) rfl ⟨rfl, rfl⟩
theorem lappend_long (w : World) (g dg at_ sum next : Nat) (hl : IsLog w g dg at_ sum next) (A : Option Addr) (n c : Nat) (hn : 65535 < n) :
    Calls Tryd.prog 7 #[.pointer (some ⟨g, 0, none⟩), .slice A n c] w fun e w' => e = .returned (.tuple #[.int .u32 0, .int .i64 3]) ∧ w = w' := by
  have hn0 := V.mk (lnone_is w g dg at_ sum next hl)
  have d1 : decide ((n : Int) > 65535) = true := by simp; omega
  have d2 : decide (65535 < n) = true := by simpa using hn
  go_enter Tryd.func7, Tryd.ntmps7
  go_wp2_with fail
  refine hn0.out.mono ?_
  rintro e w0 ⟨rfl, rfl⟩
  go_wp2
  exact bodyPost_ret (v := .tuple #[.int .u32 0, .int .i64 3]) (by simp [results, Tryd.results7, go_sem]) rfl ⟨rfl, rfl⟩

end Go.Proofs.YtkameiopahcacaaDoor
