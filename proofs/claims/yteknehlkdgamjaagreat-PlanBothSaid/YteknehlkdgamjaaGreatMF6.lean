/- free: the jobs that are free of one another, by a match: the walk. -/
import Derived.Test.YteknehlkdgamjaaGreatMGF
import Derived.Deep.CutRange
namespace Go.Proofs.YteknehlkdgamjaaGreat
open Go.RowKit Go.Shelf

def FreeRet (J : List Job) (w : World) (nx bf : List Int) (n : Nat) (e : Ending) (w' : World) : Prop :=
  ∃ v F G, e = .returned v ∧ FrI J nx bf F G [] J.length 0 ∧ RdI w' .i64 v (ints (frTo F G n)) ∧ Below w.heap.size w w'
set_option maxRecDepth 100000 in
set_option maxHeartbeats 8000000 in
theorem free_any (d gn gb n : Nat) (J : List Job) (nx bf : List Int) (w : World) (hd : DeskAt w d J) (hJ : FineJ J) (hn : n = J.length) (hN : HP w gn nx) (hF : HP w gb bf) (hm : MatI J nx bf n) :
    Calls Tryz.prog 73 #[.pointer (some ⟨d, 0, none⟩), .slice (some ⟨gn, 0, none⟩) n n, .slice (some ⟨gb, 0, none⟩) n n] w (FreeRet J w nx bf n) := by
  obtain ⟨a, c, g, cg, hz, h1, _⟩ := hd.get
  have h12 := hJ.n12
  have HN := Lib.hid hn; have HNX := Lib.hid hN; have HBF := Lib.hid hF; have HM := Lib.hid hm; have HD := Lib.hid hd
  rw [← hn] at h1 h12
  clear hd hJ hn hN hF hm
  unfold FreeRet
  go_enter Tryz.func73, Tryz.ntmps73
  go_upto_region 1 with fail
  go_cut [7, 8] from 18 (FrCut w n)
  case first =>
    refine wp_region_U [0, 1, 2, 3, 4, 5, 7, 8, 9, 10, 11, 12] [] (by kernel_rfl) (by kernel_rfl) ?_
    intro wc hBc hh
    clear hh
    have HBc := Lib.hid hBc
    have hL := @Later.cell wc
    have k1 := (hBc.cell (p := ⟨d, 0, none⟩) hz).trans h1
    have z1 := Nat.lt_of_lt_of_le hz hBc.size
    have H := Lib.hid (FrP.start wc n)
    clear hBc h1 hz HN HNX HBF HM HD
    refine U_heads [0, 1, 2, 3, 4, 5, 7, 8, 9, 10, 11, 12] (by kernel_rfl) ⟨⟨_, bz _⟩, rfl⟩ ?_
    simp only [pickL, List.getElem?_cons_succ, List.getElem?_cons_zero]
    repeat (go_big_quiet_step (fail))
    refine wpQuiet_nil ?_
    clear hL k1 z1
    refine U_all [6, 13, 14, 15] (by kernel_rfl) ?_
    intro c hc
    simp only [List.mem_cons, List.not_mem_nil, or_false] at hc
    rcases hc with rfl | rfl | rfl | rfl
    · simp only [pickL, List.getElem?_cons_succ, List.getElem?_cons_zero]
      refine wpList_make_ints rfl (.tmp 23) (.tmp 23) rfl n rfl rfl (by omega) ?_
      intro w21 hr hg
      have H := Lib.hid (H.out.mF hr hg)
      clear hr hg
      go_wp2
      refine seg_grow ⟨⟨_, H.out.bel⟩, rfl⟩ ?_
      refine U_all [13, 14, 15] (by kernel_rfl) ?_
      intro c hc
      simp only [List.mem_cons, List.not_mem_nil, or_false] at hc
      rcases hc with rfl | rfl | rfl
      · simp only [pickL, List.getElem?_cons_succ, List.getElem?_cons_zero]
        refine wpList_make_ints rfl (.tmp 30) (.tmp 30) rfl n rfl rfl (by omega) ?_
        intro w22 hr hg
        have H := Lib.hid (H.out.mG hr hg)
        clear hr hg
        go_wp2
        refine seg_grow ⟨⟨_, H.out.bel⟩, rfl⟩ ?_
        refine U_all [14, 15] (by kernel_rfl) ?_
        intro c hc
        simp only [List.mem_cons, List.not_mem_nil, or_false] at hc
        rcases hc with rfl | rfl
        · simp only [pickL, List.getElem?_cons_succ, List.getElem?_cons_zero]
          have H := Lib.hid H.out.aF
          go_wp2
          generalize w22.alloc _ = w23 at *
          refine seg_grow ⟨⟨_, H.out.bel⟩, rfl⟩ ?_
          refine U_one 15 (by kernel_rfl) ?_
          simp only [pickL, List.getElem?_cons_succ, List.getElem?_cons_zero]
          have H := Lib.hid H.out.aG
          go_wp2
          generalize w23.alloc _ = w24 at *
          refine seg_grow ⟨⟨_, H.out.bel⟩, rfl⟩ ?_
          refine U_one 16 (by kernel_rfl) ?_
          simp only [pickL, List.getElem?_cons_succ, List.getElem?_cons_zero]
          have c0 := H.out.cF'; have f0 := H.out.fF; have z0 := H.out.zF
          have H := Lib.hid H.out.stF
          go_wp2
          generalize w24.setCell _ _ = w25 at *
          clear c0 f0 z0
          refine seg_grow ⟨⟨_, H.out.bel⟩, rfl⟩ ?_
          refine U_one 17 (by kernel_rfl) ?_
          simp only [pickL, List.getElem?_cons_succ, List.getElem?_cons_zero]
          have c0 := H.out.cG'; have f0 := H.out.fG; have z0 := H.out.zG
          have H := Lib.hid H.out.stG
          go_wp2
          generalize w25.setCell _ _ = w26 at *
          clear c0 f0 z0
          refine seg_grow ⟨⟨_, H.out.bel⟩, rfl⟩ ?_
          refine U_done (by kernel_rfl) ?_
          go_wp2
          go_meet
          case rel => exact H.out.fin HBc.out
        · simp only [pickL, List.getElem?_cons_succ, List.getElem?_cons_zero]
          have H := Lib.hid H.out.aG
          go_wp2
          generalize w22.alloc _ = w23 at *
          refine seg_grow ⟨⟨_, H.out.bel⟩, rfl⟩ ?_
          refine U_one 14 (by kernel_rfl) ?_
          simp only [pickL, List.getElem?_cons_succ, List.getElem?_cons_zero]
          have H := Lib.hid H.out.aF
          go_wp2
          generalize w23.alloc _ = w24 at *
          refine seg_grow ⟨⟨_, H.out.bel⟩, rfl⟩ ?_
          refine U_one 16 (by kernel_rfl) ?_
          simp only [pickL, List.getElem?_cons_succ, List.getElem?_cons_zero]
          have c0 := H.out.cF'; have f0 := H.out.fF; have z0 := H.out.zF
          have H := Lib.hid H.out.stF
          go_wp2
          generalize w24.setCell _ _ = w25 at *
          clear c0 f0 z0
          refine seg_grow ⟨⟨_, H.out.bel⟩, rfl⟩ ?_
          refine U_one 17 (by kernel_rfl) ?_
          simp only [pickL, List.getElem?_cons_succ, List.getElem?_cons_zero]
          have c0 := H.out.cG'; have f0 := H.out.fG; have z0 := H.out.zG
          have H := Lib.hid H.out.stG
          go_wp2
          generalize w25.setCell _ _ = w26 at *
          clear c0 f0 z0
          refine seg_grow ⟨⟨_, H.out.bel⟩, rfl⟩ ?_
          refine U_done (by kernel_rfl) ?_
          go_wp2
          go_meet
          case rel => exact H.out.fin HBc.out
      · simp only [pickL, List.getElem?_cons_succ, List.getElem?_cons_zero]
        have H := Lib.hid H.out.aF
        go_wp2
        generalize w21.alloc _ = w22 at *
        refine seg_grow ⟨⟨_, H.out.bel⟩, rfl⟩ ?_
        refine U_all [13, 15] (by kernel_rfl) ?_
        intro c hc
        simp only [List.mem_cons, List.not_mem_nil, or_false] at hc
        rcases hc with rfl | rfl
        · simp only [pickL, List.getElem?_cons_succ, List.getElem?_cons_zero]
          refine wpList_make_ints rfl (.tmp 30) (.tmp 30) rfl n rfl rfl (by omega) ?_
          intro w23 hr hg
          have H := Lib.hid (H.out.mG hr hg)
          clear hr hg
          go_wp2
          refine seg_grow ⟨⟨_, H.out.bel⟩, rfl⟩ ?_
          refine U_one 15 (by kernel_rfl) ?_
          simp only [pickL, List.getElem?_cons_succ, List.getElem?_cons_zero]
          have H := Lib.hid H.out.aG
          go_wp2
          generalize w23.alloc _ = w24 at *
          refine seg_grow ⟨⟨_, H.out.bel⟩, rfl⟩ ?_
          refine U_one 16 (by kernel_rfl) ?_
          simp only [pickL, List.getElem?_cons_succ, List.getElem?_cons_zero]
          have c0 := H.out.cF'; have f0 := H.out.fF; have z0 := H.out.zF
          have H := Lib.hid H.out.stF
          go_wp2
          generalize w24.setCell _ _ = w25 at *
          clear c0 f0 z0
          refine seg_grow ⟨⟨_, H.out.bel⟩, rfl⟩ ?_
          refine U_one 17 (by kernel_rfl) ?_
          simp only [pickL, List.getElem?_cons_succ, List.getElem?_cons_zero]
          have c0 := H.out.cG'; have f0 := H.out.fG; have z0 := H.out.zG
          have H := Lib.hid H.out.stG
          go_wp2
          generalize w25.setCell _ _ = w26 at *
          clear c0 f0 z0
          refine seg_grow ⟨⟨_, H.out.bel⟩, rfl⟩ ?_
          refine U_done (by kernel_rfl) ?_
          go_wp2
          go_meet
          case rel => exact H.out.fin HBc.out
        · simp only [pickL, List.getElem?_cons_succ, List.getElem?_cons_zero]
          have H := Lib.hid H.out.aG
          go_wp2
          generalize w22.alloc _ = w23 at *
          refine seg_grow ⟨⟨_, H.out.bel⟩, rfl⟩ ?_
          refine U_all [13, 16] (by kernel_rfl) ?_
          intro c hc
          simp only [List.mem_cons, List.not_mem_nil, or_false] at hc
          rcases hc with rfl | rfl
          · simp only [pickL, List.getElem?_cons_succ, List.getElem?_cons_zero]
            refine wpList_make_ints rfl (.tmp 30) (.tmp 30) rfl n rfl rfl (by omega) ?_
            intro w24 hr hg
            have H := Lib.hid (H.out.mG hr hg)
            clear hr hg
            go_wp2
            refine seg_grow ⟨⟨_, H.out.bel⟩, rfl⟩ ?_
            refine U_one 16 (by kernel_rfl) ?_
            simp only [pickL, List.getElem?_cons_succ, List.getElem?_cons_zero]
            have c0 := H.out.cF'; have f0 := H.out.fF; have z0 := H.out.zF
            have H := Lib.hid H.out.stF
            go_wp2
            generalize w24.setCell _ _ = w25 at *
            clear c0 f0 z0
            refine seg_grow ⟨⟨_, H.out.bel⟩, rfl⟩ ?_
            refine U_one 17 (by kernel_rfl) ?_
            simp only [pickL, List.getElem?_cons_succ, List.getElem?_cons_zero]
            have c0 := H.out.cG'; have f0 := H.out.fG; have z0 := H.out.zG
            have H := Lib.hid H.out.stG
            go_wp2
            generalize w25.setCell _ _ = w26 at *
            clear c0 f0 z0
            refine seg_grow ⟨⟨_, H.out.bel⟩, rfl⟩ ?_
            refine U_done (by kernel_rfl) ?_
            go_wp2
            go_meet
            case rel => exact H.out.fin HBc.out
          · simp only [pickL, List.getElem?_cons_succ, List.getElem?_cons_zero]
            have c0 := H.out.cF'; have f0 := H.out.fF; have z0 := H.out.zF
            have H := Lib.hid H.out.stF
            go_wp2
            generalize w23.setCell _ _ = w24 at *
            clear c0 f0 z0
            refine seg_grow ⟨⟨_, H.out.bel⟩, rfl⟩ ?_
            refine U_one 13 (by kernel_rfl) ?_
            simp only [pickL, List.getElem?_cons_succ, List.getElem?_cons_zero]
            refine wpList_make_ints rfl (.tmp 30) (.tmp 30) rfl n rfl rfl (by omega) ?_
            intro w25 hr hg
            have H := Lib.hid (H.out.mG hr hg)
            clear hr hg
            go_wp2
            refine seg_grow ⟨⟨_, H.out.bel⟩, rfl⟩ ?_
            refine U_one 17 (by kernel_rfl) ?_
            simp only [pickL, List.getElem?_cons_succ, List.getElem?_cons_zero]
            have c0 := H.out.cG'; have f0 := H.out.fG; have z0 := H.out.zG
            have H := Lib.hid H.out.stG
            go_wp2
            generalize w25.setCell _ _ = w26 at *
            clear c0 f0 z0
            refine seg_grow ⟨⟨_, H.out.bel⟩, rfl⟩ ?_
            refine U_done (by kernel_rfl) ?_
            go_wp2
            go_meet
            case rel => exact H.out.fin HBc.out
      · simp only [pickL, List.getElem?_cons_succ, List.getElem?_cons_zero]
        have H := Lib.hid H.out.aG
        go_wp2
        generalize w21.alloc _ = w22 at *
        refine seg_grow ⟨⟨_, H.out.bel⟩, rfl⟩ ?_
        refine U_all [13, 14] (by kernel_rfl) ?_
        intro c hc
        simp only [List.mem_cons, List.not_mem_nil, or_false] at hc
        rcases hc with rfl | rfl
        · simp only [pickL, List.getElem?_cons_succ, List.getElem?_cons_zero]
          refine wpList_make_ints rfl (.tmp 30) (.tmp 30) rfl n rfl rfl (by omega) ?_
          intro w23 hr hg
          have H := Lib.hid (H.out.mG hr hg)
          clear hr hg
          go_wp2
          refine seg_grow ⟨⟨_, H.out.bel⟩, rfl⟩ ?_
          refine U_one 14 (by kernel_rfl) ?_
          simp only [pickL, List.getElem?_cons_succ, List.getElem?_cons_zero]
          have H := Lib.hid H.out.aF
          go_wp2
          generalize w23.alloc _ = w24 at *
          refine seg_grow ⟨⟨_, H.out.bel⟩, rfl⟩ ?_
          refine U_one 16 (by kernel_rfl) ?_
          simp only [pickL, List.getElem?_cons_succ, List.getElem?_cons_zero]
          have c0 := H.out.cF'; have f0 := H.out.fF; have z0 := H.out.zF
          have H := Lib.hid H.out.stF
          go_wp2
          generalize w24.setCell _ _ = w25 at *
          clear c0 f0 z0
          refine seg_grow ⟨⟨_, H.out.bel⟩, rfl⟩ ?_
          refine U_one 17 (by kernel_rfl) ?_
          simp only [pickL, List.getElem?_cons_succ, List.getElem?_cons_zero]
          have c0 := H.out.cG'; have f0 := H.out.fG; have z0 := H.out.zG
          have H := Lib.hid H.out.stG
          go_wp2
          generalize w25.setCell _ _ = w26 at *
          clear c0 f0 z0
          refine seg_grow ⟨⟨_, H.out.bel⟩, rfl⟩ ?_
          refine U_done (by kernel_rfl) ?_
          go_wp2
          go_meet
          case rel => exact H.out.fin HBc.out
        · simp only [pickL, List.getElem?_cons_succ, List.getElem?_cons_zero]
          have H := Lib.hid H.out.aF
          go_wp2
          generalize w22.alloc _ = w23 at *
          refine seg_grow ⟨⟨_, H.out.bel⟩, rfl⟩ ?_
          refine U_all [13, 16] (by kernel_rfl) ?_
          intro c hc
          simp only [List.mem_cons, List.not_mem_nil, or_false] at hc
          rcases hc with rfl | rfl
          · simp only [pickL, List.getElem?_cons_succ, List.getElem?_cons_zero]
            refine wpList_make_ints rfl (.tmp 30) (.tmp 30) rfl n rfl rfl (by omega) ?_
            intro w24 hr hg
            have H := Lib.hid (H.out.mG hr hg)
            clear hr hg
            go_wp2
            refine seg_grow ⟨⟨_, H.out.bel⟩, rfl⟩ ?_
            refine U_one 16 (by kernel_rfl) ?_
            simp only [pickL, List.getElem?_cons_succ, List.getElem?_cons_zero]
            have c0 := H.out.cF'; have f0 := H.out.fF; have z0 := H.out.zF
            have H := Lib.hid H.out.stF
            go_wp2
            generalize w24.setCell _ _ = w25 at *
            clear c0 f0 z0
            refine seg_grow ⟨⟨_, H.out.bel⟩, rfl⟩ ?_
            refine U_one 17 (by kernel_rfl) ?_
            simp only [pickL, List.getElem?_cons_succ, List.getElem?_cons_zero]
            have c0 := H.out.cG'; have f0 := H.out.fG; have z0 := H.out.zG
            have H := Lib.hid H.out.stG
            go_wp2
            generalize w25.setCell _ _ = w26 at *
            clear c0 f0 z0
            refine seg_grow ⟨⟨_, H.out.bel⟩, rfl⟩ ?_
            refine U_done (by kernel_rfl) ?_
            go_wp2
            go_meet
            case rel => exact H.out.fin HBc.out
          · simp only [pickL, List.getElem?_cons_succ, List.getElem?_cons_zero]
            have c0 := H.out.cF'; have f0 := H.out.fF; have z0 := H.out.zF
            have H := Lib.hid H.out.stF
            go_wp2
            generalize w23.setCell _ _ = w24 at *
            clear c0 f0 z0
            refine seg_grow ⟨⟨_, H.out.bel⟩, rfl⟩ ?_
            refine U_one 13 (by kernel_rfl) ?_
            simp only [pickL, List.getElem?_cons_succ, List.getElem?_cons_zero]
            refine wpList_make_ints rfl (.tmp 30) (.tmp 30) rfl n rfl rfl (by omega) ?_
            intro w25 hr hg
            have H := Lib.hid (H.out.mG hr hg)
            clear hr hg
            go_wp2
            refine seg_grow ⟨⟨_, H.out.bel⟩, rfl⟩ ?_
            refine U_one 17 (by kernel_rfl) ?_
            simp only [pickL, List.getElem?_cons_succ, List.getElem?_cons_zero]
            have c0 := H.out.cG'; have f0 := H.out.fG; have z0 := H.out.zG
            have H := Lib.hid H.out.stG
            go_wp2
            generalize w25.setCell _ _ = w26 at *
            clear c0 f0 z0
            refine seg_grow ⟨⟨_, H.out.bel⟩, rfl⟩ ?_
            refine U_done (by kernel_rfl) ?_
            go_wp2
            go_meet
            case rel => exact H.out.fin HBc.out
    · simp only [pickL, List.getElem?_cons_succ, List.getElem?_cons_zero]
      refine wpList_make_ints rfl (.tmp 30) (.tmp 30) rfl n rfl rfl (by omega) ?_
      intro w21 hr hg
      have H := Lib.hid (H.out.mG hr hg)
      clear hr hg
      go_wp2
      refine seg_grow ⟨⟨_, H.out.bel⟩, rfl⟩ ?_
      refine U_all [6, 14, 15] (by kernel_rfl) ?_
      intro c hc
      simp only [List.mem_cons, List.not_mem_nil, or_false] at hc
      rcases hc with rfl | rfl | rfl
      · simp only [pickL, List.getElem?_cons_succ, List.getElem?_cons_zero]
        refine wpList_make_ints rfl (.tmp 23) (.tmp 23) rfl n rfl rfl (by omega) ?_
        intro w22 hr hg
        have H := Lib.hid (H.out.mF hr hg)
        clear hr hg
        go_wp2
        refine seg_grow ⟨⟨_, H.out.bel⟩, rfl⟩ ?_
        refine U_all [14, 15] (by kernel_rfl) ?_
        intro c hc
        simp only [List.mem_cons, List.not_mem_nil, or_false] at hc
        rcases hc with rfl | rfl
        · simp only [pickL, List.getElem?_cons_succ, List.getElem?_cons_zero]
          have H := Lib.hid H.out.aF
          go_wp2
          generalize w22.alloc _ = w23 at *
          refine seg_grow ⟨⟨_, H.out.bel⟩, rfl⟩ ?_
          refine U_one 15 (by kernel_rfl) ?_
          simp only [pickL, List.getElem?_cons_succ, List.getElem?_cons_zero]
          have H := Lib.hid H.out.aG
          go_wp2
          generalize w23.alloc _ = w24 at *
          refine seg_grow ⟨⟨_, H.out.bel⟩, rfl⟩ ?_
          refine U_one 16 (by kernel_rfl) ?_
          simp only [pickL, List.getElem?_cons_succ, List.getElem?_cons_zero]
          have c0 := H.out.cF'; have f0 := H.out.fF; have z0 := H.out.zF
          have H := Lib.hid H.out.stF
          go_wp2
          generalize w24.setCell _ _ = w25 at *
          clear c0 f0 z0
          refine seg_grow ⟨⟨_, H.out.bel⟩, rfl⟩ ?_
          refine U_one 17 (by kernel_rfl) ?_
          simp only [pickL, List.getElem?_cons_succ, List.getElem?_cons_zero]
          have c0 := H.out.cG'; have f0 := H.out.fG; have z0 := H.out.zG
          have H := Lib.hid H.out.stG
          go_wp2
          generalize w25.setCell _ _ = w26 at *
          clear c0 f0 z0
          refine seg_grow ⟨⟨_, H.out.bel⟩, rfl⟩ ?_
          refine U_done (by kernel_rfl) ?_
          go_wp2
          go_meet
          case rel => exact H.out.fin HBc.out
        · simp only [pickL, List.getElem?_cons_succ, List.getElem?_cons_zero]
          have H := Lib.hid H.out.aG
          go_wp2
          generalize w22.alloc _ = w23 at *
          refine seg_grow ⟨⟨_, H.out.bel⟩, rfl⟩ ?_
          refine U_one 14 (by kernel_rfl) ?_
          simp only [pickL, List.getElem?_cons_succ, List.getElem?_cons_zero]
          have H := Lib.hid H.out.aF
          go_wp2
          generalize w23.alloc _ = w24 at *
          refine seg_grow ⟨⟨_, H.out.bel⟩, rfl⟩ ?_
          refine U_one 16 (by kernel_rfl) ?_
          simp only [pickL, List.getElem?_cons_succ, List.getElem?_cons_zero]
          have c0 := H.out.cF'; have f0 := H.out.fF; have z0 := H.out.zF
          have H := Lib.hid H.out.stF
          go_wp2
          generalize w24.setCell _ _ = w25 at *
          clear c0 f0 z0
          refine seg_grow ⟨⟨_, H.out.bel⟩, rfl⟩ ?_
          refine U_one 17 (by kernel_rfl) ?_
          simp only [pickL, List.getElem?_cons_succ, List.getElem?_cons_zero]
          have c0 := H.out.cG'; have f0 := H.out.fG; have z0 := H.out.zG
          have H := Lib.hid H.out.stG
          go_wp2
          generalize w25.setCell _ _ = w26 at *
          clear c0 f0 z0
          refine seg_grow ⟨⟨_, H.out.bel⟩, rfl⟩ ?_
          refine U_done (by kernel_rfl) ?_
          go_wp2
          go_meet
          case rel => exact H.out.fin HBc.out
      · simp only [pickL, List.getElem?_cons_succ, List.getElem?_cons_zero]
        have H := Lib.hid H.out.aF
        go_wp2
        generalize w21.alloc _ = w22 at *
        refine seg_grow ⟨⟨_, H.out.bel⟩, rfl⟩ ?_
        refine U_all [6, 15] (by kernel_rfl) ?_
        intro c hc
        simp only [List.mem_cons, List.not_mem_nil, or_false] at hc
        rcases hc with rfl | rfl
        · simp only [pickL, List.getElem?_cons_succ, List.getElem?_cons_zero]
          refine wpList_make_ints rfl (.tmp 23) (.tmp 23) rfl n rfl rfl (by omega) ?_
          intro w23 hr hg
          have H := Lib.hid (H.out.mF hr hg)
          clear hr hg
          go_wp2
          refine seg_grow ⟨⟨_, H.out.bel⟩, rfl⟩ ?_
          refine U_one 15 (by kernel_rfl) ?_
          simp only [pickL, List.getElem?_cons_succ, List.getElem?_cons_zero]
          have H := Lib.hid H.out.aG
          go_wp2
          generalize w23.alloc _ = w24 at *
          refine seg_grow ⟨⟨_, H.out.bel⟩, rfl⟩ ?_
          refine U_one 16 (by kernel_rfl) ?_
          simp only [pickL, List.getElem?_cons_succ, List.getElem?_cons_zero]
          have c0 := H.out.cF'; have f0 := H.out.fF; have z0 := H.out.zF
          have H := Lib.hid H.out.stF
          go_wp2
          generalize w24.setCell _ _ = w25 at *
          clear c0 f0 z0
          refine seg_grow ⟨⟨_, H.out.bel⟩, rfl⟩ ?_
          refine U_one 17 (by kernel_rfl) ?_
          simp only [pickL, List.getElem?_cons_succ, List.getElem?_cons_zero]
          have c0 := H.out.cG'; have f0 := H.out.fG; have z0 := H.out.zG
          have H := Lib.hid H.out.stG
          go_wp2
          generalize w25.setCell _ _ = w26 at *
          clear c0 f0 z0
          refine seg_grow ⟨⟨_, H.out.bel⟩, rfl⟩ ?_
          refine U_done (by kernel_rfl) ?_
          go_wp2
          go_meet
          case rel => exact H.out.fin HBc.out
        · simp only [pickL, List.getElem?_cons_succ, List.getElem?_cons_zero]
          have H := Lib.hid H.out.aG
          go_wp2
          generalize w22.alloc _ = w23 at *
          refine seg_grow ⟨⟨_, H.out.bel⟩, rfl⟩ ?_
          refine U_one 6 (by kernel_rfl) ?_
          simp only [pickL, List.getElem?_cons_succ, List.getElem?_cons_zero]
          refine wpList_make_ints rfl (.tmp 23) (.tmp 23) rfl n rfl rfl (by omega) ?_
          intro w24 hr hg
          have H := Lib.hid (H.out.mF hr hg)
          clear hr hg
          go_wp2
          refine seg_grow ⟨⟨_, H.out.bel⟩, rfl⟩ ?_
          refine U_one 16 (by kernel_rfl) ?_
          simp only [pickL, List.getElem?_cons_succ, List.getElem?_cons_zero]
          have c0 := H.out.cF'; have f0 := H.out.fF; have z0 := H.out.zF
          have H := Lib.hid H.out.stF
          go_wp2
          generalize w24.setCell _ _ = w25 at *
          clear c0 f0 z0
          refine seg_grow ⟨⟨_, H.out.bel⟩, rfl⟩ ?_
          refine U_one 17 (by kernel_rfl) ?_
          simp only [pickL, List.getElem?_cons_succ, List.getElem?_cons_zero]
          have c0 := H.out.cG'; have f0 := H.out.fG; have z0 := H.out.zG
          have H := Lib.hid H.out.stG
          go_wp2
          generalize w25.setCell _ _ = w26 at *
          clear c0 f0 z0
          refine seg_grow ⟨⟨_, H.out.bel⟩, rfl⟩ ?_
          refine U_done (by kernel_rfl) ?_
          go_wp2
          go_meet
          case rel => exact H.out.fin HBc.out
      · simp only [pickL, List.getElem?_cons_succ, List.getElem?_cons_zero]
        have H := Lib.hid H.out.aG
        go_wp2
        generalize w21.alloc _ = w22 at *
        refine seg_grow ⟨⟨_, H.out.bel⟩, rfl⟩ ?_
        refine U_all [6, 14] (by kernel_rfl) ?_
        intro c hc
        simp only [List.mem_cons, List.not_mem_nil, or_false] at hc
        rcases hc with rfl | rfl
        · simp only [pickL, List.getElem?_cons_succ, List.getElem?_cons_zero]
          refine wpList_make_ints rfl (.tmp 23) (.tmp 23) rfl n rfl rfl (by omega) ?_
          intro w23 hr hg
          have H := Lib.hid (H.out.mF hr hg)
          clear hr hg
          go_wp2
          refine seg_grow ⟨⟨_, H.out.bel⟩, rfl⟩ ?_
          refine U_one 14 (by kernel_rfl) ?_
          simp only [pickL, List.getElem?_cons_succ, List.getElem?_cons_zero]
          have H := Lib.hid H.out.aF
          go_wp2
          generalize w23.alloc _ = w24 at *
          refine seg_grow ⟨⟨_, H.out.bel⟩, rfl⟩ ?_
          refine U_one 16 (by kernel_rfl) ?_
          simp only [pickL, List.getElem?_cons_succ, List.getElem?_cons_zero]
          have c0 := H.out.cF'; have f0 := H.out.fF; have z0 := H.out.zF
          have H := Lib.hid H.out.stF
          go_wp2
          generalize w24.setCell _ _ = w25 at *
          clear c0 f0 z0
          refine seg_grow ⟨⟨_, H.out.bel⟩, rfl⟩ ?_
          refine U_one 17 (by kernel_rfl) ?_
          simp only [pickL, List.getElem?_cons_succ, List.getElem?_cons_zero]
          have c0 := H.out.cG'; have f0 := H.out.fG; have z0 := H.out.zG
          have H := Lib.hid H.out.stG
          go_wp2
          generalize w25.setCell _ _ = w26 at *
          clear c0 f0 z0
          refine seg_grow ⟨⟨_, H.out.bel⟩, rfl⟩ ?_
          refine U_done (by kernel_rfl) ?_
          go_wp2
          go_meet
          case rel => exact H.out.fin HBc.out
        · simp only [pickL, List.getElem?_cons_succ, List.getElem?_cons_zero]
          have H := Lib.hid H.out.aF
          go_wp2
          generalize w22.alloc _ = w23 at *
          refine seg_grow ⟨⟨_, H.out.bel⟩, rfl⟩ ?_
          refine U_one 6 (by kernel_rfl) ?_
          simp only [pickL, List.getElem?_cons_succ, List.getElem?_cons_zero]
          refine wpList_make_ints rfl (.tmp 23) (.tmp 23) rfl n rfl rfl (by omega) ?_
          intro w24 hr hg
          have H := Lib.hid (H.out.mF hr hg)
          clear hr hg
          go_wp2
          refine seg_grow ⟨⟨_, H.out.bel⟩, rfl⟩ ?_
          refine U_one 16 (by kernel_rfl) ?_
          simp only [pickL, List.getElem?_cons_succ, List.getElem?_cons_zero]
          have c0 := H.out.cF'; have f0 := H.out.fF; have z0 := H.out.zF
          have H := Lib.hid H.out.stF
          go_wp2
          generalize w24.setCell _ _ = w25 at *
          clear c0 f0 z0
          refine seg_grow ⟨⟨_, H.out.bel⟩, rfl⟩ ?_
          refine U_one 17 (by kernel_rfl) ?_
          simp only [pickL, List.getElem?_cons_succ, List.getElem?_cons_zero]
          have c0 := H.out.cG'; have f0 := H.out.fG; have z0 := H.out.zG
          have H := Lib.hid H.out.stG
          go_wp2
          generalize w25.setCell _ _ = w26 at *
          clear c0 f0 z0
          refine seg_grow ⟨⟨_, H.out.bel⟩, rfl⟩ ?_
          refine U_done (by kernel_rfl) ?_
          go_wp2
          go_meet
          case rel => exact H.out.fin HBc.out
    · simp only [pickL, List.getElem?_cons_succ, List.getElem?_cons_zero]
      have H := Lib.hid H.out.aF
      go_wp2
      generalize wc.alloc _ = w21 at *
      refine seg_grow ⟨⟨_, H.out.bel⟩, rfl⟩ ?_
      refine U_all [6, 13, 15] (by kernel_rfl) ?_
      intro c hc
      simp only [List.mem_cons, List.not_mem_nil, or_false] at hc
      rcases hc with rfl | rfl | rfl
      · simp only [pickL, List.getElem?_cons_succ, List.getElem?_cons_zero]
        refine wpList_make_ints rfl (.tmp 23) (.tmp 23) rfl n rfl rfl (by omega) ?_
        intro w22 hr hg
        have H := Lib.hid (H.out.mF hr hg)
        clear hr hg
        go_wp2
        refine seg_grow ⟨⟨_, H.out.bel⟩, rfl⟩ ?_
        refine U_all [13, 15] (by kernel_rfl) ?_
        intro c hc
        simp only [List.mem_cons, List.not_mem_nil, or_false] at hc
        rcases hc with rfl | rfl
        · simp only [pickL, List.getElem?_cons_succ, List.getElem?_cons_zero]
          refine wpList_make_ints rfl (.tmp 30) (.tmp 30) rfl n rfl rfl (by omega) ?_
          intro w23 hr hg
          have H := Lib.hid (H.out.mG hr hg)
          clear hr hg
          go_wp2
          refine seg_grow ⟨⟨_, H.out.bel⟩, rfl⟩ ?_
          refine U_one 15 (by kernel_rfl) ?_
          simp only [pickL, List.getElem?_cons_succ, List.getElem?_cons_zero]
          have H := Lib.hid H.out.aG
          go_wp2
          generalize w23.alloc _ = w24 at *
          refine seg_grow ⟨⟨_, H.out.bel⟩, rfl⟩ ?_
          refine U_one 16 (by kernel_rfl) ?_
          simp only [pickL, List.getElem?_cons_succ, List.getElem?_cons_zero]
          have c0 := H.out.cF'; have f0 := H.out.fF; have z0 := H.out.zF
          have H := Lib.hid H.out.stF
          go_wp2
          generalize w24.setCell _ _ = w25 at *
          clear c0 f0 z0
          refine seg_grow ⟨⟨_, H.out.bel⟩, rfl⟩ ?_
          refine U_one 17 (by kernel_rfl) ?_
          simp only [pickL, List.getElem?_cons_succ, List.getElem?_cons_zero]
          have c0 := H.out.cG'; have f0 := H.out.fG; have z0 := H.out.zG
          have H := Lib.hid H.out.stG
          go_wp2
          generalize w25.setCell _ _ = w26 at *
          clear c0 f0 z0
          refine seg_grow ⟨⟨_, H.out.bel⟩, rfl⟩ ?_
          refine U_done (by kernel_rfl) ?_
          go_wp2
          go_meet
          case rel => exact H.out.fin HBc.out
        · simp only [pickL, List.getElem?_cons_succ, List.getElem?_cons_zero]
          have H := Lib.hid H.out.aG
          go_wp2
          generalize w22.alloc _ = w23 at *
          refine seg_grow ⟨⟨_, H.out.bel⟩, rfl⟩ ?_
          refine U_all [13, 16] (by kernel_rfl) ?_
          intro c hc
          simp only [List.mem_cons, List.not_mem_nil, or_false] at hc
          rcases hc with rfl | rfl
          · simp only [pickL, List.getElem?_cons_succ, List.getElem?_cons_zero]
            refine wpList_make_ints rfl (.tmp 30) (.tmp 30) rfl n rfl rfl (by omega) ?_
            intro w24 hr hg
            have H := Lib.hid (H.out.mG hr hg)
            clear hr hg
            go_wp2
            refine seg_grow ⟨⟨_, H.out.bel⟩, rfl⟩ ?_
            refine U_one 16 (by kernel_rfl) ?_
            simp only [pickL, List.getElem?_cons_succ, List.getElem?_cons_zero]
            have c0 := H.out.cF'; have f0 := H.out.fF; have z0 := H.out.zF
            have H := Lib.hid H.out.stF
            go_wp2
            generalize w24.setCell _ _ = w25 at *
            clear c0 f0 z0
            refine seg_grow ⟨⟨_, H.out.bel⟩, rfl⟩ ?_
            refine U_one 17 (by kernel_rfl) ?_
            simp only [pickL, List.getElem?_cons_succ, List.getElem?_cons_zero]
            have c0 := H.out.cG'; have f0 := H.out.fG; have z0 := H.out.zG
            have H := Lib.hid H.out.stG
            go_wp2
            generalize w25.setCell _ _ = w26 at *
            clear c0 f0 z0
            refine seg_grow ⟨⟨_, H.out.bel⟩, rfl⟩ ?_
            refine U_done (by kernel_rfl) ?_
            go_wp2
            go_meet
            case rel => exact H.out.fin HBc.out
          · simp only [pickL, List.getElem?_cons_succ, List.getElem?_cons_zero]
            have c0 := H.out.cF'; have f0 := H.out.fF; have z0 := H.out.zF
            have H := Lib.hid H.out.stF
            go_wp2
            generalize w23.setCell _ _ = w24 at *
            clear c0 f0 z0
            refine seg_grow ⟨⟨_, H.out.bel⟩, rfl⟩ ?_
            refine U_one 13 (by kernel_rfl) ?_
            simp only [pickL, List.getElem?_cons_succ, List.getElem?_cons_zero]
            refine wpList_make_ints rfl (.tmp 30) (.tmp 30) rfl n rfl rfl (by omega) ?_
            intro w25 hr hg
            have H := Lib.hid (H.out.mG hr hg)
            clear hr hg
            go_wp2
            refine seg_grow ⟨⟨_, H.out.bel⟩, rfl⟩ ?_
            refine U_one 17 (by kernel_rfl) ?_
            simp only [pickL, List.getElem?_cons_succ, List.getElem?_cons_zero]
            have c0 := H.out.cG'; have f0 := H.out.fG; have z0 := H.out.zG
            have H := Lib.hid H.out.stG
            go_wp2
            generalize w25.setCell _ _ = w26 at *
            clear c0 f0 z0
            refine seg_grow ⟨⟨_, H.out.bel⟩, rfl⟩ ?_
            refine U_done (by kernel_rfl) ?_
            go_wp2
            go_meet
            case rel => exact H.out.fin HBc.out
      · simp only [pickL, List.getElem?_cons_succ, List.getElem?_cons_zero]
        refine wpList_make_ints rfl (.tmp 30) (.tmp 30) rfl n rfl rfl (by omega) ?_
        intro w22 hr hg
        have H := Lib.hid (H.out.mG hr hg)
        clear hr hg
        go_wp2
        refine seg_grow ⟨⟨_, H.out.bel⟩, rfl⟩ ?_
        refine U_all [6, 15] (by kernel_rfl) ?_
        intro c hc
        simp only [List.mem_cons, List.not_mem_nil, or_false] at hc
        rcases hc with rfl | rfl
        · simp only [pickL, List.getElem?_cons_succ, List.getElem?_cons_zero]
          refine wpList_make_ints rfl (.tmp 23) (.tmp 23) rfl n rfl rfl (by omega) ?_
          intro w23 hr hg
          have H := Lib.hid (H.out.mF hr hg)
          clear hr hg
          go_wp2
          refine seg_grow ⟨⟨_, H.out.bel⟩, rfl⟩ ?_
          refine U_one 15 (by kernel_rfl) ?_
          simp only [pickL, List.getElem?_cons_succ, List.getElem?_cons_zero]
          have H := Lib.hid H.out.aG
          go_wp2
          generalize w23.alloc _ = w24 at *
          refine seg_grow ⟨⟨_, H.out.bel⟩, rfl⟩ ?_
          refine U_one 16 (by kernel_rfl) ?_
          simp only [pickL, List.getElem?_cons_succ, List.getElem?_cons_zero]
          have c0 := H.out.cF'; have f0 := H.out.fF; have z0 := H.out.zF
          have H := Lib.hid H.out.stF
          go_wp2
          generalize w24.setCell _ _ = w25 at *
          clear c0 f0 z0
          refine seg_grow ⟨⟨_, H.out.bel⟩, rfl⟩ ?_
          refine U_one 17 (by kernel_rfl) ?_
          simp only [pickL, List.getElem?_cons_succ, List.getElem?_cons_zero]
          have c0 := H.out.cG'; have f0 := H.out.fG; have z0 := H.out.zG
          have H := Lib.hid H.out.stG
          go_wp2
          generalize w25.setCell _ _ = w26 at *
          clear c0 f0 z0
          refine seg_grow ⟨⟨_, H.out.bel⟩, rfl⟩ ?_
          refine U_done (by kernel_rfl) ?_
          go_wp2
          go_meet
          case rel => exact H.out.fin HBc.out
        · simp only [pickL, List.getElem?_cons_succ, List.getElem?_cons_zero]
          have H := Lib.hid H.out.aG
          go_wp2
          generalize w22.alloc _ = w23 at *
          refine seg_grow ⟨⟨_, H.out.bel⟩, rfl⟩ ?_
          refine U_one 6 (by kernel_rfl) ?_
          simp only [pickL, List.getElem?_cons_succ, List.getElem?_cons_zero]
          refine wpList_make_ints rfl (.tmp 23) (.tmp 23) rfl n rfl rfl (by omega) ?_
          intro w24 hr hg
          have H := Lib.hid (H.out.mF hr hg)
          clear hr hg
          go_wp2
          refine seg_grow ⟨⟨_, H.out.bel⟩, rfl⟩ ?_
          refine U_one 16 (by kernel_rfl) ?_
          simp only [pickL, List.getElem?_cons_succ, List.getElem?_cons_zero]
          have c0 := H.out.cF'; have f0 := H.out.fF; have z0 := H.out.zF
          have H := Lib.hid H.out.stF
          go_wp2
          generalize w24.setCell _ _ = w25 at *
          clear c0 f0 z0
          refine seg_grow ⟨⟨_, H.out.bel⟩, rfl⟩ ?_
          refine U_one 17 (by kernel_rfl) ?_
          simp only [pickL, List.getElem?_cons_succ, List.getElem?_cons_zero]
          have c0 := H.out.cG'; have f0 := H.out.fG; have z0 := H.out.zG
          have H := Lib.hid H.out.stG
          go_wp2
          generalize w25.setCell _ _ = w26 at *
          clear c0 f0 z0
          refine seg_grow ⟨⟨_, H.out.bel⟩, rfl⟩ ?_
          refine U_done (by kernel_rfl) ?_
          go_wp2
          go_meet
          case rel => exact H.out.fin HBc.out
      · simp only [pickL, List.getElem?_cons_succ, List.getElem?_cons_zero]
        have H := Lib.hid H.out.aG
        go_wp2
        generalize w21.alloc _ = w22 at *
        refine seg_grow ⟨⟨_, H.out.bel⟩, rfl⟩ ?_
        refine U_all [6, 13] (by kernel_rfl) ?_
        intro c hc
        simp only [List.mem_cons, List.not_mem_nil, or_false] at hc
        rcases hc with rfl | rfl
        · simp only [pickL, List.getElem?_cons_succ, List.getElem?_cons_zero]
          refine wpList_make_ints rfl (.tmp 23) (.tmp 23) rfl n rfl rfl (by omega) ?_
          intro w23 hr hg
          have H := Lib.hid (H.out.mF hr hg)
          clear hr hg
          go_wp2
          refine seg_grow ⟨⟨_, H.out.bel⟩, rfl⟩ ?_
          refine U_all [13, 16] (by kernel_rfl) ?_
          intro c hc
          simp only [List.mem_cons, List.not_mem_nil, or_false] at hc
          rcases hc with rfl | rfl
          · simp only [pickL, List.getElem?_cons_succ, List.getElem?_cons_zero]
            refine wpList_make_ints rfl (.tmp 30) (.tmp 30) rfl n rfl rfl (by omega) ?_
            intro w24 hr hg
            have H := Lib.hid (H.out.mG hr hg)
            clear hr hg
            go_wp2
            refine seg_grow ⟨⟨_, H.out.bel⟩, rfl⟩ ?_
            refine U_one 16 (by kernel_rfl) ?_
            simp only [pickL, List.getElem?_cons_succ, List.getElem?_cons_zero]
            have c0 := H.out.cF'; have f0 := H.out.fF; have z0 := H.out.zF
            have H := Lib.hid H.out.stF
            go_wp2
            generalize w24.setCell _ _ = w25 at *
            clear c0 f0 z0
            refine seg_grow ⟨⟨_, H.out.bel⟩, rfl⟩ ?_
            refine U_one 17 (by kernel_rfl) ?_
            simp only [pickL, List.getElem?_cons_succ, List.getElem?_cons_zero]
            have c0 := H.out.cG'; have f0 := H.out.fG; have z0 := H.out.zG
            have H := Lib.hid H.out.stG
            go_wp2
            generalize w25.setCell _ _ = w26 at *
            clear c0 f0 z0
            refine seg_grow ⟨⟨_, H.out.bel⟩, rfl⟩ ?_
            refine U_done (by kernel_rfl) ?_
            go_wp2
            go_meet
            case rel => exact H.out.fin HBc.out
          · simp only [pickL, List.getElem?_cons_succ, List.getElem?_cons_zero]
            have c0 := H.out.cF'; have f0 := H.out.fF; have z0 := H.out.zF
            have H := Lib.hid H.out.stF
            go_wp2
            generalize w23.setCell _ _ = w24 at *
            clear c0 f0 z0
            refine seg_grow ⟨⟨_, H.out.bel⟩, rfl⟩ ?_
            refine U_one 13 (by kernel_rfl) ?_
            simp only [pickL, List.getElem?_cons_succ, List.getElem?_cons_zero]
            refine wpList_make_ints rfl (.tmp 30) (.tmp 30) rfl n rfl rfl (by omega) ?_
            intro w25 hr hg
            have H := Lib.hid (H.out.mG hr hg)
            clear hr hg
            go_wp2
            refine seg_grow ⟨⟨_, H.out.bel⟩, rfl⟩ ?_
            refine U_one 17 (by kernel_rfl) ?_
            simp only [pickL, List.getElem?_cons_succ, List.getElem?_cons_zero]
            have c0 := H.out.cG'; have f0 := H.out.fG; have z0 := H.out.zG
            have H := Lib.hid H.out.stG
            go_wp2
            generalize w25.setCell _ _ = w26 at *
            clear c0 f0 z0
            refine seg_grow ⟨⟨_, H.out.bel⟩, rfl⟩ ?_
            refine U_done (by kernel_rfl) ?_
            go_wp2
            go_meet
            case rel => exact H.out.fin HBc.out
        · simp only [pickL, List.getElem?_cons_succ, List.getElem?_cons_zero]
          refine wpList_make_ints rfl (.tmp 30) (.tmp 30) rfl n rfl rfl (by omega) ?_
          intro w23 hr hg
          have H := Lib.hid (H.out.mG hr hg)
          clear hr hg
          go_wp2
          refine seg_grow ⟨⟨_, H.out.bel⟩, rfl⟩ ?_
          refine U_one 6 (by kernel_rfl) ?_
          simp only [pickL, List.getElem?_cons_succ, List.getElem?_cons_zero]
          refine wpList_make_ints rfl (.tmp 23) (.tmp 23) rfl n rfl rfl (by omega) ?_
          intro w24 hr hg
          have H := Lib.hid (H.out.mF hr hg)
          clear hr hg
          go_wp2
          refine seg_grow ⟨⟨_, H.out.bel⟩, rfl⟩ ?_
          refine U_one 16 (by kernel_rfl) ?_
          simp only [pickL, List.getElem?_cons_succ, List.getElem?_cons_zero]
          have c0 := H.out.cF'; have f0 := H.out.fF; have z0 := H.out.zF
          have H := Lib.hid H.out.stF
          go_wp2
          generalize w24.setCell _ _ = w25 at *
          clear c0 f0 z0
          refine seg_grow ⟨⟨_, H.out.bel⟩, rfl⟩ ?_
          refine U_one 17 (by kernel_rfl) ?_
          simp only [pickL, List.getElem?_cons_succ, List.getElem?_cons_zero]
          have c0 := H.out.cG'; have f0 := H.out.fG; have z0 := H.out.zG
          have H := Lib.hid H.out.stG
          go_wp2
          generalize w25.setCell _ _ = w26 at *
          clear c0 f0 z0
          refine seg_grow ⟨⟨_, H.out.bel⟩, rfl⟩ ?_
          refine U_done (by kernel_rfl) ?_
          go_wp2
          go_meet
          case rel => exact H.out.fin HBc.out
    · simp only [pickL, List.getElem?_cons_succ, List.getElem?_cons_zero]
      have H := Lib.hid H.out.aG
      go_wp2
      generalize wc.alloc _ = w21 at *
      refine seg_grow ⟨⟨_, H.out.bel⟩, rfl⟩ ?_
      refine U_all [6, 13, 14] (by kernel_rfl) ?_
      intro c hc
      simp only [List.mem_cons, List.not_mem_nil, or_false] at hc
      rcases hc with rfl | rfl | rfl
      · simp only [pickL, List.getElem?_cons_succ, List.getElem?_cons_zero]
        refine wpList_make_ints rfl (.tmp 23) (.tmp 23) rfl n rfl rfl (by omega) ?_
        intro w22 hr hg
        have H := Lib.hid (H.out.mF hr hg)
        clear hr hg
        go_wp2
        refine seg_grow ⟨⟨_, H.out.bel⟩, rfl⟩ ?_
        refine U_all [13, 14] (by kernel_rfl) ?_
        intro c hc
        simp only [List.mem_cons, List.not_mem_nil, or_false] at hc
        rcases hc with rfl | rfl
        · simp only [pickL, List.getElem?_cons_succ, List.getElem?_cons_zero]
          refine wpList_make_ints rfl (.tmp 30) (.tmp 30) rfl n rfl rfl (by omega) ?_
          intro w23 hr hg
          have H := Lib.hid (H.out.mG hr hg)
          clear hr hg
          go_wp2
          refine seg_grow ⟨⟨_, H.out.bel⟩, rfl⟩ ?_
          refine U_one 14 (by kernel_rfl) ?_
          simp only [pickL, List.getElem?_cons_succ, List.getElem?_cons_zero]
          have H := Lib.hid H.out.aF
          go_wp2
          generalize w23.alloc _ = w24 at *
          refine seg_grow ⟨⟨_, H.out.bel⟩, rfl⟩ ?_
          refine U_one 16 (by kernel_rfl) ?_
          simp only [pickL, List.getElem?_cons_succ, List.getElem?_cons_zero]
          have c0 := H.out.cF'; have f0 := H.out.fF; have z0 := H.out.zF
          have H := Lib.hid H.out.stF
          go_wp2
          generalize w24.setCell _ _ = w25 at *
          clear c0 f0 z0
          refine seg_grow ⟨⟨_, H.out.bel⟩, rfl⟩ ?_
          refine U_one 17 (by kernel_rfl) ?_
          simp only [pickL, List.getElem?_cons_succ, List.getElem?_cons_zero]
          have c0 := H.out.cG'; have f0 := H.out.fG; have z0 := H.out.zG
          have H := Lib.hid H.out.stG
          go_wp2
          generalize w25.setCell _ _ = w26 at *
          clear c0 f0 z0
          refine seg_grow ⟨⟨_, H.out.bel⟩, rfl⟩ ?_
          refine U_done (by kernel_rfl) ?_
          go_wp2
          go_meet
          case rel => exact H.out.fin HBc.out
        · simp only [pickL, List.getElem?_cons_succ, List.getElem?_cons_zero]
          have H := Lib.hid H.out.aF
          go_wp2
          generalize w22.alloc _ = w23 at *
          refine seg_grow ⟨⟨_, H.out.bel⟩, rfl⟩ ?_
          refine U_all [13, 16] (by kernel_rfl) ?_
          intro c hc
          simp only [List.mem_cons, List.not_mem_nil, or_false] at hc
          rcases hc with rfl | rfl
          · simp only [pickL, List.getElem?_cons_succ, List.getElem?_cons_zero]
            refine wpList_make_ints rfl (.tmp 30) (.tmp 30) rfl n rfl rfl (by omega) ?_
            intro w24 hr hg
            have H := Lib.hid (H.out.mG hr hg)
            clear hr hg
            go_wp2
            refine seg_grow ⟨⟨_, H.out.bel⟩, rfl⟩ ?_
            refine U_one 16 (by kernel_rfl) ?_
            simp only [pickL, List.getElem?_cons_succ, List.getElem?_cons_zero]
            have c0 := H.out.cF'; have f0 := H.out.fF; have z0 := H.out.zF
            have H := Lib.hid H.out.stF
            go_wp2
            generalize w24.setCell _ _ = w25 at *
            clear c0 f0 z0
            refine seg_grow ⟨⟨_, H.out.bel⟩, rfl⟩ ?_
            refine U_one 17 (by kernel_rfl) ?_
            simp only [pickL, List.getElem?_cons_succ, List.getElem?_cons_zero]
            have c0 := H.out.cG'; have f0 := H.out.fG; have z0 := H.out.zG
            have H := Lib.hid H.out.stG
            go_wp2
            generalize w25.setCell _ _ = w26 at *
            clear c0 f0 z0
            refine seg_grow ⟨⟨_, H.out.bel⟩, rfl⟩ ?_
            refine U_done (by kernel_rfl) ?_
            go_wp2
            go_meet
            case rel => exact H.out.fin HBc.out
          · simp only [pickL, List.getElem?_cons_succ, List.getElem?_cons_zero]
            have c0 := H.out.cF'; have f0 := H.out.fF; have z0 := H.out.zF
            have H := Lib.hid H.out.stF
            go_wp2
            generalize w23.setCell _ _ = w24 at *
            clear c0 f0 z0
            refine seg_grow ⟨⟨_, H.out.bel⟩, rfl⟩ ?_
            refine U_one 13 (by kernel_rfl) ?_
            simp only [pickL, List.getElem?_cons_succ, List.getElem?_cons_zero]
            refine wpList_make_ints rfl (.tmp 30) (.tmp 30) rfl n rfl rfl (by omega) ?_
            intro w25 hr hg
            have H := Lib.hid (H.out.mG hr hg)
            clear hr hg
            go_wp2
            refine seg_grow ⟨⟨_, H.out.bel⟩, rfl⟩ ?_
            refine U_one 17 (by kernel_rfl) ?_
            simp only [pickL, List.getElem?_cons_succ, List.getElem?_cons_zero]
            have c0 := H.out.cG'; have f0 := H.out.fG; have z0 := H.out.zG
            have H := Lib.hid H.out.stG
            go_wp2
            generalize w25.setCell _ _ = w26 at *
            clear c0 f0 z0
            refine seg_grow ⟨⟨_, H.out.bel⟩, rfl⟩ ?_
            refine U_done (by kernel_rfl) ?_
            go_wp2
            go_meet
            case rel => exact H.out.fin HBc.out
      · simp only [pickL, List.getElem?_cons_succ, List.getElem?_cons_zero]
        refine wpList_make_ints rfl (.tmp 30) (.tmp 30) rfl n rfl rfl (by omega) ?_
        intro w22 hr hg
        have H := Lib.hid (H.out.mG hr hg)
        clear hr hg
        go_wp2
        refine seg_grow ⟨⟨_, H.out.bel⟩, rfl⟩ ?_
        refine U_all [6, 14] (by kernel_rfl) ?_
        intro c hc
        simp only [List.mem_cons, List.not_mem_nil, or_false] at hc
        rcases hc with rfl | rfl
        · simp only [pickL, List.getElem?_cons_succ, List.getElem?_cons_zero]
          refine wpList_make_ints rfl (.tmp 23) (.tmp 23) rfl n rfl rfl (by omega) ?_
          intro w23 hr hg
          have H := Lib.hid (H.out.mF hr hg)
          clear hr hg
          go_wp2
          refine seg_grow ⟨⟨_, H.out.bel⟩, rfl⟩ ?_
          refine U_one 14 (by kernel_rfl) ?_
          simp only [pickL, List.getElem?_cons_succ, List.getElem?_cons_zero]
          have H := Lib.hid H.out.aF
          go_wp2
          generalize w23.alloc _ = w24 at *
          refine seg_grow ⟨⟨_, H.out.bel⟩, rfl⟩ ?_
          refine U_one 16 (by kernel_rfl) ?_
          simp only [pickL, List.getElem?_cons_succ, List.getElem?_cons_zero]
          have c0 := H.out.cF'; have f0 := H.out.fF; have z0 := H.out.zF
          have H := Lib.hid H.out.stF
          go_wp2
          generalize w24.setCell _ _ = w25 at *
          clear c0 f0 z0
          refine seg_grow ⟨⟨_, H.out.bel⟩, rfl⟩ ?_
          refine U_one 17 (by kernel_rfl) ?_
          simp only [pickL, List.getElem?_cons_succ, List.getElem?_cons_zero]
          have c0 := H.out.cG'; have f0 := H.out.fG; have z0 := H.out.zG
          have H := Lib.hid H.out.stG
          go_wp2
          generalize w25.setCell _ _ = w26 at *
          clear c0 f0 z0
          refine seg_grow ⟨⟨_, H.out.bel⟩, rfl⟩ ?_
          refine U_done (by kernel_rfl) ?_
          go_wp2
          go_meet
          case rel => exact H.out.fin HBc.out
        · simp only [pickL, List.getElem?_cons_succ, List.getElem?_cons_zero]
          have H := Lib.hid H.out.aF
          go_wp2
          generalize w22.alloc _ = w23 at *
          refine seg_grow ⟨⟨_, H.out.bel⟩, rfl⟩ ?_
          refine U_one 6 (by kernel_rfl) ?_
          simp only [pickL, List.getElem?_cons_succ, List.getElem?_cons_zero]
          refine wpList_make_ints rfl (.tmp 23) (.tmp 23) rfl n rfl rfl (by omega) ?_
          intro w24 hr hg
          have H := Lib.hid (H.out.mF hr hg)
          clear hr hg
          go_wp2
          refine seg_grow ⟨⟨_, H.out.bel⟩, rfl⟩ ?_
          refine U_one 16 (by kernel_rfl) ?_
          simp only [pickL, List.getElem?_cons_succ, List.getElem?_cons_zero]
          have c0 := H.out.cF'; have f0 := H.out.fF; have z0 := H.out.zF
          have H := Lib.hid H.out.stF
          go_wp2
          generalize w24.setCell _ _ = w25 at *
          clear c0 f0 z0
          refine seg_grow ⟨⟨_, H.out.bel⟩, rfl⟩ ?_
          refine U_one 17 (by kernel_rfl) ?_
          simp only [pickL, List.getElem?_cons_succ, List.getElem?_cons_zero]
          have c0 := H.out.cG'; have f0 := H.out.fG; have z0 := H.out.zG
          have H := Lib.hid H.out.stG
          go_wp2
          generalize w25.setCell _ _ = w26 at *
          clear c0 f0 z0
          refine seg_grow ⟨⟨_, H.out.bel⟩, rfl⟩ ?_
          refine U_done (by kernel_rfl) ?_
          go_wp2
          go_meet
          case rel => exact H.out.fin HBc.out
      · simp only [pickL, List.getElem?_cons_succ, List.getElem?_cons_zero]
        have H := Lib.hid H.out.aF
        go_wp2
        generalize w21.alloc _ = w22 at *
        refine seg_grow ⟨⟨_, H.out.bel⟩, rfl⟩ ?_
        refine U_all [6, 13] (by kernel_rfl) ?_
        intro c hc
        simp only [List.mem_cons, List.not_mem_nil, or_false] at hc
        rcases hc with rfl | rfl
        · simp only [pickL, List.getElem?_cons_succ, List.getElem?_cons_zero]
          refine wpList_make_ints rfl (.tmp 23) (.tmp 23) rfl n rfl rfl (by omega) ?_
          intro w23 hr hg
          have H := Lib.hid (H.out.mF hr hg)
          clear hr hg
          go_wp2
          refine seg_grow ⟨⟨_, H.out.bel⟩, rfl⟩ ?_
          refine U_all [13, 16] (by kernel_rfl) ?_
          intro c hc
          simp only [List.mem_cons, List.not_mem_nil, or_false] at hc
          rcases hc with rfl | rfl
          · simp only [pickL, List.getElem?_cons_succ, List.getElem?_cons_zero]
            refine wpList_make_ints rfl (.tmp 30) (.tmp 30) rfl n rfl rfl (by omega) ?_
            intro w24 hr hg
            have H := Lib.hid (H.out.mG hr hg)
            clear hr hg
            go_wp2
            refine seg_grow ⟨⟨_, H.out.bel⟩, rfl⟩ ?_
            refine U_one 16 (by kernel_rfl) ?_
            simp only [pickL, List.getElem?_cons_succ, List.getElem?_cons_zero]
            have c0 := H.out.cF'; have f0 := H.out.fF; have z0 := H.out.zF
            have H := Lib.hid H.out.stF
            go_wp2
            generalize w24.setCell _ _ = w25 at *
            clear c0 f0 z0
            refine seg_grow ⟨⟨_, H.out.bel⟩, rfl⟩ ?_
            refine U_one 17 (by kernel_rfl) ?_
            simp only [pickL, List.getElem?_cons_succ, List.getElem?_cons_zero]
            have c0 := H.out.cG'; have f0 := H.out.fG; have z0 := H.out.zG
            have H := Lib.hid H.out.stG
            go_wp2
            generalize w25.setCell _ _ = w26 at *
            clear c0 f0 z0
            refine seg_grow ⟨⟨_, H.out.bel⟩, rfl⟩ ?_
            refine U_done (by kernel_rfl) ?_
            go_wp2
            go_meet
            case rel => exact H.out.fin HBc.out
          · simp only [pickL, List.getElem?_cons_succ, List.getElem?_cons_zero]
            have c0 := H.out.cF'; have f0 := H.out.fF; have z0 := H.out.zF
            have H := Lib.hid H.out.stF
            go_wp2
            generalize w23.setCell _ _ = w24 at *
            clear c0 f0 z0
            refine seg_grow ⟨⟨_, H.out.bel⟩, rfl⟩ ?_
            refine U_one 13 (by kernel_rfl) ?_
            simp only [pickL, List.getElem?_cons_succ, List.getElem?_cons_zero]
            refine wpList_make_ints rfl (.tmp 30) (.tmp 30) rfl n rfl rfl (by omega) ?_
            intro w25 hr hg
            have H := Lib.hid (H.out.mG hr hg)
            clear hr hg
            go_wp2
            refine seg_grow ⟨⟨_, H.out.bel⟩, rfl⟩ ?_
            refine U_one 17 (by kernel_rfl) ?_
            simp only [pickL, List.getElem?_cons_succ, List.getElem?_cons_zero]
            have c0 := H.out.cG'; have f0 := H.out.fG; have z0 := H.out.zG
            have H := Lib.hid H.out.stG
            go_wp2
            generalize w25.setCell _ _ = w26 at *
            clear c0 f0 z0
            refine seg_grow ⟨⟨_, H.out.bel⟩, rfl⟩ ?_
            refine U_done (by kernel_rfl) ?_
            go_wp2
            go_meet
            case rel => exact H.out.fin HBc.out
        · simp only [pickL, List.getElem?_cons_succ, List.getElem?_cons_zero]
          refine wpList_make_ints rfl (.tmp 30) (.tmp 30) rfl n rfl rfl (by omega) ?_
          intro w23 hr hg
          have H := Lib.hid (H.out.mG hr hg)
          clear hr hg
          go_wp2
          refine seg_grow ⟨⟨_, H.out.bel⟩, rfl⟩ ?_
          refine U_one 6 (by kernel_rfl) ?_
          simp only [pickL, List.getElem?_cons_succ, List.getElem?_cons_zero]
          refine wpList_make_ints rfl (.tmp 23) (.tmp 23) rfl n rfl rfl (by omega) ?_
          intro w24 hr hg
          have H := Lib.hid (H.out.mF hr hg)
          clear hr hg
          go_wp2
          refine seg_grow ⟨⟨_, H.out.bel⟩, rfl⟩ ?_
          refine U_one 16 (by kernel_rfl) ?_
          simp only [pickL, List.getElem?_cons_succ, List.getElem?_cons_zero]
          have c0 := H.out.cF'; have f0 := H.out.fF; have z0 := H.out.zF
          have H := Lib.hid H.out.stF
          go_wp2
          generalize w24.setCell _ _ = w25 at *
          clear c0 f0 z0
          refine seg_grow ⟨⟨_, H.out.bel⟩, rfl⟩ ?_
          refine U_one 17 (by kernel_rfl) ?_
          simp only [pickL, List.getElem?_cons_succ, List.getElem?_cons_zero]
          have c0 := H.out.cG'; have f0 := H.out.fG; have z0 := H.out.zG
          have H := Lib.hid H.out.stG
          go_wp2
          generalize w25.setCell _ _ = w26 at *
          clear c0 f0 z0
          refine seg_grow ⟨⟨_, H.out.bel⟩, rfl⟩ ?_
          refine U_done (by kernel_rfl) ?_
          go_wp2
          go_meet
          case rel => exact H.out.fin HBc.out
  case rest =>
    obtain ⟨bF, bG, gF, gG, rfl, rfl, hv, hfd⟩ := hcut
    have HV := Lib.hid hv; have HFD := Lib.hid hfd
    obtain ⟨bq, hbq⟩ : ∃ bq, bq = wc.heap.size := ⟨_, rfl⟩
    obtain ⟨l1, l2, l3, l4⟩ := hv.lt
    have HLQ := Lib.hid (show bF < bq ∧ bG < bq ∧ gF < bq ∧ gG < bq by omega)
    have HBQ := Lib.hid (show bq ≤ wc.heap.size by omega)
    have HWQ := Lib.hid (show w.heap.size ≤ bq by have := hv.bel.size; omega)
    have hnl : nx.length = n := by rw [HM.out.mat.ln, HN.out]
    have hbl : bf.length = n := by rw [HM.out.mat.lb, HN.out]
    have HUZ := Lib.hid (UnI.zero n nx)
    have HUF := Lib.hid (fun F (h : UnI n nx F n) => UnI.fri (J := J) (nx := nx) (bf := bf) (F := F) (by rw [← HN.out]; exact HM.out) (by rw [← HN.out]; exact h))
    rw [← HN.out] at HUF
    clear hv hfd hbq l1 l2 l3 l4
    go_wp2_with fail
    go_loopw [9, 34] (fun s9 s34 wr => ∃ (k : Nat) (F : List Int), k ≤ n ∧ s34 = .int .i64 k ∧ FrV w wr n bF bG gF gG F (zeros n) ∧ UnI n nx F k ∧ rowI wr bq s9 (ints (unTo nx k)) ∧ bq ≤ wr.heap.size) (fun _ s34 _ => n - (intOf s34).toNat)
    case atStart => exact ⟨0, _, Nat.zero_le _, rfl, HV.out, HUZ.out, World.ownsRow_nil _ _ _ _, HBQ.out⟩
    case round =>
      clear HV HBQ
      obtain ⟨k, F, hk, rfl, hv, hu, hr, hz2⟩ := hrel
      have HV := Lib.hid hv; have HU := Lib.hid hu; have HR := Lib.hid hr; have HBQ := Lib.hid hz2
      rename World => wO
      obtain ⟨ar, cr, hvr⟩ := owns_form hr
      rw [ints_len] at hvr
      subst hvr
      by_cases hkn : k < n
      · have gx := (HNX.out.later hv.bel).cell (k := k) (by omega)
        have zx := (HNX.out.later hv.bel).lt
        have HUS := Lib.hid (unTo_succ nx k)
        have HUY := Lib.hid (fun h => hu.yes hkn h)
        have HUN := Lib.hid (fun h => hu.no h)
        have hul := unTo_len nx k
        have HSN := Lib.hid (ints_snoc (unTo nx k) k)
        have HIL := Lib.hid (ints_len (unTo nx k))
        have hFl : F.length = n := hu.len
        have c1 := hv.cellF
        obtain ⟨z1, _, z3, _⟩ := hv.lt
        have g1 := hv.hF.cell (k := k) (by omega)
        have f1 := hv.hF.frozen (k := k)
        have HVS := Lib.hid (hv.setF HFD.out k 1)
        have HRS := Lib.hid (show rowI (wO.setCell ⟨gF, k, none⟩ (.int .i64 1)) bq (.slice ar (unTo nx k).length cr) (ints (unTo nx k)) from by
          refine World.ownsRow.kept hr (grownBy_set wO ⟨gF, k, none⟩ _) (.inr fun e => ?_)
          have h9 := (rowI.lt hr (k := gF) e).1
          have := HLQ.out; omega)
        clear hv hu hr hz2
        generalize elt nx k = xk at *
        by_cases hx : xk < 0
        · have d1 : decide (xk < 0) = true := by simp [hx]
          rw [if_pos hx] at HUS
          have HUN2 := Lib.hid (HUY.out hx)
          clear hx HUY HUN
          have HBQS := Lib.hid (show bq ≤ (wO.setCell ⟨gF, k, none⟩ (.int .i64 1)).heap.size by simp; exact HBQ.out)
          go_upto_region 8 with fail
          generalize wO.setCell ⟨gF, k, none⟩ (.int .i64 1) = w4 at *
          clear c1 z1 z3 g1 f1 gx zx
          go_wp2_with (at_builtin; refine wpList_append_num rfl _ _ rfl Tryz.underlying41 num3 HRS.out (k : Int) rfl (by first | rfl | (rw [HIL.out]; rfl)) rfl (by rw [ints_len]; omega) HBQS.out ?_)
          intro v' w' hO' hg'
          have HR6 := Lib.hid (show rowI w' bq v' (ints (unTo nx (k + 1))) from by unfold rowI; rw [HUS.out, HSN.out, List.length_append, List.length_singleton, List.map_append]; exact hO')
          have hfr : Fr w4 w' (fun j => bq ≤ j) := (Fr.of_below (bal (bz w4) (.cells #[.int .i64 (k : Int)] 3))).trans (Fr.grown hg' (fun j e => (rowI.lt HRS.out (k := j) e).1))
          obtain ⟨q1, q2, q3, q4⟩ := HLQ.out
          have HV6 := Lib.hid (HVS.out.fr hfr (by omega) (by omega) (by omega) (by omega) (fun j hj => Nat.le_trans HWQ.out hj))
          have HZ6 := Lib.hid (Nat.le_trans HBQS.out hfr.size)
          clear hO' hg' hfr q1 q2 q3 q4
          go_wp2_with fail
          go_roundw
          case rel => exact ⟨k + 1, _, by omega, by go_num, HV6.out, HUN2.out, HR6.out, HZ6.out⟩
          case measure => simp [intOf]; omega
        · have d1 : decide (xk < 0) = false := by simp; omega
          rw [if_neg hx] at HUS
          have HUN2 := Lib.hid (HUN.out hx)
          clear hx HUY HUN
          go_wp2_with fail
          go_roundw
          case rel => exact ⟨k + 1, F, by omega, by go_num, HV.out, HUN2.out, by rw [HUS.out]; exact HR.out, HBQ.out⟩
          case measure => simp [intOf]; omega
      · have HFI := Lib.hid (HUF.out F (by have hke : k = n := (by omega); rw [hke] at hu; exact hu))
        have HQ := Lib.hid (show Que wO bq (.slice ar (unTo nx k).length cr) (ints (unTo nx n)) from by have hke : k = n := (by omega); rw [hke] at hr ⊢; exact Que.of_row hr)
        clear hv hu hr hz2
        go_wp2_with fail
        clear hkn hk
        have HV0 := Lib.hid HV.out
        go_loopw [9] (fun s9 wr => ∃ (F G : List Int) (W : List Nat), FrV w wr n bF bG gF gG F G ∧ FrI J nx bf F G W n 0 ∧ Que wr bq s9 (ints W) ∧ bq ≤ wr.heap.size ∧ 2 * zer n F + W.length ≤ 40) (fun s9 wr => 2 * zcN wr gF n + lenV s9)
        case atStart => exact ⟨F, zeros n, _, HV0.out, HFI.out, HQ.out, HBQ.out, by have := zer_le n F; have := unTo_len nx n; omega⟩
        case round =>
          clear HV0 HV HFI HQ HBQ HU HR
          obtain ⟨F1, G1, W1, hv, hfi, hq, hz2, hwb⟩ := hrel
          have HWB := Lib.hid (show W1.length ≤ 40 by omega)
          have HWB2 := Lib.hid hwb; clear hwb
          have HV := Lib.hid hv; have HFI := Lib.hid hfi; have HQ := Lib.hid hq; have HBQ := Lib.hid hz2
          rename World => wP
          obtain ⟨aq, cq, hvq⟩ := hq.form
          rw [ints_len] at hvq
          subst hvq
          have HZF := Lib.hid (show zcN wP gF n = zer n F1 from hv.hF.zc (by rw [hfi.mF.1, HN.out]))
          cases W1 with
          | nil =>
            rw [List.length_nil]
            have HFE := Lib.hid (show FrI J nx bf F1 G1 [] J.length 0 from by rw [← HN.out]; exact hfi)
            have HM1 := Lib.hid (show Marks01 n F1 ∧ Marks01 n G1 by rw [HN.out]; exact ⟨hfi.mF, hfi.mG⟩)
            clear hv hfi hq hz2
            have gd := (HV.out.bel.cell (p := ⟨d, 0, none⟩) hz).trans h1
            have zd := Nat.lt_of_lt_of_le hz HV.out.bel.size
            obtain ⟨bo, hbo⟩ : ∃ bo, bo = wP.heap.size := ⟨_, rfl⟩
            obtain ⟨l1, l2, l3, l4⟩ := HV.out.lt
            have HLO := Lib.hid (show bF < bo ∧ bG < bo ∧ gF < bo ∧ gG < bo by omega)
            have HBO := Lib.hid (show bo ≤ wP.heap.size by omega)
            have HWO := Lib.hid (show w.heap.size ≤ bo by have := HV.out.bel.size; omega)
            clear hbo l1 l2 l3 l4
            go_wp2_with fail
            clear gd zd
            go_loopw [14, 114] (fun s14 s114 wr => ∃ k : Nat, k ≤ n ∧ s114 = .int .i64 k ∧ FrV w wr n bF bG gF gG F1 G1 ∧ rowI wr bo s14 (ints (frTo F1 G1 k)) ∧ bo ≤ wr.heap.size) (fun _ s114 _ => n - (intOf s114).toNat)
            case atStart => exact ⟨0, Nat.zero_le _, rfl, HV.out, World.ownsRow_nil _ _ _ _, HBO.out⟩
            case round =>
              clear HV HBO HBQ HQ HFI
              obtain ⟨k, hk, rfl, hv, hr, hz2⟩ := hrel
              have HV := Lib.hid hv; have HR := Lib.hid hr; have HBO := Lib.hid hz2
              rename World => wQ
              obtain ⟨ar2, cr2, hvr⟩ := owns_form hr
              rw [ints_len] at hvr
              subst hvr
              by_cases hkn : k < n
              · have HFS := Lib.hid (frTo_succ F1 G1 k)
                have hfl := frTo_len F1 G1 k
                have HSN := Lib.hid (ints_snoc (frTo F1 G1 k) k)
                have HIL := Lib.hid (ints_len (frTo F1 G1 k))
                have hB1 := bal (bz wQ) (.cells #[.int .i64 (k : Int)] 3)
                have HV1 := Lib.hid (hv.later hB1)
                have HR1 := Lib.hid (show rowI (wQ.alloc (.cells #[.int .i64 (k : Int)] 3)) bo (.slice ar2 (frTo F1 G1 k).length cr2) (ints (frTo F1 G1 k)) from owns_kept hr hB1)
                have HX1 := Lib.hid (rdI_oneAt wQ (k : Int) wQ.heap.size rfl)
                have HBO1 := Lib.hid (Nat.le_trans hz2 hB1.size)
                have HTF := Lib.hid (show TestF (wQ.alloc (.cells #[.int .i64 (k : Int)] 3)) 98 #[] #[.pointer (some ⟨bF, 0, none⟩), .pointer (some ⟨bG, 0, none⟩)] [(k : Int)] (frP F1 G1) from
                  ⟨enters_of Tryz.func98 (by kernel_rfl) rfl, fun wz hz j hj => by
                    have hj0 : j = 0 := by simp at hj; exact hj
                    subst hj0
                    exact free1_any bF bG gF gG n k F1 G1 w wz (HV1.out.later hz) HM1.out.1 HM1.out.2 hkn⟩)
                have HPB := Lib.hid (show [(k : Int)].any (frP F1 G1) = (decide (0 < elt F1 k) && (elt G1 k == 0)) by simp [frP])
                clear hv hr hz2 hB1
                generalize (decide (0 < elt F1 k) && (elt G1 k == 0)) = pb at *
                go_wp2_with fail
                refine (find_any _ [(k : Int)] _ _ _ (frP F1 G1) _ HX1.out (by simp) HTF.out).mono ?_
                rintro e w6 ⟨⟨rr, rfl⟩, hB6⟩
                rw [HPB.out]
                have HV6 := Lib.hid (HV1.out.later hB6)
                have HR6 := Lib.hid (show rowI w6 bo (.slice ar2 (frTo F1 G1 k).length cr2) (ints (frTo F1 G1 k)) from owns_kept HR1.out hB6)
                have HBO6 := Lib.hid (Nat.le_trans HBO1.out hB6.size)
                clear hB6
                cases pb with
                | false =>
                  have HFE := Lib.hid (show frTo F1 G1 (k + 1) = frTo F1 G1 k from by have h9 := HFS.out; simpa using h9)
                  go_wp2_with fail
                  go_roundw
                  case rel => exact ⟨k + 1, by omega, by go_num, HV6.out, by rw [HFE.out]; exact HR6.out, HBO6.out⟩
                  case measure => simp [intOf]; omega
                | true =>
                  have HFE2 := Lib.hid (show frTo F1 G1 (k + 1) = frTo F1 G1 k ++ [k] from by have h9 := HFS.out; simpa using h9)
                  go_wp2_with (at_builtin; refine wpList_append_num rfl _ _ rfl Tryz.underlying41 num3 HR6.out (k : Int) rfl (by first | rfl | (rw [HIL.out]; rfl)) rfl (by rw [ints_len]; omega) HBO6.out ?_)
                  intro v' w' hO' hg'
                  have HR7 := Lib.hid (show rowI w' bo v' (ints (frTo F1 G1 (k + 1))) from by unfold rowI; rw [HFE2.out, HSN.out, List.length_append, List.length_singleton, List.map_append]; exact hO')
                  have hfr : Fr w6 w' (fun j => bo ≤ j) := (Fr.of_below (bal (bz w6) (.cells #[.int .i64 (k : Int)] 3))).trans (Fr.grown hg' (fun j e => (rowI.lt HR6.out (k := j) e).1))
                  obtain ⟨q1, q2, q3, q4⟩ := HLO.out
                  have HV7 := Lib.hid (HV6.out.fr hfr (by omega) (by omega) (by omega) (by omega) (fun j hj => Nat.le_trans HWO.out hj))
                  have HZ7 := Lib.hid (Nat.le_trans HBO6.out hfr.size)
                  clear hO' hg' hfr q1 q2 q3 q4
                  go_wp2_with fail
                  go_roundw
                  case rel => exact ⟨k + 1, by omega, by go_num, HV7.out, HR7.out, HZ7.out⟩
                  case measure => simp [intOf]; omega
              · have HRE := Lib.hid (show RdI wQ .i64 (.slice ar2 (frTo F1 G1 k).length cr2) (ints (frTo F1 G1 n)) from by have hke : k = n := (by omega); rw [hke] at hr ⊢; exact RdI.of_owns hr)
                clear hv hr hz2
                go_wp2_with fail
                go_ret
                exact ⟨_, F1, G1, rfl, HFE.out, HRE.out, HV.out.bel⟩
          | cons i W2 =>
            have hlen : (i :: W2).length = W2.length + 1 := rfl
            have HFP := Lib.hid (show FrI J nx bf F1 G1 W2 i 0 from by rw [HN.out] at hfi; exact hfi.pop)
            have hiJ := (hfi.wlt i (by simp)).1
            have hin : i < n := by have := HN.out; omega
            have HIJ := Lib.hid hiJ
            have hW2l : W2.length ≤ 1000 := by have := HWB.out; rw [hlen] at this; omega
            obtain ⟨ad, c2, hcut2, hq2⟩ := Que.tail (w := wP) (base := bq) (v := .slice aq (i :: W2).length cq) (x := (i : Int)) (xs := ints W2) hq
            rw [ints_len] at hcut2 hq2
            have HQ2 := Lib.hid hq2
            obtain ⟨bx, ox, e, hbx, hcx⟩ := hq.rd.get (by simp [ints])
            subst e
            have gx := hcx 0 (by simp [ints])
            rw [show elt (ints (i :: W2)) 0 = (i : Int) by simp [ints, elt], Nat.add_zero] at gx
            rw [hlen] at hcut2 ⊢
            have gd := (hv.bel.cell (p := ⟨d, 0, none⟩) hz).trans h1
            have zd := Nat.lt_of_lt_of_le hz hv.bel.size
            have HMS := Lib.hid (show 2 * zcN wP gF n + lenV (.slice (some ⟨bx, ox, none⟩) (W2.length + 1) cq) = 2 * zer n F1 + W2.length + 1 by rw [HZF.out]; rfl)
            clear hv hfi hq hz2 hq2 hcx hiJ
            go_wp2_with fail
            clear gd zd gx hbx hcut2
            go_loopw [9, 64] (fun s9 s64 wr => ∃ (k : Nat) (F G : List Int) (W : List Nat), k ≤ n ∧ s64 = .int .i64 k ∧ FrV w wr n bF bG gF gG F G ∧ FrI J nx bf F G W i k ∧ Que wr bq s9 (ints W) ∧ 2 * zer n F + W.length ≤ 2 * zer n F1 + W2.length ∧ bq ≤ wr.heap.size) (fun _ s64 _ => n - (intOf s64).toNat)
            case atStart => exact ⟨0, F1, G1, W2, Nat.zero_le _, rfl, HV.out, HFP.out, HQ2.out, Nat.le_refl _, HBQ.out⟩
            case round =>
              clear HV HFI HQ HBQ HQ2 HFP
              obtain ⟨k, F2, G2, W3, hk, rfl, hv, hfi, hq, hms, hz2⟩ := hrel
              have HV := Lib.hid hv; have HFI := Lib.hid hfi; have HQ := Lib.hid hq; have HBQ := Lib.hid hz2; have HMM := Lib.hid hms
              rename World => wQ
              obtain ⟨aq3, cq3, hvq⟩ := hq.form
              rw [ints_len] at hvq
              subst hvq
              by_cases hkn : k < n
              · have hkJ := Lib.hid (show k < J.length by have := HN.out; omega)
                obtain ⟨da, dc, dg, dcg, dz, d1, _, d3, dgz, dmk⟩ := (HD.out.mono hv.bel).get
                rw [← HN.out] at d1 d3 dmk
                have gm := dmk i k hin (by omega)
                have c2' := hv.cellG
                obtain ⟨z1, z2, z3, z4⟩ := hv.lt
                have hF2l : F2.length = n := by rw [hfi.mF.1, HN.out]
                have hG2l : G2.length = n := by rw [hfi.mG.1, HN.out]
                have gg := hv.hG.cell (k := k) (by omega)
                have fg := hv.hG.frozen (k := k)
                have hG01 := hfi.mG.2 k hkJ.out
                have HSK := Lib.hid (fun h => hfi.skip h)
                clear hv hfi hq hz2 hms d1 dmk
                cases hb : aft J i k with
                | false =>
                  rw [hb, if_neg (by decide)] at gm
                  have HFN := Lib.hid (HSK.out (.inl hb))
                  clear hb hG01
                  go_wp2_with fail
                  go_roundw
                  case rel => exact ⟨k + 1, F2, G2, W3, by omega, by go_num, HV.out, HFN.out, HQ.out, HMM.out, HBQ.out⟩
                  case measure => simp [intOf]; omega
                | true =>
                  rw [hb, if_pos rfl] at gm
                  by_cases hg1 : elt G2 k = 1
                  · rw [hg1] at gg
                    have HFN := Lib.hid (HSK.out (.inr hg1))
                    clear hb hG01 hg1
                    go_wp2_with fail
                    go_roundw
                    case rel => exact ⟨k + 1, F2, G2, W3, by omega, by go_num, HV.out, HFN.out, HQ.out, HMM.out, HBQ.out⟩
                    case measure => simp [intOf]; omega
                  · have hg0 : elt G2 k = 0 := by omega
                    rw [hg0] at gg
                    have HAF := Lib.hid hb
                    have HV3 := Lib.hid (HV.out.setG HFD.out k 1)
                    have HQ3 := Lib.hid (show Que (wQ.setCell ⟨gG, k, none⟩ (.int .i64 1)) bq (.slice aq3 W3.length cq3) (ints W3) from HQ.out.fr (C := fun j => j = gG) (Fr.set (B := fun j => j = gG) (p := ⟨gG, k, none⟩) (by rfl) _) (fun j hj e => by have := HLQ.out; omega))
                    have HBQ3 := Lib.hid (show bq ≤ (wQ.setCell ⟨gG, k, none⟩ (.int .i64 1)).heap.size by simp; exact HBQ.out)
                    clear hb hG01 hg1 hg0
                    go_upto_region 18 with fail
                    generalize wQ.setCell ⟨gG, k, none⟩ (.int .i64 1) = w5 at *
                    clear gm gg fg d3 dgz dz z1 z2 z3 z4 c2'
                    have gb0 := (HBF.out.later HV3.out.bel).cell (k := k) (by omega)
                    have zb0 := (HBF.out.later HV3.out.bel).lt
                    rcases HM.out.mat.right k hkJ.out with hb1 | ⟨b, hbJ, hb1, _⟩
                    · rw [hb1] at gb0
                      have HFN := Lib.hid (HFI.out.mark HIJ.out hkJ.out HAF.out (.inl hb1))
                      clear hb1
                      go_wp2_with fail
                      go_roundw
                      case rel => exact ⟨k + 1, F2, _, W3, by omega, by go_num, HV3.out, HFN.out, HQ3.out, HMM.out, HBQ3.out⟩
                      case measure => simp [intOf]; omega
                    · rw [hb1] at gb0
                      have hbn : b < n := by have := HN.out; omega
                      have c1' := HV3.out.cellF
                      obtain ⟨z1, z2, z3, z4⟩ := HV3.out.lt
                      have gf := HV3.out.hF.cell (k := b) (by omega)
                      have ff := HV3.out.hF.frozen (k := b)
                      have hF01 := HFI.out.mF.2 b hbJ
                      by_cases hf1 : elt F2 b = 1
                      · rw [hf1] at gf
                        have HFN := Lib.hid (HFI.out.mark HIJ.out hkJ.out HAF.out (.inr ⟨b, hbJ, hb1, hf1⟩))
                        clear hb1 hf1 hF01
                        go_wp2_with fail
                        go_roundw
                        case rel => exact ⟨k + 1, F2, _, W3, by omega, by go_num, HV3.out, HFN.out, HQ3.out, HMM.out, HBQ3.out⟩
                        case measure => simp [intOf]; omega
                      · have hf0 : elt F2 b = 0 := by omega
                        rw [hf0] at gf
                        have HFN := Lib.hid (HFI.out.push HIJ.out hkJ.out HAF.out hbJ hb1 hf0)
                        have HZS := Lib.hid (show zer n (F2.set b 1) < zer n F2 from zer_set (by rw [HN.out]; exact HFI.out.mF) hbn hf0)
                        have HV4 := Lib.hid (HV3.out.setF HFD.out b 1)
                        have HQ4 := Lib.hid (show Que (w5.setCell ⟨gF, b, none⟩ (.int .i64 1)) bq (.slice aq3 W3.length cq3) (ints W3) from HQ3.out.fr (C := fun j => j = gF) (Fr.set (B := fun j => j = gF) (p := ⟨gF, b, none⟩) (by rfl) _) (fun j hj e => by have := HLQ.out; omega))
                        have HBQ4 := Lib.hid (show bq ≤ (w5.setCell ⟨gF, b, none⟩ (.int .i64 1)).heap.size by simp; exact HBQ3.out)
                        clear hb1 hf1 hF01 hf0
                        go_upto_region 21 with fail
                        generalize w5.setCell ⟨gF, b, none⟩ (.int .i64 1) = w6 at *
                        clear gb0 zb0 c1' z1 z2 z3 z4 gf ff
                        have HWL := Lib.hid (show W3.length ≤ 1000 by have := HMM.out; have h9 := HWB2.out; simp only [List.length_cons] at h9; omega)
                        obtain ⟨a7, c7, w7, hrun, hq7, hfr⟩ := HQ4.out.push HBQ4.out (by rw [ints_len]; exact HWL.out) (b : Int) 41
                        rw [ints_len] at hrun hq7
                        obtain ⟨q1, q2, q3, q4⟩ := HLQ.out
                        have HV7 := Lib.hid (HV4.out.fr hfr (by omega) (by omega) (by omega) (by omega) (fun j hj => Nat.le_trans HWQ.out hj))
                        have HQ7 := Lib.hid (show Que w7 bq (.slice a7 (W3.length + 1) c7) (ints (W3 ++ [b])) from by rw [ints_snoc]; exact hq7)
                        have HBQ7 := Lib.hid (Nat.le_trans HBQ4.out hfr.size)
                        have HM7 := Lib.hid (show 2 * zer n (F2.set b 1) + (W3 ++ [b]).length ≤ 2 * zer n F1 + W2.length by have := HMM.out; have := HZS.out; simp; omega)
                        clear hq7 hfr q1 q2 q3 q4
                        go_wp2_with (at_builtin; refine wpList_append_ran 41 rfl _ _ rfl rfl rfl hrun ?_)
                        go_wp2
                        go_roundw
                        case rel => exact ⟨k + 1, _, _, W3 ++ [b], by omega, by go_num, HV7.out, HFN.out, HQ7.out, HM7.out, HBQ7.out⟩
                        case measure => simp [intOf]; omega
              · have HFD2 := Lib.hid (show FrI J nx bf F2 G2 W3 n 0 from by
                  have hke : k = J.length := by have := HN.out; omega
                  rw [hke] at hfi
                  have h9 := hfi.done HIJ.out
                  rw [← HN.out] at h9; exact h9)
                have HZF2 := Lib.hid (show zcN wQ gF n = zer n F2 from hv.hF.zc (by rw [hfi.mF.1, HN.out]))
                clear hv hfi hq hz2 hms
                go_wp2_with fail
                go_roundw
                case rel => exact ⟨F2, G2, W3, HV.out, HFD2.out, HQ.out, HBQ.out, by have h9 := HWB2.out; have h8 := HMM.out; simp only [List.length_cons] at h9; omega⟩
                case measure => rw [HMS.out, HZF2.out]; have := HMM.out; simp [lenV]; omega
end Go.Proofs.YteknehlkdgamjaaGreat
