import Derived.Test.YtkfojmihnjnhfaaGreatDoorC3
import Derived.Test.YtkfojmihnjnhfaaGreatDoorRows
import Derived.Shelf.Strings.BuilderF
import Derived.Shelf.Strconv.Itoa0
import Derived.Shelf.Strconv.Itoa1
import Derived.Shelf.LaysM
import Derived.Shelf.Strconv.Clone
import Derived.Shelf.Strings.Search2
import Derived.Shelf.Bytes.SlIndexWhole
import Derived.Test.YtkfojmihnjnhfaaGreatDoorProg
import Derived.Shelf.Spec.DecodeRune
import Derived.Lib.ItoaMem
namespace Go.Ev.S
open Go Go.Proofs Go.Ev
def KF (l:List (List Nat)) (r:Nat):Option (List Nat × Nat):=(l[r]?).map (·,0)
def kf7:=KF [[0,1,2],[0,1,2],[0,1,2,7],[],[0,1,2,7],[7],[0,1,2,7],[1,2,7,8],[1,2,7,8,9],[1,2,7,8,9],[1,2,7,8,9,10],[1,2,7,8,9,10,11],[1,2,7,8,10,11,12],[1,2,7,8,9,10,11,12],[1,2,7,8,9,10,11,12],[1,2,7,8,9,10,11,12,13],[1,2,7,8,10,11,12,13,14],[1,2,7,8,9,10,11,12,13,14],[1,2,7,8,9,10,11,12,13,14],[1,2,7,8,9,10,12,13,14,15,16],[],[1,2,7,8,9,10,12,13,14,15],[1,2,7,8,9,10,11,12,13],[1,2,7,8,9,10,11,12,13,17],[1,2,7,8,9,10,11,12,13,17,18],[1,2,7,8,9,10,11,12,13,17,18,19],[1,2,7,8,9,10,11,12,13,17,18,20,21],[],[1,2,7,8,9,10,11,12,13,17,18,20],[1,2,7,8,9,10,11,12,13,18,20,21],[1,2,7,8,9,10,11,12,18,20,21],[],[7,9,10,11],[7,9,10,11,22,23],[7,9,10,11,22,23,24,25,26]]
def kf9:=KF [[],[]]
def kf12:=KF [[0,1],[0,1],[0,5,6],[],[0,5],[0,5,7],[0,5,7],[0,7],[0,5,7],[0,5,7],[0,7],[7]]
def kf14:=KF [[0],[0],[3],[3,11,12],[3,11,12],[3,4,11,12],[3,11,12],[3]]
def kf15:=KF [[0,1],[0,1],[],[0,1],[0,1,5],[0,1,5],[0,1,5],[],[]]
def kf17:=KF [[0],[0]]
def kf18:=KF [[0],[0]]
def kf19:=KF [[0,1,2],[0,2,4],[0,2,4,8],[0,2,4,8,10],[0,4,8,10],[0,4,8,10],[0,2,4,8,10],[0,2,4,8,10],[0,4,8,10],[0,4,8,10],[4,10,11,12],[12],[4,10,11],[],[11]]
def kf20:=KF [[0],[0],[0,3],[0,3],[0,3],[],[0]]
def kf21:=KF [[0],[0,2],[0,2,4],[2,4,5,6],[2,6],[2,4,5]]
def kf22:=KF [[0],[0,2],[0,2,4],[2,4,5,6],[2,6],[2,4,5]]
def kf23:=KF [[0],[0]]
def kf24:=KF [[0,1],[0,1],[],[0,1]]
def kf25:=KF [[0,1],[0,1],[],[0,1],[0,1,5],[0,1,5],[0,1,5],[],[]]
def kf28:=KF [[0],[1],[],[1]]
def kf30:=KF [[0,1],[0,1],[0,1,5],[0,1],[0,1,5,6],[0,1,5,6,7],[0,1,5,6,7,8],[0,1,5,6,7,8],[0,1,5,6,7,8,9],[0,1,5,6,7,9],[0,1,5,6,7,8],[0,1,5,6,7,8],[5]]
def kf31:=KF [[0,1],[0,1],[],[0,1],[0,1,5],[1,23,24,25],[1,5,23,24,25],[1,5,7,23,24,25],[1,5,8,23,24,25],[],[1,5,8,23,24,25],[1,5,23,24,25],[1,5],[5],[],[5]]
def kf32:=KF [[0],[0],[],[0],[],[0],[0,5],[0,5,21,22],[0,5,21,22],[0,5,6,21,22],[0,5,6,7,21,22],[0,5,6,7,8,21,22],[],[0,5,6,7,8,21,22],[],[0,5,7,8,21,22],[],[0,5,7,8,21,22],[0,5,7,8,21,22],[0,5,7,8,21,22],[0,5,8,21,22],[0,21,22],[5]]
def kf34:=KF [[0],[1],[],[1]]
def kf35:=KF [[0,1],[0,3],[],[0,3],[0,3],[0]]
def kf36:Nat→Option (List Nat × Nat)
 | 0=>some ([0,1],0)
 | 1=>some ([0,3],0)
 | 2=>some ([],0)
 | 3=>some ([0,3],0)
 | 4=>some ([],0)
 | 5=>some ([0,3],0)
 | 6=>some ([],0)
 | 7=>some ([0,3],0)
 | 8=>some ([0,3,5,6,7],0)
 | 9=>some ([],0)
 | 10=>some ([0,3,5,6],0)
 | 11=>some ([0,3,5,6,8],0)
 | 12=>some ([0,3,5,6,8,59,60,61],2)
 | 13=>some ([0,3,5,6,8,59,60,61],0)
 | 14=>some ([0,3,5,6,8,10,59,60,61],0)
 | 15=>some ([0,3,5,6,7,8,59,60,61],0)
 | 16=>some ([],0)
 | 17=>some ([0,3,5,6,8,59,60,61],0)
 | 18=>some ([0,3,5,6,8],0)
 | 19=>some ([],0)
 | 20=>some ([0,3,5,6],0)
 | 21=>some ([],0)
 | _=>none
def kf40:=KF [[0],[0],[],[0]]
def kf41:=KF [[0],[0],[],[0]]
def kf42:=KF [[0,1],[2,3]]
def kf43:=KF [[0,1],[0,3,4],[0,3,4,6],[0,3,4,6],[0,3,4,6],[0,4,6],[3,4]]
def kf44:=KF [[0],[0],[],[0]]
def kf45:=KF [[0,1],[0,1],[],[0,1]]
def kf46:=KF [[0,1],[0,3],[],[0,3],[0,3,7],[],[0,3],[0,3,8],[0,9],[0,3,8,9,10],[0,9,10],[0,3,8,9,10],[0,3,8,9,10,11],[0,3,8,10,11],[0,3,8,9,10,11],[0,3,8,9,10,11],[0,3,8,9,10],[3,8,9],[3,8],[8]]
def kf47:=KF [[0,1],[2,3],[2,3,5],[2,3,5],[2,3,5],[2,3,5],[]]
def kf48:Nat→Option (List Nat × Nat)
 | 0=>some ([0,1],0)
 | 1=>some ([0,1,4],0)
 | 2=>some ([0,1,4,6],0)
 | 3=>some ([0,1,4,6,7],0)
 | 4=>some ([4],0)
 | 5=>some ([0,1,4,6,7],0)
 | 6=>some ([1,4,8,9],0)
 | 7=>some ([4,8,9,35,36,37],3)
 | 8=>some ([4,8,9,35,36,37],0)
 | 9=>some ([4,8,9,10,11,35,36,37],0)
 | 10=>some ([4,9,10,12],0)
 | 11=>some ([4,8,9,10,12,13,35,36,37],0)
 | 12=>some ([4,9,10,12],0)
 | 13=>some ([4],0)
 | 14=>some ([4,9,10,12],0)
 | 15=>some ([4],0)
 | 16=>some ([4,9,10,12],0)
 | 17=>some ([4],0)
 | 18=>some ([4,8,9,35,36,37],0)
 | 19=>some ([4],0)
 | _=>none
def kf49:=KF [[0],[0],[0,3],[3,4],[],[3,4],[],[3]]
def kf50:=KF [[0],[0]]
def kf51:=KF [[0],[0]]
def kf52:=KF [[0,1,2,3],[0,1,2,3],[],[0,1,2,3]]
def kf58:=KF [[0],[0]]
def kf59:=KF [[0,1],[0,1],[],[0,1],[0,1]]
def kf61:=KF [[0,1],[0,1,4],[0,1,4,5]]
def kf62:=KF [[0],[0],[],[0],[0,3],[0,3],[0,3],[],[]]
def kf63:=KF [[0,1,2],[0,1,2],[1,2,7],[7],[1,2,7],[2,7,15,16],[2,7,15,16],[2,7,8,15,16],[2,15,16],[7]]
def kf64:Nat→Option (List Nat × Nat)
 | 0=>some ([0],0)
 | 1=>some ([1],0)
 | 2=>some ([],0)
 | 3=>some ([1],0)
 | 4=>some ([1],0)
 | 5=>some ([1],0)
 | 6=>some ([1,3],0)
 | 7=>some ([1,3,4],0)
 | 8=>some ([3,4,59,60,61],0)
 | 9=>some ([3,4,59,60,61],0)
 | 10=>some ([3,4,6,59,60,61],0)
 | 11=>some ([3,4,59,60,61],0)
 | 12=>some ([3,4],0)
 | 13=>some ([4,70,71,72],1)
 | 14=>some ([4,70,71,72],0)
 | 15=>some ([4,8,70,71,72],0)
 | 16=>some ([4,70,71,72],0)
 | 17=>some ([4],0)
 | 18=>some ([4],0)
 | _=>none
def kf65:=KF [[0],[0]]
def kf66:=KF [[0],[0],[],[0],[0,3],[3,15,16,17],[3,15,16,17],[3,5,15,16,17],[3,5,15,16,17],[15,16,17,31,32,33],[3,15,16,17,31,32,33],[3,7,15,16,17,31,32,33],[15,16,17,31,32,33],[15,16,17],[3]]
def kf67:=KF [[0,1],[0,1]]
def kf68:=KF [[0,1,2],[0,1,2],[],[0,1,2],[0,1,2,8],[0,1,8,9],[0,1,8,9],[0,1,8,9],[8]]
def kf71:=KF [[0],[0],[0,5],[5],[0],[],[0],[],[0],[0,6,7],[],[0,6],[],[0,6],[0,6],[0,6,8],[0,48,49],[0,8,48,49],[0,8,9,10,48,49],[],[0,8,9,48,49],[0,8,9,11,12,13,48,49],[],[0,8,9,11,48,49],[0,8,48,49],[0,8],[0,5,8,14,15],[5],[0,8,14,15],[],[8,14]]
def kf72:=KF [[0,1,2],[0,2,4],[0,2,4,8],[8],[0,2,4],[0,2,4,9],[0,2,9],[0,9],[0,2,4,9],[0,2,4,9],[],[0,2,4,9],[0,4,9],[0,9]]
def kf73:Nat→Option (List Nat × Nat)
 | 0=>some ([0,1],0)
 | 1=>some ([0,1],0)
 | 2=>some ([1,7,8,9],0)
 | 3=>some ([1,7,8,9],0)
 | 4=>some ([1,6,7,8,9],0)
 | 5=>some ([],0)
 | 6=>some ([1,7,8,9],1)
 | 7=>some ([],0)
 | _=>none
def kf81:=KF [[0,1],[2,3]]
def kf82:=KF [[0,1],[0,1],[],[0,1],[],[]]
def kf84:=KF [[0,1],[0,1,4],[0,1,4,6],[0,1,4,6,7,8],[4,6],[0,1,4,6,7],[0,1,4,6,7,25,26,27],[0,1,4,6,7,25,26,27],[0,1,4,6,7,9,10,25,26,27],[0,1,4,6,9,10,11,12,25,26,27],[0,1,4,6,9,12,14,15,25,26,27],[4,6],[0,1,4,6,9,12,14,25,26,27],[0,1,4,6,7,25,26,27],[0,1,4,6]]
def kf85:=KF [[0],[0],[],[0]]
def kf86:=KF [[0,1,2,3],[0,1,2,3],[0,1,2,3,9]]
def kf93:=KF [[0],[0],[],[0],[0,4],[0,5],[0,4,5],[0,4,5],[0,4,5,7],[7],[0,4,5],[0,4,5,8],[0,4,5,8],[0,4,5,8],[0,4,5,8],[0,4,5,8],[0,4,5,8,9],[0,4,5,8,9],[0,4,5,8,9],[0,4,5,8],[4],[],[4]]
def kf94:=KF [[0,1],[0,1],[0,1,5],[0,6],[0,5,6],[0,5,6],[5]]
def kf95:=KF [[0],[0]]
def kf96:Nat→Option (List Nat × Nat)
 | 0=>some ([0],0)
 | 1=>some ([1],0)
 | 2=>some ([1,3],0)
 | 3=>some ([1,3],0)
 | 4=>some ([1,3],0)
 | 5=>some ([],0)
 | 6=>some ([3],0)
 | 7=>some ([73,74,75],1)
 | 8=>some ([73,74,75],0)
 | 9=>some ([5,73,74,75],0)
 | 10=>some ([],0)
 | 11=>some ([73,74,75],0)
 | 12=>some ([],0)
 | _=>none
def kf97:=KF [[0],[0]]
def kf98:=KF [[0],[1],[1,3],[6,7],[3,6,7],[3,5,6,7],[3,6,7],[3]]
def kf99:=KF [[0],[1],[1,3]]
def kf100:Nat→Option (List Nat × Nat)
 | 0=>some ([0,1],0)
 | 1=>some ([2,3,4],0)
 | 2=>some ([2,3,4,5],0)
 | 3=>some ([2,3,4,5,9,10,11],6)
 | 4=>some ([2,3,4,5,9,10,11],0)
 | 5=>some ([2,3,4,5,7,9,10,11],0)
 | 6=>some ([2,3,4,5,9,10,11],0)
 | 7=>some ([2,3,4,5],0)
 | _=>none
def kf102:=KF [[0],[1],[1],[1]]
def kf104:=KF [[0],[0],[0,3],[3,6,7,8],[3,6,7,8],[3,5,6,7,8],[3,6,7,8],[3]]
def kf107:=KF [[0],[0],[0,4],[],[0,4],[0,4,5],[],[0,4]]
def kf108:=KF [[0,1],[0,1]]
def kf109:=KF [[0],[0,2],[0,2,5],[0,2,5,6],[0,2,5,6],[0,2,5,6],[0,2,6],[0,2,6,7],[2],[2,6,7]]
def kf110:=KF [[0,1],[0,3],[],[0,3],[],[]]
def kf111:=KF [[0,1],[0,3,4],[0,3,4,5],[0,4,5],[3,4]]
def kf112:=KF [[0,1],[0,1],[],[0,1]]
def kf113:=KF [[0,1],[0,3],[3,5],[3,5,6],[3,5,6],[5],[3,5],[5],[5]]
def kf120:=KF [[0,1],[0,1],[],[0,1],[0,1,5],[0,1,5],[0,1,5],[],[]]
def kf122:=KF [[0,1],[0,1]]
def kf126:=KF [[0,1],[0,1]]
def kf127:=KF [[0,1],[0,1]]
def kf128:=KF [[0,1,2],[0,1,2],[0,1,2,8,9],[0,1,2,8,9],[8]]
def kf129:=KF [[0,1],[0,1]]
def kf130:=KF [[0],[0]]
def kf131:=KF [[0,1],[0,1]]
def kf137:=KF [[0],[1],[],[1],[],[1]]
def kf138:=KF [[0],[1]]
def kf139:=KF [[0],[0,2]]
def kf140:=KF [[0],[1]]
def kf141:=KF [[0],[0]]
def kf142:=KF [[0],[0],[0,3],[3,6,7,8],[3,6,7,8],[3,5,6,7,8],[3,6,7,8],[3]]
def kf144:=KF [[0],[0],[0,5,6],[0,5,6],[0,3,5,6],[],[0,5,6],[]]
def kf145:=KF [[0,1],[0,1],[0,1],[0,9,10,11],[0,9,10,11],[0,6,9,10,11],[0,9,10,11],[0,9,10,11,19],[0,9,10,11,19],[0,9,10,11,19],[0,9,10,11,19],[0,9,10,11,19],[0,9,10,11],[0]]
def kf146:=KF [[0],[0,2],[0,2,3,4],[0,2,3,4,6],[0,2,6,25,26,27],[0,2,6,25,26,27],[0,2,6,8,25,26,27],[0,2,6,8,9,10,25,26,27],[0,2,6,8,9,25,26,27],[0,2,6,25,26,27],[0,2,6],[2,6]]
def kf147:Nat→Option (List Nat × Nat)
 | 0=>some ([0],0)
 | 1=>some ([0,2],0)
 | 2=>some ([0,2,3],0)
 | 3=>some ([0,2,3,4],0)
 | 4=>some ([0,2,3,4],0)
 | 5=>some ([0,2,3,4],0)
 | 6=>some ([0,2,3,4],0)
 | 7=>some ([0,2,3,4],0)
 | 8=>some ([0,2,3,4],0)
 | 9=>some ([0,2,3,4],6)
 | 10=>some ([0,2,3,4],0)
 | 11=>some ([0,2,3,4,5,6],0)
 | 12=>some ([0,2,3,4,5],0)
 | 13=>some ([2,3],0)
 | _=>none
def kf148:=KF [[0,1],[0,3]]
def kf149:=KF [[0,1],[0,1,4]]
def kf150:=KF [[0,1],[2,3]]
def kf155:=KF [[0,1],[0,1],[0],[0,1]]
def kf156:=KF [[0,1],[0,1],[0,1,7],[0,1,7],[0]]
def kf157:=KF [[0,1,2],[0,1,2],[],[0,1,2],[0,1,2,8],[],[0,1,2,8,9],[0,1,2,8,9],[0,2,8,9],[0,1,2,8,9],[0,2,8,9],[0,1,2,8,9],[0,2,8,9],[0,2,8,9],[0,1,2,8,9],[0,2,8,9],[0,2,8,9],[0,1,2,8,9],[0,2,8,9],[0,2,8,9],[0,1,2,8,9],[0,1,2,8,9],[0,1,8,9],[0,1,2,8,9],[],[0,1,2,8,9],[0,1,2,8,9],[0,1,2,8,9],[0,1,2,8,9,85],[0,1,2,8,9],[0,1,2,8,9,85],[0,1,2,8,9],[0,1,2,8,9,10],[0,1,8,9,10,11],[0,1,8,9,10,11,12],[0,1,8,9,10,11,12,13],[1,8,9,10,11,12,13,99,100,101],[1,8,9,10,11,12,13,99,100,101],[1,8,9,10,11,12,13,15,99,100,101],[],[1,8,9,10,11,12,13,15,99,100,101],[1,8,9,10,11,13,99,100,101],[1,8,9,10,11,12,13,15,99,100,101],[1,8,9,10,11,12,13,15,99,100,101],[1,8,9,10,11,12,13,15,99,100,101],[1,8,9,10,11,12,13,15,99,100,101],[1,8,9,10,11,12,13,16,99,100,101],[],[1,8,9,10,11,12,13,16,99,100,101],[11],[1,8,9,10,11,12,13,16,99,100,101],[1,8,9,10,11,12,13,16,99,100,101],[1,8,9,10,11,12,13,17,99,100,101],[11],[1,8,9,10,11,12,17,99,100,101],[1,8,9,10,11,12,13,99,100,101],[9,12,13],[],[13]]
def kf158:=KF [[0,1,2,3,4],[0,1,2,3,4],[0,1,2,3,4,11],[0,1],[0,1,2,3,4,11],[0,1],[0,1,2,3,4,11],[0,1,2],[0,1,3,4,11],[0,1,3],[4]]
def kf159:=KF [[0,1],[0,1],[0,1],[0]]
def kf160:=KF [[0,1],[0,1],[0],[0],[0],[0,5],[0,5,6],[5,6],[0,1],[8]]
def kf161:=KF [[0],[0],[0,3],[0,3],[0,3],[0,3,4],[],[0]]
def kf166:=KF [[0],[0],[],[0],[0,24,25],[0,24,25],[0,3,24,25],[0,4,24,25],[],[0,24,25],[]]
def kf167:=KF [[0],[0],[0,3],[0,4],[0,4],[0,4],[0,4],[0,4],[0,4],[0,4,5],[4,5],[4],[4]]
def kf169:=KF [[0,1],[0,1],[0,1,5,6],[1,5]]
def kf170:=KF [[0,1],[0,1,4],[4,5]]
def kf171:=KF [[0,1],[0,1],[5,6],[],[5]]
def kf172:=KF [[0],[0,2],[0,2,4],[2],[0,2,4],[0,2,4,5,6],[0,2,5,6],[0,2,5],[0,2,5],[0,2,5,7,8],[2],[0,2,5,7],[0,2,7,9],[2,9]]
def kf173:=KF [[0,1],[0,1],[0,1,7,8],[0,1,7,8],[0,1,5,7,8],[5],[0,1,7,8],[]]
def kf174:=KF [[0,1],[1,2]]
def kf175:=KF [[0,1,2,3,4],[0,1,2,3,4,10],[0,1,2,3,4,10,11],[0,1,2,3,4,10,11,12],[0,1,2,4],[0,1,2,3,4,10,11,12],[0,1,2,4],[0,1,2,3,4,10,11,12],[0,1,2,3,4,10,11,12],[0,1,2,3,4,10,11,12],[0,1,2,3,4,10,11,12],[0,1,2,3,4,10,11,12,13,14],[0,1,2,3,4,10,11,12,13],[0,1,2,3,4,10,11,12,13],[0,1,2,3,4,10,11,12,13],[0,1,2,3,4,10,11,12,13,14],[0,1,2,3,4,10,11,12,13],[0,1,2,3,4,10,11,12,13],[0,1,2,3,4,10,11,13],[0,2,3,4,10,11,15],[0,1,2,3,4,12,13],[0,1,2,3,4,12,16,17],[0,1,2,3,4,11,12,16],[0,1,2,3,4,11,12,16,18,19],[0,1,2,3,4,11,16,18,19,20],[0,1,2,3,4,11,16,18,20],[0,1,2,3,4,10,11,16],[0,2,3,4,10,11,16],[0,1,2,3,4,11,16,19,20],[0,1,2,3,4,10,11,16],[0,1,3,4,10,11,16]]
def kf181:=KF [[0,1],[0,1]]
def kf183:=KF [[0],[0]]
def kf185:=KF [[0,1],[0,1]]
def kf186:=KF [[0,1],[0,1]]
def kf190:=KF [[0],[0],[0,3]]
def kf191:=KF [[0,1],[0,1,4],[0,1,4],[0,1,4,5],[0,1,4,5],[0,1,4,6,7],[0,1,4,6,8,9],[0,1,4,8,9,10,11],[0,1,4,8,10,11],[0,1,4,10,11],[0,1,4,10],[0,1,4],[0,1,4],[0,4,12],[0,4,12],[0,4,12,13],[0,4,12,13],[0,4,12,14,15],[0,4,12,14],[0,4,12],[0,4,12],[0,4,12],[0,4,12,16],[0,4,12,16],[0,4,12],[0,4,12],[0,12]]
def kf192:=KF [[0,1,2,3,4],[0,1,2,3,4,10,11],[0,1,2,3,4,10,11],[0,1,2,3,4,10,11],[0,1,2,3,4,10,11,12],[0,1,2,3,4,10,11,12,13],[0,1,2,3,4,10,11,12,13],[0,1,2,3,4,10,11,12,13],[0,1,2,3,4,10,11,12,13],[0,1,2,3,4,10,11,12,13,14],[0,1,2,3,4,10,11,12,13,14,15],[0,1,3,4,10,11,12,13,14,15,16],[0,1,3,4,10,11,12,13,14,15,16],[0,1,3,4,10,11,12,13,14,15,16],[0,1,3,4,10,11,12,13,14,15,16],[0,1,3,4,10,11,12,13],[0,1,3,4,10,11,12,13],[0,1,2,3,4,10,11,12,13],[0,1,3,4,10,11,12,13,17],[0,1,3,4,10,11,12,13,17],[0,1,3,4,10,11,12,13,17],[0,1,3,4,10,11,12,13,17,18],[0,3,4,10,11,12,13,17,18],[0,1,3,4,10,11,12,13],[0,1,3,4,10,11,12,13],[0,3,4,10,11,12,13],[0,4,10,11,12,13],[0,4,10,11,12,13],[0,4,10,11,12,13],[0,11,12,13],[10,12,13]]
def kf195:=KF [[0,1],[0,1,4],[0,1,4,6],[0,4,6,8],[0,6,8],[0,8]]
def kf196:=KF [[0],[0,2,3,4],[0,2,3,4],[0,2,3,4],[0,2,3,4],[0,2,3,4],[0,2,3,4],[0,2,3,4],[0,2,3,4],[0,2,3,4],[0,2,3,4],[0,2,3,4],[0,2,3,4],[0,2,3,4],[0,2,3,4],[0,2,3,4],[0,2,3,4],[0,2,3,4],[0,2,3,4],[0,2,3,4]]
def kf197:=KF [[0],[0,2,3,4],[0,2,3,4],[0,2,3,4],[0,2,3,4],[0,2,3,4],[0,2,3,4],[0,2,3,4],[0,2,3,4],[0,2,3,4],[0,2,3,4],[0,2,3,4],[0,2,3,4],[0,2,3,4],[0,2,3,4],[0,2,3,4]]
def kf198:=KF [[0,1],[0,1],[0,1,7],[0,1,7],[0]]
def kf199:=KF [[0],[0,2],[0,2,4],[2],[0,2,4],[0,2,4,12,13],[0,2,4,12,13],[0,2,4,5,12,13],[0,2,4,5,6,12,13],[2],[0,2,4,5,6,12,13],[0,2,4,12,13],[2,4]]
def kf200:=KF [[0,1],[0,1],[],[0,1],[0,1],[0,1,5],[1],[28],[28,29],[5,28],[],[],[0,1],[],[],[0,1],[0,1],[0,6],[0],[0,6],[0,1],[0,1],[0,1,7,8],[0,7],[7,60,61,62],[7,60,61,62],[7,9,10,60,61,62],[9],[7,60,61,62],[],[0,1],[0,1],[0,1,12],[0,1,11,12],[0,1,12],[0,1,12,13],[0,1,12],[12],[0,1,12],[0,1,12],[0,1,11,12,13],[0,1,11,12,13],[0,1,11,12,13],[12],[0,1,11,12,13],[0,1,11,12,13],[12],[0,1,11,12,13],[0,1,11,12,13,121],[0,1,11,12,13,121,122],[0,1,11,12,13,15,121],[12],[]]
def kf201:=KF [[0,1,2,3],[0,1,2,3,8],[0,1,2,3,8],[0,1,2,3,8],[0,1,2,3,8,9],[0,1,2,3,8,9],[0,1,2,3,8,9]]
def kf212:=KF [[0,1],[0,1]]
def kf218:=KF [[0],[0]]
def kf219:=KF [[0],[0],[],[]]
def kf224:=KF [[0,1],[0,1],[0,5]]
def kf225:=KF [[0,1],[0,1]]
def kf228:=KF [[0],[0]]
def kf230:=KF [[0,1],[0,1]]
def keepT:Nat→Nat→Option (List Nat × Nat)
 | 7=>kf7
 | 9=>kf9
 | 12=>kf12
 | 14=>kf14
 | 15=>kf15
 | 17=>kf17
 | 18=>kf18
 | 19=>kf19
 | 20=>kf20
 | 21=>kf21
 | 22=>kf22
 | 23=>kf23
 | 24=>kf24
 | 25=>kf25
 | 28=>kf28
 | 30=>kf30
 | 31=>kf31
 | 32=>kf32
 | 34=>kf34
 | 35=>kf35
 | 36=>kf36
 | 40=>kf40
 | 41=>kf41
 | 42=>kf42
 | 43=>kf43
 | 44=>kf44
 | 45=>kf45
 | 46=>kf46
 | 47=>kf47
 | 48=>kf48
 | 49=>kf49
 | 50=>kf50
 | 51=>kf51
 | 52=>kf52
 | 58=>kf58
 | 59=>kf59
 | 61=>kf61
 | 62=>kf62
 | 63=>kf63
 | 64=>kf64
 | 65=>kf65
 | 66=>kf66
 | 67=>kf67
 | 68=>kf68
 | 71=>kf71
 | 72=>kf72
 | 73=>kf73
 | 81=>kf81
 | 82=>kf82
 | 84=>kf84
 | 85=>kf85
 | 86=>kf86
 | 93=>kf93
 | 94=>kf94
 | 95=>kf95
 | 96=>kf96
 | 97=>kf97
 | 98=>kf98
 | 99=>kf99
 | 100=>kf100
 | 102=>kf102
 | 104=>kf104
 | 107=>kf107
 | 108=>kf108
 | 109=>kf109
 | 110=>kf110
 | 111=>kf111
 | 112=>kf112
 | 113=>kf113
 | 120=>kf120
 | 122=>kf122
 | 126=>kf126
 | 127=>kf127
 | 128=>kf128
 | 129=>kf129
 | 130=>kf130
 | 131=>kf131
 | 137=>kf137
 | 138=>kf138
 | 139=>kf139
 | 140=>kf140
 | 141=>kf141
 | 142=>kf142
 | 144=>kf144
 | 145=>kf145
 | 146=>kf146
 | 147=>kf147
 | 148=>kf148
 | 149=>kf149
 | 150=>kf150
 | 155=>kf155
 | 156=>kf156
 | 157=>kf157
 | 158=>kf158
 | 159=>kf159
 | 160=>kf160
 | 161=>kf161
 | 166=>kf166
 | 167=>kf167
 | 169=>kf169
 | 170=>kf170
 | 171=>kf171
 | 172=>kf172
 | 173=>kf173
 | 174=>kf174
 | 175=>kf175
 | 181=>kf181
 | 183=>kf183
 | 185=>kf185
 | 186=>kf186
 | 190=>kf190
 | 191=>kf191
 | 192=>kf192
 | 195=>kf195
 | 196=>kf196
 | 197=>kf197
 | 198=>kf198
 | 199=>kf199
 | 200=>kf200
 | 201=>kf201
 | 212=>kf212
 | 218=>kf218
 | 219=>kf219
 | 224=>kf224
 | 225=>kf225
 | 228=>kf228
 | 230=>kf230
 | _=>fun _=>none
def frzT:Nat→Nat→List Nat
 | 7,9=>[8]
 | 66,9=>[31]
 | 100,7=>[5]
 | 167,10=>[5]
 | _,_=>[]
def retT:Nat→Nat→List Nat
 | 7,12=>[9]
 | 7,16=>[9]
 | 30,3=>[5,6]
 | 31,5=>[5]
 | 32,21=>[5]
 | 46,8=>[3,8]
 | 46,10=>[3,8]
 | 54,3=>[3]
 | 55,5=>[5]
 | 63,8=>[7]
 | 66,9=>[3]
 | 66,12=>[3]
 | 66,13=>[3]
 | 71,16=>[8]
 | 79,6=>[3]
 | 80,16=>[9]
 | 87,4=>[5]
 | 93,5=>[4]
 | 94,3=>[5]
 | 98,3=>[3]
 | 115,4=>[3]
 | 119,9=>[5]
 | 177,13=>[7]
 | _,_=>[]
def cvT:Nat→Nat→Bool
 | 100,5=>true
 | 151,1=>true
 | 152,1=>true
 | 163,5=>true
 | 169,1=>true
 | _,_=>false
def lpT:Nat→Nat→Option (List (Nat × Nat) × List Nat)
 | 5,13=>some ([(10,14),(19,23),(28,32)],[])
 | 30,5=>some ([(5,2)],[])
 | 36,20=>some ([(8,11),(14,11),(17,11)],[])
 | 39,29=>some ([(7,4)],[])
 | 89,13=>some ([(10,2),(10,14)],[])
 | 139,1=>some ([(7,4)],[])
 | _,_=>none
def alT:Nat→Nat→Option Nat
 | 29,7=>some 13
 | _,_=>none
def locT:Nat→Bool
 | 12=>true
 | 13=>true
 | 14=>true
 | 17=>true
 | 18=>true
 | 23=>true
 | 27=>true
 | 30=>true
 | 35=>true
 | 36=>true
 | 39=>true
 | 54=>true
 | 58=>true
 | 59=>true
 | 61=>true
 | 94=>true
 | 139=>true
 | 146=>true
 | 147=>true
 | 169=>true
 | 170=>true
 | 171=>true
 | 172=>true
 | _=>false
def lomT:Nat→Bool
 | 12=>true
 | 14=>true
 | 17=>true
 | 18=>true
 | 23=>true
 | 35=>true
 | 36=>true
 | _=>false
def permT:Nat→Bool
 | 21=>true
 | 22=>true
 | 30=>true
 | 31=>true
 | 32=>true
 | 55=>true
 | 56=>true
 | 65=>true
 | 67=>true
 | 71=>true
 | 80=>true
 | 109=>true
 | 115=>true
 | 118=>true
 | 119=>true
 | _=>false
def byRefT:Nat→Bool
 | 11=>true
 | 12=>true
 | 13=>true
 | 14=>true
 | 17=>true
 | 18=>true
 | 23=>true
 | 27=>true
 | 29=>true
 | 30=>true
 | 35=>true
 | 36=>true
 | 39=>true
 | 40=>true
 | 54=>true
 | 58=>true
 | 59=>true
 | 61=>true
 | 94=>true
 | 139=>true
 | 146=>true
 | 147=>true
 | 149=>true
 | 169=>true
 | 170=>true
 | 171=>true
 | 172=>true
 | 175=>true
 | 191=>true
 | 195=>true
 | 196=>true
 | 197=>true
 | 201=>true
 | _=>false
def badT:Nat→Bool
 | 2=>true
 | 83=>true
 | 101=>true
 | 103=>true
 | 125=>true
 | 143=>true
 | 154=>true
 | 182=>true
 | 189=>true
 | 210=>true
 | 214=>true
 | 215=>true
 | 231=>true
 | 237=>true
 | 243=>true
 | 276=>true
 | _=>false
def pureT:Nat→Bool
 | 15=>true
 | 20=>true
 | 21=>true
 | 22=>true
 | 24=>true
 | 25=>true
 | 26=>true
 | 28=>true
 | 33=>true
 | 34=>true
 | 37=>true
 | 38=>true
 | 42=>true
 | 47=>true
 | 48=>true
 | 49=>true
 | 50=>true
 | 57=>true
 | 60=>true
 | 64=>true
 | 67=>true
 | 68=>true
 | 69=>true
 | 70=>true
 | 78=>true
 | 81=>true
 | 82=>true
 | 84=>true
 | 86=>true
 | 88=>true
 | 95=>true
 | 96=>true
 | 97=>true
 | 98=>true
 | 99=>true
 | 100=>true
 | 102=>true
 | 106=>true
 | 111=>true
 | 120=>true
 | 127=>true
 | 128=>true
 | 130=>true
 | 131=>true
 | 132=>true
 | 133=>true
 | 134=>true
 | 135=>true
 | 136=>true
 | 137=>true
 | 138=>true
 | 140=>true
 | 141=>true
 | 142=>true
 | 144=>true
 | 150=>true
 | 156=>true
 | 160=>true
 | 161=>true
 | 162=>true
 | 163=>true
 | 166=>true
 | 174=>true
 | 178=>true
 | 183=>true
 | 189=>true
 | 190=>true
 | 192=>true
 | 193=>true
 | 194=>true
 | 199=>true
 | 200=>true
 | 210=>true
 | 211=>true
 | 212=>true
 | 213=>true
 | 215=>true
 | 218=>true
 | 219=>true
 | 220=>true
 | 221=>true
 | 222=>true
 | 223=>true
 | 225=>true
 | 231=>true
 | 240=>true
 | _=>false
def fzrT:Nat→Bool
 | 9=>false
 | 30=>false
 | 40=>false
 | 44=>false
 | 63=>false
 | 85=>false
 | 92=>false
 | _=>true
def extT:Nat→List D→Option D
 | 105=>cmpExt
 | 226=>idxBExt
 | _=>fun _=>none
def conT [MaxL] [TxtC]:Nat→List D→Heap→Option (D × Heap)
 | 182=>conIdx
 | 83=>conBIdx
 | 215=>conClone
 | 210=>conLen64
 | 189=>conSmall
 | 64=>TxtC.t 64
 | 200=>TxtC.t 200
 | 231=>conDec
 | 213=>conIS MaxL.m
 | _=>fun _ _=>none
def gs1:List UInt8:=[105,110,118,97,108,105,100,32,115,121,110,116,97,120]
def gs2:List UInt8:=[118,97,108,117,101,32,111,117,116,32,111,102,32,114,97,110,103,101]
def gz3:List Int:=[1,10,100,1000,10000,100000,1000000,10000000,100000000,1000000000,10000000000,100000000000,1000000000000,10000000000000,100000000000000,1000000000000000,10000000000000000,100000000000000000,1000000000000000000,10000000000000000000]
def gd3:List D:=gz3.map (D.int .u64)
def gz4:List Int:=[0,1,28,2,29,14,24,3,30,22,20,15,25,17,4,8,31,27,13,23,21,19,16,7,26,12,18,6,11,5,10,9]
def gd4:List D:=gz4.map (D.int .u8)
def gz5:List Int:=[0,1,56,2,57,49,28,3,61,58,42,50,38,29,17,4,62,47,59,36,45,43,51,22,53,39,33,30,24,18,12,5,63,55,48,27,60,41,37,16,46,35,44,21,52,32,23,11,54,26,40,15,34,20,31,10,25,14,19,9,13,8,7,6]
def gd5:List D:=gz5.map (D.int .u8)
def globT [MaxL]:Nat→Option (List D)
 | 1=>some [.iface 281 (.vptr [.str gs1])]
 | 2=>some [.iface 281 (.vptr [.str gs2])]
 | 3=>some gd3
 | 4=>some gd4
 | 5=>some gd5
 | 0=>some [.int .i64 MaxL.m]
 | 6=>some u8first
 | 7=>some u8acc
 | _=>none
noncomputable def cx [MaxL] [TxtC]:Cx:={ P:=Tryz.prog,glob:=globT,keep:=keepT,byRef:=byRefT,pureF:=pureT,ext:=extT,bad:=badT,frz:=frzT,ret:=retT,fzr:=fzrT,con:=conT,perm:=permT,dynV:=true,cv:=cvT,lp:=lpT,loc:=locT,al:=alT,lom:=lomT }
abbrev EN [MaxL] [TxtC] (f r:Nat) (s:List Nat) (k:Nat):Prop:= ∀ (n0:Nat) (e:Env) (H:Heap),enter cx f n0 r e H = enterK s k n0 e H
abbrev CV [MaxL] [TxtC] (f:Nat):Prop:= ∀ id,cx.cv f id = false
abbrev LP [MaxL] [TxtC] (f:Nat):Prop:= ∀ id,cx.lp f id = none
abbrev FA [MaxL] [TxtC] (f:Nat) (b p u:Bool):Prop:=cx.byRef f = b∧cx.perm f = p∧cx.pureF f = u
abbrev FZ [MaxL] [TxtC] (f:Nat) (b p u z:Bool):Prop:=FA f b p u∧cx.fzr f = z
section
variable [MaxL] [TxtC]
@[simp] theorem ng1:CV 7∧CV 9∧CV 12∧CV 14∧CV 15∧CV 16∧CV 17∧CV 18∧CV 19∧CV 20∧CV 21∧CV 22∧CV 23∧CV 24∧CV 25∧CV 26∧CV 28∧CV 30∧CV 31∧CV 32∧CV 34∧CV 35∧CV 36∧CV 40∧CV 41∧CV 42∧CV 43∧CV 44∧CV 45∧CV 46:=by and_intros<;>exact fun _=>rfl
@[simp] theorem ng2:CV 47∧CV 48∧CV 49∧CV 50∧CV 51∧CV 52∧CV 53∧CV 54∧CV 55∧CV 56∧CV 57∧CV 58∧CV 59∧CV 60∧CV 61∧CV 62∧CV 63∧CV 64∧CV 65∧CV 66∧CV 67∧CV 68∧CV 71∧CV 72∧CV 73∧CV 75∧CV 79∧CV 81∧CV 82∧CV 84:=by and_intros<;>exact fun _=>rfl
@[simp] theorem ng3:CV 85∧CV 86∧CV 87∧CV 88∧CV 89∧CV 90∧CV 91∧CV 92∧CV 93∧CV 94∧CV 95∧CV 96∧CV 97∧CV 98∧CV 99:=by and_intros<;>exact fun _=>rfl
@[simp] theorem cv100_0:cx.cv 100 0 = false:=rfl
@[simp] theorem cv100_1:cx.cv 100 1 = false:=rfl
@[simp] theorem cv100_2:cx.cv 100 2 = false:=rfl
@[simp] theorem cv100_3:cx.cv 100 3 = false:=rfl
@[simp] theorem cv100_4:cx.cv 100 4 = false:=rfl
@[simp] theorem cv100_5:cx.cv 100 5 = true:=rfl
@[simp] theorem cv100_6:cx.cv 100 6 = false:=rfl
@[simp] theorem cv100_7:cx.cv 100 7 = false:=rfl
@[simp] theorem ng4:CV 102∧CV 104∧CV 106∧CV 107∧CV 108∧CV 109∧CV 110∧CV 111∧CV 112∧CV 113∧CV 114∧CV 115∧CV 116∧CV 117∧CV 118∧CV 119∧CV 120∧CV 122∧CV 126∧CV 127∧CV 128∧CV 129∧CV 130∧CV 131∧CV 132∧CV 133∧CV 134∧CV 135∧CV 136∧CV 137:=by and_intros<;>exact fun _=>rfl
@[simp] theorem ng5:CV 138∧CV 139∧CV 140∧CV 141∧CV 142∧CV 144∧CV 145∧CV 146∧CV 147∧CV 148∧CV 149∧CV 150:=by and_intros<;>exact fun _=>rfl
@[simp] theorem cv151_0:cx.cv 151 0 = false:=rfl
@[simp] theorem cv151_1:cx.cv 151 1 = true:=rfl
@[simp] theorem cv151_2:cx.cv 151 2 = false:=rfl
@[simp] theorem cv151_3:cx.cv 151 3 = false:=rfl
@[simp] theorem cv151_4:cx.cv 151 4 = false:=rfl
@[simp] theorem cv151_5:cx.cv 151 5 = false:=rfl
@[simp] theorem cv151_6:cx.cv 151 6 = false:=rfl
@[simp] theorem cv151_7:cx.cv 151 7 = false:=rfl
@[simp] theorem cv151_8:cx.cv 151 8 = false:=rfl
@[simp] theorem cv151_9:cx.cv 151 9 = false:=rfl
@[simp] theorem cv151_10:cx.cv 151 10 = false:=rfl
@[simp] theorem cv151_11:cx.cv 151 11 = false:=rfl
@[simp] theorem cv151_12:cx.cv 151 12 = false:=rfl
@[simp] theorem cv151_13:cx.cv 151 13 = false:=rfl
@[simp] theorem cv151_14:cx.cv 151 14 = false:=rfl
@[simp] theorem cv151_15:cx.cv 151 15 = false:=rfl
@[simp] theorem cv152_0:cx.cv 152 0 = false:=rfl
@[simp] theorem cv152_1:cx.cv 152 1 = true:=rfl
@[simp] theorem cv152_2:cx.cv 152 2 = false:=rfl
@[simp] theorem cv152_3:cx.cv 152 3 = false:=rfl
@[simp] theorem cv152_4:cx.cv 152 4 = false:=rfl
@[simp] theorem cv152_5:cx.cv 152 5 = false:=rfl
@[simp] theorem cv152_6:cx.cv 152 6 = false:=rfl
@[simp] theorem cv152_7:cx.cv 152 7 = false:=rfl
@[simp] theorem cv152_8:cx.cv 152 8 = false:=rfl
@[simp] theorem cv152_9:cx.cv 152 9 = false:=rfl
@[simp] theorem cv152_10:cx.cv 152 10 = false:=rfl
@[simp] theorem cv152_11:cx.cv 152 11 = false:=rfl
@[simp] theorem cv152_12:cx.cv 152 12 = false:=rfl
@[simp] theorem cv152_13:cx.cv 152 13 = false:=rfl
@[simp] theorem cv152_14:cx.cv 152 14 = false:=rfl
@[simp] theorem cv152_15:cx.cv 152 15 = false:=rfl
@[simp] theorem cv152_16:cx.cv 152 16 = false:=rfl
@[simp] theorem cv152_17:cx.cv 152 17 = false:=rfl
@[simp] theorem cv152_18:cx.cv 152 18 = false:=rfl
@[simp] theorem cv152_19:cx.cv 152 19 = false:=rfl
@[simp] theorem cv152_20:cx.cv 152 20 = false:=rfl
@[simp] theorem cv152_21:cx.cv 152 21 = false:=rfl
@[simp] theorem cv152_22:cx.cv 152 22 = false:=rfl
@[simp] theorem cv152_23:cx.cv 152 23 = false:=rfl
@[simp] theorem cv152_24:cx.cv 152 24 = false:=rfl
@[simp] theorem cv152_25:cx.cv 152 25 = false:=rfl
@[simp] theorem cv152_26:cx.cv 152 26 = false:=rfl
@[simp] theorem cv152_27:cx.cv 152 27 = false:=rfl
@[simp] theorem cv152_28:cx.cv 152 28 = false:=rfl
@[simp] theorem cv152_29:cx.cv 152 29 = false:=rfl
@[simp] theorem cv152_30:cx.cv 152 30 = false:=rfl
@[simp] theorem ng6:CV 155∧CV 156∧CV 157∧CV 158∧CV 159∧CV 160∧CV 161∧CV 162:=by and_intros<;>exact fun _=>rfl
@[simp] theorem cv163_0:cx.cv 163 0 = false:=rfl
@[simp] theorem cv163_1:cx.cv 163 1 = false:=rfl
@[simp] theorem cv163_2:cx.cv 163 2 = false:=rfl
@[simp] theorem cv163_3:cx.cv 163 3 = false:=rfl
@[simp] theorem cv163_4:cx.cv 163 4 = false:=rfl
@[simp] theorem cv163_5:cx.cv 163 5 = true:=rfl
@[simp] theorem cv163_6:cx.cv 163 6 = false:=rfl
@[simp] theorem ng7:CV 166∧CV 167:=by and_intros<;>exact fun _=>rfl
@[simp] theorem cv169_0:cx.cv 169 0 = false:=rfl
@[simp] theorem cv169_1:cx.cv 169 1 = true:=rfl
@[simp] theorem cv169_2:cx.cv 169 2 = false:=rfl
@[simp] theorem cv169_3:cx.cv 169 3 = false:=rfl
@[simp] theorem ng8:CV 170∧CV 171∧CV 172∧CV 173∧CV 174∧CV 175∧CV 177∧CV 178∧CV 179∧CV 180∧CV 181∧CV 183∧CV 185∧CV 186∧CV 190∧CV 191∧CV 192∧CV 193∧CV 194∧CV 195∧CV 196∧CV 197∧CV 198∧CV 199∧CV 200∧CV 201∧CV 211∧CV 212∧CV 218∧CV 219:=by and_intros<;>exact fun _=>rfl
@[simp] theorem ng9:CV 222∧CV 223∧CV 224∧CV 225∧CV 228∧CV 230:=by and_intros<;>exact fun _=>rfl
@[simp] theorem ng10:LP 7∧LP 9∧LP 12∧LP 14∧LP 15∧LP 16∧LP 17∧LP 18∧LP 19∧LP 20∧LP 21∧LP 22∧LP 23∧LP 24∧LP 25∧LP 26∧LP 28:=by and_intros<;>exact fun _=>rfl
@[simp] theorem lp30_0:cx.lp 30 0 = none:=rfl
@[simp] theorem lp30_1:cx.lp 30 1 = none:=rfl
@[simp] theorem lp30_2:cx.lp 30 2 = none:=rfl
@[simp] theorem lp30_3:cx.lp 30 3 = none:=rfl
@[simp] theorem lp30_4:cx.lp 30 4 = none:=rfl
@[simp] theorem lp30_5:cx.lp 30 5 = some ([(5,2)],[]):=rfl
@[simp] theorem lp30_6:cx.lp 30 6 = none:=rfl
@[simp] theorem lp30_7:cx.lp 30 7 = none:=rfl
@[simp] theorem lp30_8:cx.lp 30 8 = none:=rfl
@[simp] theorem lp30_9:cx.lp 30 9 = none:=rfl
@[simp] theorem lp30_10:cx.lp 30 10 = none:=rfl
@[simp] theorem lp30_11:cx.lp 30 11 = none:=rfl
@[simp] theorem lp30_12:cx.lp 30 12 = none:=rfl
@[simp] theorem ng11:LP 31∧LP 32∧LP 34∧LP 35:=by and_intros<;>exact fun _=>rfl
@[simp] theorem lp36_0:cx.lp 36 0 = none:=rfl
@[simp] theorem lp36_1:cx.lp 36 1 = none:=rfl
@[simp] theorem lp36_2:cx.lp 36 2 = none:=rfl
@[simp] theorem lp36_3:cx.lp 36 3 = none:=rfl
@[simp] theorem lp36_4:cx.lp 36 4 = none:=rfl
@[simp] theorem lp36_5:cx.lp 36 5 = none:=rfl
@[simp] theorem lp36_6:cx.lp 36 6 = none:=rfl
@[simp] theorem lp36_7:cx.lp 36 7 = none:=rfl
@[simp] theorem lp36_8:cx.lp 36 8 = none:=rfl
@[simp] theorem lp36_9:cx.lp 36 9 = none:=rfl
@[simp] theorem lp36_10:cx.lp 36 10 = none:=rfl
@[simp] theorem lp36_11:cx.lp 36 11 = none:=rfl
@[simp] theorem lp36_12:cx.lp 36 12 = none:=rfl
@[simp] theorem lp36_13:cx.lp 36 13 = none:=rfl
@[simp] theorem lp36_14:cx.lp 36 14 = none:=rfl
@[simp] theorem lp36_15:cx.lp 36 15 = none:=rfl
@[simp] theorem lp36_16:cx.lp 36 16 = none:=rfl
@[simp] theorem lp36_17:cx.lp 36 17 = none:=rfl
@[simp] theorem lp36_18:cx.lp 36 18 = none:=rfl
@[simp] theorem lp36_19:cx.lp 36 19 = none:=rfl
@[simp] theorem lp36_20:cx.lp 36 20 = some ([(8,11),(14,11),(17,11)],[]):=rfl
@[simp] theorem lp36_21:cx.lp 36 21 = none:=rfl
@[simp] theorem ng12:LP 40∧LP 41∧LP 42∧LP 43∧LP 44∧LP 45∧LP 46∧LP 47∧LP 48∧LP 49∧LP 50∧LP 51∧LP 52∧LP 53∧LP 54∧LP 55∧LP 56∧LP 57∧LP 58∧LP 59∧LP 60∧LP 61∧LP 62∧LP 63∧LP 64∧LP 65∧LP 66∧LP 67∧LP 68∧LP 71:=by and_intros<;>exact fun _=>rfl
@[simp] theorem ng13:LP 72∧LP 73∧LP 75∧LP 79∧LP 81∧LP 82∧LP 84∧LP 85∧LP 86∧LP 87∧LP 88:=by and_intros<;>exact fun _=>rfl
@[simp] theorem lp89_0:cx.lp 89 0 = none:=rfl
@[simp] theorem lp89_1:cx.lp 89 1 = none:=rfl
@[simp] theorem lp89_2:cx.lp 89 2 = none:=rfl
@[simp] theorem lp89_3:cx.lp 89 3 = none:=rfl
@[simp] theorem lp89_4:cx.lp 89 4 = none:=rfl
@[simp] theorem lp89_5:cx.lp 89 5 = none:=rfl
@[simp] theorem lp89_6:cx.lp 89 6 = none:=rfl
@[simp] theorem lp89_7:cx.lp 89 7 = none:=rfl
@[simp] theorem lp89_8:cx.lp 89 8 = none:=rfl
@[simp] theorem lp89_9:cx.lp 89 9 = none:=rfl
@[simp] theorem lp89_10:cx.lp 89 10 = none:=rfl
@[simp] theorem lp89_11:cx.lp 89 11 = none:=rfl
@[simp] theorem lp89_12:cx.lp 89 12 = none:=rfl
@[simp] theorem lp89_13:cx.lp 89 13 = some ([(10,2),(10,14)],[]):=rfl
@[simp] theorem lp89_14:cx.lp 89 14 = none:=rfl
@[simp] theorem ng14:LP 90∧LP 91∧LP 92∧LP 93∧LP 94∧LP 95∧LP 96∧LP 97∧LP 98∧LP 99∧LP 100∧LP 102∧LP 104∧LP 106∧LP 107∧LP 108∧LP 109∧LP 110∧LP 111∧LP 112∧LP 113∧LP 114∧LP 115∧LP 116∧LP 117∧LP 118∧LP 119∧LP 120∧LP 122∧LP 126:=by and_intros<;>exact fun _=>rfl
@[simp] theorem ng15:LP 127∧LP 128∧LP 129∧LP 130∧LP 131∧LP 132∧LP 133∧LP 134∧LP 135∧LP 136∧LP 137∧LP 138:=by and_intros<;>exact fun _=>rfl
@[simp] theorem lp139_0:cx.lp 139 0 = none:=rfl
@[simp] theorem lp139_1:cx.lp 139 1 = some ([(7,4)],[]):=rfl
@[simp] theorem ng16:LP 140∧LP 141∧LP 142∧LP 144∧LP 145∧LP 146∧LP 147∧LP 148∧LP 149∧LP 150∧LP 151∧LP 152∧LP 155∧LP 156∧LP 157∧LP 158∧LP 159∧LP 160∧LP 161∧LP 162∧LP 163∧LP 166∧LP 167∧LP 169∧LP 170∧LP 171∧LP 172∧LP 173∧LP 174∧LP 175:=by and_intros<;>exact fun _=>rfl
@[simp] theorem ng17:LP 177∧LP 178∧LP 179∧LP 180∧LP 181∧LP 183∧LP 185∧LP 186∧LP 190∧LP 191∧LP 192∧LP 193∧LP 194∧LP 195∧LP 196∧LP 197∧LP 198∧LP 199∧LP 200∧LP 201∧LP 211∧LP 212∧LP 218∧LP 219∧LP 222∧LP 223∧LP 224∧LP 225∧LP 228∧LP 230:=by and_intros<;>exact fun _=>rfl
end
def TxtRun [MaxL] [TxtC]:Prop:= ∀ {f:Nat} {args:List D} {H:Heap} {r:D} {H':Heap},TxtC.t f args H = some (r,H')→∀ {ok:Nat→Prop} {w:World} {ι:Iota} {vs:List Value},Sim cx ok w ι H→RepL ok w ι H args vs→Goes cx.P (callFunc f vs.toArray) w (CallPost cx ok w ι H r H')
section
variable [MaxL] [TxtC]
@[simp] theorem cxP:cx.P = Tryz.prog:=rfl
@[simp] theorem cxD:cx.dynV = true:=rfl
@[simp] theorem gl1:cx.glob 1 = some [.iface 281 (.vptr [.str gs1])]:=rfl
@[simp] theorem gl2:cx.glob 2 = some [.iface 281 (.vptr [.str gs2])]:=rfl
@[simp] theorem gl3:cx.glob 3 = some gd3:=rfl
@[simp] theorem gl4:cx.glob 4 = some gd4:=rfl
@[simp] theorem gl5:cx.glob 5 = some gd5:=rfl
@[simp] theorem br3:FA 3 false false false:=⟨rfl,rfl,rfl⟩
@[simp] theorem br4:FA 4 false false false:=⟨rfl,rfl,rfl⟩
@[simp] theorem br5:FA 5 false false false:=⟨rfl,rfl,rfl⟩
@[simp] theorem br6:FA 6 false false false:=⟨rfl,rfl,rfl⟩
@[simp] theorem br7:FZ 7 false false false true:=⟨⟨rfl,rfl,rfl⟩,rfl⟩
@[simp] theorem br8:FA 8 false false false:=⟨rfl,rfl,rfl⟩
@[simp] theorem br9:FZ 9 false false false false:=⟨⟨rfl,rfl,rfl⟩,rfl⟩
@[simp] theorem br10:FA 10 false false false:=⟨rfl,rfl,rfl⟩
@[simp] theorem br11:FA 11 true false false:=⟨rfl,rfl,rfl⟩
@[simp] theorem lc11:cx.loc 11 = false:=rfl
@[simp] theorem lc12:cx.loc 12 = true:=rfl
@[simp] theorem lm12:cx.lom 12 = true:=rfl
@[simp] theorem br12:FZ 12 true false false true:=⟨⟨rfl,rfl,rfl⟩,rfl⟩
@[simp] theorem br13:FA 13 true false false:=⟨rfl,rfl,rfl⟩
@[simp] theorem lc13:cx.loc 13 = true:=rfl
@[simp] theorem lm13:cx.lom 13 = false:=rfl
@[simp] theorem lc14:cx.loc 14 = true:=rfl
@[simp] theorem lm14:cx.lom 14 = true:=rfl
@[simp] theorem br14:FZ 14 true false false true:=⟨⟨rfl,rfl,rfl⟩,rfl⟩
@[simp] theorem br15:FZ 15 false false true true:=⟨⟨rfl,rfl,rfl⟩,rfl⟩
@[simp] theorem br16:FZ 16 false false false true:=⟨⟨rfl,rfl,rfl⟩,rfl⟩
@[simp] theorem lc17:cx.loc 17 = true:=rfl
@[simp] theorem lm17:cx.lom 17 = true:=rfl
@[simp] theorem br17:FZ 17 true false false true:=⟨⟨rfl,rfl,rfl⟩,rfl⟩
@[simp] theorem lc18:cx.loc 18 = true:=rfl
@[simp] theorem lm18:cx.lom 18 = true:=rfl
@[simp] theorem br18:FZ 18 true false false true:=⟨⟨rfl,rfl,rfl⟩,rfl⟩
@[simp] theorem br19:FZ 19 false false false true:=⟨⟨rfl,rfl,rfl⟩,rfl⟩
@[simp] theorem br20:FZ 20 false false true true:=⟨⟨rfl,rfl,rfl⟩,rfl⟩
@[simp] theorem br21:FZ 21 false true true true:=⟨⟨rfl,rfl,rfl⟩,rfl⟩
@[simp] theorem br22:FZ 22 false true true true:=⟨⟨rfl,rfl,rfl⟩,rfl⟩
@[simp] theorem lc23:cx.loc 23 = true:=rfl
@[simp] theorem lm23:cx.lom 23 = true:=rfl
@[simp] theorem br23:FZ 23 true false false true:=⟨⟨rfl,rfl,rfl⟩,rfl⟩
@[simp] theorem br24:FZ 24 false false true true:=⟨⟨rfl,rfl,rfl⟩,rfl⟩
@[simp] theorem br25:FZ 25 false false true true:=⟨⟨rfl,rfl,rfl⟩,rfl⟩
@[simp] theorem br26:FZ 26 false false true true:=⟨⟨rfl,rfl,rfl⟩,rfl⟩
@[simp] theorem br27:FA 27 true false false:=⟨rfl,rfl,rfl⟩
@[simp] theorem lc27:cx.loc 27 = true:=rfl
@[simp] theorem lm27:cx.lom 27 = false:=rfl
@[simp] theorem br28:FZ 28 false false true true:=⟨⟨rfl,rfl,rfl⟩,rfl⟩
@[simp] theorem br29:FA 29 true false false:=⟨rfl,rfl,rfl⟩
@[simp] theorem lc29:cx.loc 29 = false:=rfl
@[simp] theorem lc30:cx.loc 30 = true:=rfl
@[simp] theorem lm30:cx.lom 30 = false:=rfl
@[simp] theorem br30:FZ 30 true true false false:=⟨⟨rfl,rfl,rfl⟩,rfl⟩
@[simp] theorem br31:FZ 31 false true false true:=⟨⟨rfl,rfl,rfl⟩,rfl⟩
@[simp] theorem br32:FZ 32 false true false true:=⟨⟨rfl,rfl,rfl⟩,rfl⟩
@[simp] theorem br33:FA 33 false false true:=⟨rfl,rfl,rfl⟩
@[simp] theorem br34:FZ 34 false false true true:=⟨⟨rfl,rfl,rfl⟩,rfl⟩
@[simp] theorem lc35:cx.loc 35 = true:=rfl
@[simp] theorem lm35:cx.lom 35 = true:=rfl
@[simp] theorem br35:FZ 35 true false false true:=⟨⟨rfl,rfl,rfl⟩,rfl⟩
@[simp] theorem lc36:cx.loc 36 = true:=rfl
@[simp] theorem lm36:cx.lom 36 = true:=rfl
@[simp] theorem br36:FZ 36 true false false true:=⟨⟨rfl,rfl,rfl⟩,rfl⟩
@[simp] theorem br37:FA 37 false false true:=⟨rfl,rfl,rfl⟩
@[simp] theorem br38:FA 38 false false true:=⟨rfl,rfl,rfl⟩
@[simp] theorem br39:FA 39 true false false:=⟨rfl,rfl,rfl⟩
@[simp] theorem lc39:cx.loc 39 = true:=rfl
@[simp] theorem lm39:cx.lom 39 = false:=rfl
@[simp] theorem lc40:cx.loc 40 = false:=rfl
@[simp] theorem br40:FZ 40 true false false false:=⟨⟨rfl,rfl,rfl⟩,rfl⟩
@[simp] theorem br41:FZ 41 false false false true:=⟨⟨rfl,rfl,rfl⟩,rfl⟩
@[simp] theorem br42:FZ 42 false false true true:=⟨⟨rfl,rfl,rfl⟩,rfl⟩
@[simp] theorem br43:FZ 43 false false false true:=⟨⟨rfl,rfl,rfl⟩,rfl⟩
@[simp] theorem br44:FZ 44 false false false false:=⟨⟨rfl,rfl,rfl⟩,rfl⟩
@[simp] theorem br45:FZ 45 false false false true:=⟨⟨rfl,rfl,rfl⟩,rfl⟩
@[simp] theorem br46:FZ 46 false false false true:=⟨⟨rfl,rfl,rfl⟩,rfl⟩
@[simp] theorem br47:FZ 47 false false true true:=⟨⟨rfl,rfl,rfl⟩,rfl⟩
@[simp] theorem br48:FZ 48 false false true true:=⟨⟨rfl,rfl,rfl⟩,rfl⟩
@[simp] theorem br49:FZ 49 false false true true:=⟨⟨rfl,rfl,rfl⟩,rfl⟩
@[simp] theorem br50:FZ 50 false false true true:=⟨⟨rfl,rfl,rfl⟩,rfl⟩
@[simp] theorem br51:FZ 51 false false false true:=⟨⟨rfl,rfl,rfl⟩,rfl⟩
@[simp] theorem br52:FZ 52 false false false true:=⟨⟨rfl,rfl,rfl⟩,rfl⟩
@[simp] theorem br53:FZ 53 false false false true:=⟨⟨rfl,rfl,rfl⟩,rfl⟩
@[simp] theorem lc54:cx.loc 54 = true:=rfl
@[simp] theorem lm54:cx.lom 54 = false:=rfl
@[simp] theorem br54:FZ 54 true false false true:=⟨⟨rfl,rfl,rfl⟩,rfl⟩
@[simp] theorem br55:FZ 55 false true false true:=⟨⟨rfl,rfl,rfl⟩,rfl⟩
@[simp] theorem br56:FZ 56 false true false true:=⟨⟨rfl,rfl,rfl⟩,rfl⟩
@[simp] theorem br57:FZ 57 false false true true:=⟨⟨rfl,rfl,rfl⟩,rfl⟩
@[simp] theorem lc58:cx.loc 58 = true:=rfl
@[simp] theorem lm58:cx.lom 58 = false:=rfl
@[simp] theorem br58:FZ 58 true false false true:=⟨⟨rfl,rfl,rfl⟩,rfl⟩
@[simp] theorem lc59:cx.loc 59 = true:=rfl
@[simp] theorem lm59:cx.lom 59 = false:=rfl
@[simp] theorem br59:FZ 59 true false false true:=⟨⟨rfl,rfl,rfl⟩,rfl⟩
@[simp] theorem br60:FZ 60 false false true true:=⟨⟨rfl,rfl,rfl⟩,rfl⟩
@[simp] theorem lc61:cx.loc 61 = true:=rfl
@[simp] theorem lm61:cx.lom 61 = false:=rfl
@[simp] theorem br61:FZ 61 true false false true:=⟨⟨rfl,rfl,rfl⟩,rfl⟩
@[simp] theorem br62:FZ 62 false false false true:=⟨⟨rfl,rfl,rfl⟩,rfl⟩
@[simp] theorem br63:FZ 63 false false false false:=⟨⟨rfl,rfl,rfl⟩,rfl⟩
@[simp] theorem br64:FZ 64 false false true true:=⟨⟨rfl,rfl,rfl⟩,rfl⟩
@[simp] theorem br65:FZ 65 false true false true:=⟨⟨rfl,rfl,rfl⟩,rfl⟩
@[simp] theorem br66:FZ 66 false false false true:=⟨⟨rfl,rfl,rfl⟩,rfl⟩
@[simp] theorem br67:FZ 67 false true true true:=⟨⟨rfl,rfl,rfl⟩,rfl⟩
@[simp] theorem br68:FZ 68 false false true true:=⟨⟨rfl,rfl,rfl⟩,rfl⟩
@[simp] theorem br69:FA 69 false false true:=⟨rfl,rfl,rfl⟩
@[simp] theorem br70:FA 70 false false true:=⟨rfl,rfl,rfl⟩
@[simp] theorem br71:FZ 71 false true false true:=⟨⟨rfl,rfl,rfl⟩,rfl⟩
@[simp] theorem br72:FZ 72 false false false true:=⟨⟨rfl,rfl,rfl⟩,rfl⟩
@[simp] theorem br73:FZ 73 false false false true:=⟨⟨rfl,rfl,rfl⟩,rfl⟩
@[simp] theorem br74:FA 74 false false false:=⟨rfl,rfl,rfl⟩
@[simp] theorem br75:FZ 75 false false false true:=⟨⟨rfl,rfl,rfl⟩,rfl⟩
@[simp] theorem br76:FA 76 false false false:=⟨rfl,rfl,rfl⟩
@[simp] theorem br77:FA 77 false false false:=⟨rfl,rfl,rfl⟩
@[simp] theorem br78:FA 78 false false true:=⟨rfl,rfl,rfl⟩
@[simp] theorem br79:FZ 79 false false false true:=⟨⟨rfl,rfl,rfl⟩,rfl⟩
@[simp] theorem br80:FA 80 false true false:=⟨rfl,rfl,rfl⟩
@[simp] theorem br81:FZ 81 false false true true:=⟨⟨rfl,rfl,rfl⟩,rfl⟩
@[simp] theorem br82:FZ 82 false false true true:=⟨⟨rfl,rfl,rfl⟩,rfl⟩
@[simp] theorem br83:FA 83 false false false:=⟨rfl,rfl,rfl⟩
@[simp] theorem br84:FZ 84 false false true true:=⟨⟨rfl,rfl,rfl⟩,rfl⟩
@[simp] theorem br85:FZ 85 false false false false:=⟨⟨rfl,rfl,rfl⟩,rfl⟩
@[simp] theorem br86:FZ 86 false false true true:=⟨⟨rfl,rfl,rfl⟩,rfl⟩
@[simp] theorem br87:FZ 87 false false false true:=⟨⟨rfl,rfl,rfl⟩,rfl⟩
@[simp] theorem br88:FZ 88 false false true true:=⟨⟨rfl,rfl,rfl⟩,rfl⟩
@[simp] theorem br89:FZ 89 false false false true:=⟨⟨rfl,rfl,rfl⟩,rfl⟩
@[simp] theorem br90:FZ 90 false false false true:=⟨⟨rfl,rfl,rfl⟩,rfl⟩
@[simp] theorem br91:FZ 91 false false false true:=⟨⟨rfl,rfl,rfl⟩,rfl⟩
@[simp] theorem br92:FZ 92 false false false false:=⟨⟨rfl,rfl,rfl⟩,rfl⟩
@[simp] theorem br93:FZ 93 false false false true:=⟨⟨rfl,rfl,rfl⟩,rfl⟩
@[simp] theorem lc94:cx.loc 94 = true:=rfl
@[simp] theorem lm94:cx.lom 94 = false:=rfl
@[simp] theorem br94:FZ 94 true false false true:=⟨⟨rfl,rfl,rfl⟩,rfl⟩
@[simp] theorem br95:FZ 95 false false true true:=⟨⟨rfl,rfl,rfl⟩,rfl⟩
@[simp] theorem br96:FZ 96 false false true true:=⟨⟨rfl,rfl,rfl⟩,rfl⟩
@[simp] theorem br97:FZ 97 false false true true:=⟨⟨rfl,rfl,rfl⟩,rfl⟩
@[simp] theorem br98:FZ 98 false false true true:=⟨⟨rfl,rfl,rfl⟩,rfl⟩
@[simp] theorem br99:FZ 99 false false true true:=⟨⟨rfl,rfl,rfl⟩,rfl⟩
@[simp] theorem br100:FZ 100 false false true true:=⟨⟨rfl,rfl,rfl⟩,rfl⟩
@[simp] theorem br102:FZ 102 false false true true:=⟨⟨rfl,rfl,rfl⟩,rfl⟩
@[simp] theorem br104:FZ 104 false false false true:=⟨⟨rfl,rfl,rfl⟩,rfl⟩
@[simp] theorem br105:FA 105 false false false:=⟨rfl,rfl,rfl⟩
@[simp] theorem br106:FZ 106 false false true true:=⟨⟨rfl,rfl,rfl⟩,rfl⟩
@[simp] theorem br107:FZ 107 false false false true:=⟨⟨rfl,rfl,rfl⟩,rfl⟩
@[simp] theorem br108:FZ 108 false false false true:=⟨⟨rfl,rfl,rfl⟩,rfl⟩
@[simp] theorem br109:FZ 109 false true false true:=⟨⟨rfl,rfl,rfl⟩,rfl⟩
@[simp] theorem br110:FZ 110 false false false true:=⟨⟨rfl,rfl,rfl⟩,rfl⟩
@[simp] theorem br111:FZ 111 false false true true:=⟨⟨rfl,rfl,rfl⟩,rfl⟩
@[simp] theorem br112:FZ 112 false false false true:=⟨⟨rfl,rfl,rfl⟩,rfl⟩
@[simp] theorem br113:FZ 113 false false false true:=⟨⟨rfl,rfl,rfl⟩,rfl⟩
@[simp] theorem br114:FZ 114 false false false true:=⟨⟨rfl,rfl,rfl⟩,rfl⟩
@[simp] theorem br115:FZ 115 false true false true:=⟨⟨rfl,rfl,rfl⟩,rfl⟩
@[simp] theorem br116:FZ 116 false false false true:=⟨⟨rfl,rfl,rfl⟩,rfl⟩
@[simp] theorem br117:FZ 117 false false false true:=⟨⟨rfl,rfl,rfl⟩,rfl⟩
@[simp] theorem br118:FZ 118 false true false true:=⟨⟨rfl,rfl,rfl⟩,rfl⟩
@[simp] theorem br119:FZ 119 false true false true:=⟨⟨rfl,rfl,rfl⟩,rfl⟩
@[simp] theorem br120:FZ 120 false false true true:=⟨⟨rfl,rfl,rfl⟩,rfl⟩
@[simp] theorem br121:FA 121 false false false:=⟨rfl,rfl,rfl⟩
@[simp] theorem br122:FZ 122 false false false true:=⟨⟨rfl,rfl,rfl⟩,rfl⟩
@[simp] theorem br124:FA 124 false false false:=⟨rfl,rfl,rfl⟩
@[simp] theorem br126:FZ 126 false false false true:=⟨⟨rfl,rfl,rfl⟩,rfl⟩
@[simp] theorem br127:FZ 127 false false true true:=⟨⟨rfl,rfl,rfl⟩,rfl⟩
@[simp] theorem br128:FZ 128 false false true true:=⟨⟨rfl,rfl,rfl⟩,rfl⟩
@[simp] theorem br129:FZ 129 false false false true:=⟨⟨rfl,rfl,rfl⟩,rfl⟩
@[simp] theorem br130:FZ 130 false false true true:=⟨⟨rfl,rfl,rfl⟩,rfl⟩
@[simp] theorem br131:FZ 131 false false true true:=⟨⟨rfl,rfl,rfl⟩,rfl⟩
@[simp] theorem br132:FZ 132 false false true true:=⟨⟨rfl,rfl,rfl⟩,rfl⟩
@[simp] theorem br133:FZ 133 false false true true:=⟨⟨rfl,rfl,rfl⟩,rfl⟩
@[simp] theorem br134:FZ 134 false false true true:=⟨⟨rfl,rfl,rfl⟩,rfl⟩
@[simp] theorem br135:FZ 135 false false true true:=⟨⟨rfl,rfl,rfl⟩,rfl⟩
@[simp] theorem br136:FZ 136 false false true true:=⟨⟨rfl,rfl,rfl⟩,rfl⟩
@[simp] theorem br137:FZ 137 false false true true:=⟨⟨rfl,rfl,rfl⟩,rfl⟩
@[simp] theorem br138:FZ 138 false false true true:=⟨⟨rfl,rfl,rfl⟩,rfl⟩
@[simp] theorem lc139:cx.loc 139 = true:=rfl
@[simp] theorem lm139:cx.lom 139 = false:=rfl
@[simp] theorem br139:FZ 139 true false false true:=⟨⟨rfl,rfl,rfl⟩,rfl⟩
@[simp] theorem br140:FZ 140 false false true true:=⟨⟨rfl,rfl,rfl⟩,rfl⟩
@[simp] theorem br141:FZ 141 false false true true:=⟨⟨rfl,rfl,rfl⟩,rfl⟩
@[simp] theorem br142:FZ 142 false false true true:=⟨⟨rfl,rfl,rfl⟩,rfl⟩
@[simp] theorem br144:FZ 144 false false true true:=⟨⟨rfl,rfl,rfl⟩,rfl⟩
@[simp] theorem br145:FZ 145 false false false true:=⟨⟨rfl,rfl,rfl⟩,rfl⟩
@[simp] theorem lc146:cx.loc 146 = true:=rfl
@[simp] theorem lm146:cx.lom 146 = false:=rfl
@[simp] theorem br146:FZ 146 true false false true:=⟨⟨rfl,rfl,rfl⟩,rfl⟩
@[simp] theorem lc147:cx.loc 147 = true:=rfl
@[simp] theorem lm147:cx.lom 147 = false:=rfl
@[simp] theorem br147:FZ 147 true false false true:=⟨⟨rfl,rfl,rfl⟩,rfl⟩
@[simp] theorem br148:FZ 148 false false false true:=⟨⟨rfl,rfl,rfl⟩,rfl⟩
@[simp] theorem lc149:cx.loc 149 = false:=rfl
@[simp] theorem br149:FZ 149 true false false true:=⟨⟨rfl,rfl,rfl⟩,rfl⟩
@[simp] theorem br150:FZ 150 false false true true:=⟨⟨rfl,rfl,rfl⟩,rfl⟩
@[simp] theorem br151:FZ 151 false false false true:=⟨⟨rfl,rfl,rfl⟩,rfl⟩
@[simp] theorem br152:FZ 152 false false false true:=⟨⟨rfl,rfl,rfl⟩,rfl⟩
@[simp] theorem br155:FZ 155 false false false true:=⟨⟨rfl,rfl,rfl⟩,rfl⟩
@[simp] theorem br156:FZ 156 false false true true:=⟨⟨rfl,rfl,rfl⟩,rfl⟩
@[simp] theorem br157:FZ 157 false false false true:=⟨⟨rfl,rfl,rfl⟩,rfl⟩
@[simp] theorem br158:FZ 158 false false false true:=⟨⟨rfl,rfl,rfl⟩,rfl⟩
@[simp] theorem br159:FZ 159 false false false true:=⟨⟨rfl,rfl,rfl⟩,rfl⟩
@[simp] theorem br160:FZ 160 false false true true:=⟨⟨rfl,rfl,rfl⟩,rfl⟩
@[simp] theorem br161:FZ 161 false false true true:=⟨⟨rfl,rfl,rfl⟩,rfl⟩
@[simp] theorem br162:FZ 162 false false true true:=⟨⟨rfl,rfl,rfl⟩,rfl⟩
@[simp] theorem br163:FZ 163 false false true true:=⟨⟨rfl,rfl,rfl⟩,rfl⟩
@[simp] theorem br164:FA 164 false false false:=⟨rfl,rfl,rfl⟩
@[simp] theorem br165:FA 165 false false false:=⟨rfl,rfl,rfl⟩
@[simp] theorem br166:FZ 166 false false true true:=⟨⟨rfl,rfl,rfl⟩,rfl⟩
@[simp] theorem br167:FZ 167 false false false true:=⟨⟨rfl,rfl,rfl⟩,rfl⟩
@[simp] theorem lc169:cx.loc 169 = true:=rfl
@[simp] theorem lm169:cx.lom 169 = false:=rfl
@[simp] theorem br169:FZ 169 true false false true:=⟨⟨rfl,rfl,rfl⟩,rfl⟩
@[simp] theorem lc170:cx.loc 170 = true:=rfl
@[simp] theorem lm170:cx.lom 170 = false:=rfl
@[simp] theorem br170:FZ 170 true false false true:=⟨⟨rfl,rfl,rfl⟩,rfl⟩
@[simp] theorem lc171:cx.loc 171 = true:=rfl
@[simp] theorem lm171:cx.lom 171 = false:=rfl
@[simp] theorem br171:FZ 171 true false false true:=⟨⟨rfl,rfl,rfl⟩,rfl⟩
@[simp] theorem lc172:cx.loc 172 = true:=rfl
@[simp] theorem lm172:cx.lom 172 = false:=rfl
@[simp] theorem br172:FZ 172 true false false true:=⟨⟨rfl,rfl,rfl⟩,rfl⟩
@[simp] theorem br173:FZ 173 false false false true:=⟨⟨rfl,rfl,rfl⟩,rfl⟩
@[simp] theorem br174:FZ 174 false false true true:=⟨⟨rfl,rfl,rfl⟩,rfl⟩
@[simp] theorem lc175:cx.loc 175 = false:=rfl
@[simp] theorem br175:FZ 175 true false false true:=⟨⟨rfl,rfl,rfl⟩,rfl⟩
@[simp] theorem br176:FA 176 false false false:=⟨rfl,rfl,rfl⟩
@[simp] theorem br177:FZ 177 false false false true:=⟨⟨rfl,rfl,rfl⟩,rfl⟩
@[simp] theorem br178:FZ 178 false false true true:=⟨⟨rfl,rfl,rfl⟩,rfl⟩
@[simp] theorem br179:FZ 179 false false false true:=⟨⟨rfl,rfl,rfl⟩,rfl⟩
@[simp] theorem br180:FZ 180 false false false true:=⟨⟨rfl,rfl,rfl⟩,rfl⟩
@[simp] theorem br181:FZ 181 false false false true:=⟨⟨rfl,rfl,rfl⟩,rfl⟩
@[simp] theorem br182:FA 182 false false false:=⟨rfl,rfl,rfl⟩
@[simp] theorem br183:FZ 183 false false true true:=⟨⟨rfl,rfl,rfl⟩,rfl⟩
@[simp] theorem br184:FA 184 false false false:=⟨rfl,rfl,rfl⟩
@[simp] theorem br185:FZ 185 false false false true:=⟨⟨rfl,rfl,rfl⟩,rfl⟩
@[simp] theorem br186:FZ 186 false false false true:=⟨⟨rfl,rfl,rfl⟩,rfl⟩
@[simp] theorem br187:FA 187 false false false:=⟨rfl,rfl,rfl⟩
@[simp] theorem br188:FA 188 false false false:=⟨rfl,rfl,rfl⟩
@[simp] theorem br189:FA 189 false false true:=⟨rfl,rfl,rfl⟩
@[simp] theorem br190:FZ 190 false false true true:=⟨⟨rfl,rfl,rfl⟩,rfl⟩
@[simp] theorem lc191:cx.loc 191 = false:=rfl
@[simp] theorem br191:FZ 191 true false false true:=⟨⟨rfl,rfl,rfl⟩,rfl⟩
@[simp] theorem br192:FZ 192 false false true true:=⟨⟨rfl,rfl,rfl⟩,rfl⟩
@[simp] theorem br193:FZ 193 false false true true:=⟨⟨rfl,rfl,rfl⟩,rfl⟩
@[simp] theorem br194:FZ 194 false false true true:=⟨⟨rfl,rfl,rfl⟩,rfl⟩
@[simp] theorem lc195:cx.loc 195 = false:=rfl
@[simp] theorem br195:FZ 195 true false false true:=⟨⟨rfl,rfl,rfl⟩,rfl⟩
@[simp] theorem lc196:cx.loc 196 = false:=rfl
@[simp] theorem br196:FZ 196 true false false true:=⟨⟨rfl,rfl,rfl⟩,rfl⟩
@[simp] theorem lc197:cx.loc 197 = false:=rfl
@[simp] theorem br197:FZ 197 true false false true:=⟨⟨rfl,rfl,rfl⟩,rfl⟩
@[simp] theorem br198:FZ 198 false false false true:=⟨⟨rfl,rfl,rfl⟩,rfl⟩
@[simp] theorem br199:FZ 199 false false true true:=⟨⟨rfl,rfl,rfl⟩,rfl⟩
@[simp] theorem br200:FZ 200 false false true true:=⟨⟨rfl,rfl,rfl⟩,rfl⟩
@[simp] theorem lc201:cx.loc 201 = false:=rfl
@[simp] theorem br201:FZ 201 true false false true:=⟨⟨rfl,rfl,rfl⟩,rfl⟩
@[simp] theorem br202:FA 202 false false false:=⟨rfl,rfl,rfl⟩
@[simp] theorem br203:FA 203 false false false:=⟨rfl,rfl,rfl⟩
@[simp] theorem br204:FA 204 false false false:=⟨rfl,rfl,rfl⟩
@[simp] theorem br205:FA 205 false false false:=⟨rfl,rfl,rfl⟩
@[simp] theorem br206:FA 206 false false false:=⟨rfl,rfl,rfl⟩
@[simp] theorem br207:FA 207 false false false:=⟨rfl,rfl,rfl⟩
@[simp] theorem br208:FA 208 false false false:=⟨rfl,rfl,rfl⟩
@[simp] theorem br209:FA 209 false false false:=⟨rfl,rfl,rfl⟩
@[simp] theorem br210:FA 210 false false true:=⟨rfl,rfl,rfl⟩
@[simp] theorem br211:FZ 211 false false true true:=⟨⟨rfl,rfl,rfl⟩,rfl⟩
@[simp] theorem br212:FZ 212 false false true true:=⟨⟨rfl,rfl,rfl⟩,rfl⟩
@[simp] theorem br213:FA 213 false false true:=⟨rfl,rfl,rfl⟩
@[simp] theorem br215:FA 215 false false true:=⟨rfl,rfl,rfl⟩
@[simp] theorem br216:FA 216 false false false:=⟨rfl,rfl,rfl⟩
@[simp] theorem br217:FA 217 false false false:=⟨rfl,rfl,rfl⟩
@[simp] theorem br218:FZ 218 false false true true:=⟨⟨rfl,rfl,rfl⟩,rfl⟩
@[simp] theorem br219:FZ 219 false false true true:=⟨⟨rfl,rfl,rfl⟩,rfl⟩
@[simp] theorem br220:FA 220 false false true:=⟨rfl,rfl,rfl⟩
@[simp] theorem br221:FA 221 false false true:=⟨rfl,rfl,rfl⟩
@[simp] theorem br222:FZ 222 false false true true:=⟨⟨rfl,rfl,rfl⟩,rfl⟩
@[simp] theorem br223:FZ 223 false false true true:=⟨⟨rfl,rfl,rfl⟩,rfl⟩
@[simp] theorem br224:FZ 224 false false false true:=⟨⟨rfl,rfl,rfl⟩,rfl⟩
@[simp] theorem br225:FZ 225 false false true true:=⟨⟨rfl,rfl,rfl⟩,rfl⟩
@[simp] theorem br226:FA 226 false false false:=⟨rfl,rfl,rfl⟩
@[simp] theorem br227:FA 227 false false false:=⟨rfl,rfl,rfl⟩
@[simp] theorem br228:FZ 228 false false false true:=⟨⟨rfl,rfl,rfl⟩,rfl⟩
@[simp] theorem br229:FA 229 false false false:=⟨rfl,rfl,rfl⟩
@[simp] theorem br230:FZ 230 false false false true:=⟨⟨rfl,rfl,rfl⟩,rfl⟩
@[simp] theorem br231:FA 231 false false true:=⟨rfl,rfl,rfl⟩
@[simp] theorem br232:FA 232 false false false:=⟨rfl,rfl,rfl⟩
@[simp] theorem br233:FA 233 false false false:=⟨rfl,rfl,rfl⟩
@[simp] theorem br234:FA 234 false false false:=⟨rfl,rfl,rfl⟩
@[simp] theorem br235:FA 235 false false false:=⟨rfl,rfl,rfl⟩
@[simp] theorem br236:FA 236 false false false:=⟨rfl,rfl,rfl⟩
@[simp] theorem br238:FA 238 false false false:=⟨rfl,rfl,rfl⟩
@[simp] theorem br239:FA 239 false false false:=⟨rfl,rfl,rfl⟩
@[simp] theorem br240:FA 240 false false true:=⟨rfl,rfl,rfl⟩
@[simp] theorem br241:FA 241 false false false:=⟨rfl,rfl,rfl⟩
@[simp] theorem br242:FA 242 false false false:=⟨rfl,rfl,rfl⟩
@[simp] theorem br244:FA 244 false false false:=⟨rfl,rfl,rfl⟩
@[simp] theorem br245:FA 245 false false false:=⟨rfl,rfl,rfl⟩
@[simp] theorem br246:FA 246 false false false:=⟨rfl,rfl,rfl⟩
end
theorem ex105 [MaxL] [TxtC] (args:List D):cx.ext 105 args = cmpExt args:=rfl
theorem ex226 [MaxL] [TxtC] (args:List D):cx.ext 226 args = idxBExt args:=rfl
theorem co182 [MaxL] [TxtC] (args:List D) (H:Heap):cx.con 182 args H = conIdx args H:=rfl
theorem co83 [MaxL] [TxtC] (args:List D) (H:Heap):cx.con 83 args H = conBIdx args H:=rfl
theorem co215 [MaxL] [TxtC] (args:List D) (H:Heap):cx.con 215 args H = conClone args H:=rfl
theorem co210 [MaxL] [TxtC] (args:List D) (H:Heap):cx.con 210 args H = conLen64 args H:=rfl
theorem co189 [MaxL] [TxtC] (args:List D) (H:Heap):cx.con 189 args H = conSmall args H:=rfl
theorem co64 [MaxL] [TxtC] (args:List D) (H:Heap):cx.con 64 args H = TxtC.t 64 args H:=rfl
theorem co200 [MaxL] [TxtC] (args:List D) (H:Heap):cx.con 200 args H = TxtC.t 200 args H:=rfl
theorem co231 [MaxL] [TxtC] (args:List D) (H:Heap):cx.con 231 args H = conDec args H:=rfl
theorem co213 [MaxL] [TxtC] (args:List D) (H:Heap):cx.con 213 args H = conIS MaxL.m args H:=rfl
end Go.Ev.S
namespace Go.Ev.S
open Go Go.Proofs Go.Ev
@[simp] theorem ng18 [MaxL] [TxtC]:EN 7 0 [0,1,2] 0∧EN 7 1 [0,1,2] 0∧EN 7 2 [0,1,2,7] 0∧EN 7 3 [] 0∧EN 7 4 [0,1,2,7] 0∧EN 7 5 [7] 0∧EN 7 6 [0,1,2,7] 0∧EN 7 7 [1,2,7,8] 0∧EN 7 8 [1,2,7,8,9] 0:=by and_intros<;>exact fun _ _ _=>rfl
@[simp] theorem en7_9 [MaxL] [TxtC] (n0:Nat) (e:Env) (H:Heap):enter cx 7 n0 9 e H = enterZ [8] [1,2,7,8,9] 0 n0 e H:=rfl
@[simp] theorem ng19 [MaxL] [TxtC]:EN 7 10 [1,2,7,8,9,10] 0∧EN 7 11 [1,2,7,8,9,10,11] 0:=by and_intros<;>exact fun _ _ _=>rfl
@[simp] theorem en7_12 [MaxL] [TxtC] (n0:Nat) (e:Env) (H:Heap):enter cx 7 n0 12 e H = enterR [] [9] [1,2,7,8,10,11,12] n0 e H:=rfl
@[simp] theorem ng20 [MaxL] [TxtC]:EN 7 13 [1,2,7,8,9,10,11,12] 0∧EN 7 14 [1,2,7,8,9,10,11,12] 0∧EN 7 15 [1,2,7,8,9,10,11,12,13] 0:=by and_intros<;>exact fun _ _ _=>rfl
@[simp] theorem en7_16 [MaxL] [TxtC] (n0:Nat) (e:Env) (H:Heap):enter cx 7 n0 16 e H = enterR [] [9] [1,2,7,8,10,11,12,13,14] n0 e H:=rfl
section
variable [MaxL] [TxtC]
@[simp] theorem ng21:EN 7 17 [1,2,7,8,9,10,11,12,13,14] 0∧EN 7 18 [1,2,7,8,9,10,11,12,13,14] 0∧EN 7 19 [1,2,7,8,9,10,12,13,14,15,16] 0∧EN 7 20 [] 0∧EN 7 21 [1,2,7,8,9,10,12,13,14,15] 0∧EN 7 22 [1,2,7,8,9,10,11,12,13] 0∧EN 7 23 [1,2,7,8,9,10,11,12,13,17] 0∧EN 7 24 [1,2,7,8,9,10,11,12,13,17,18] 0∧EN 7 25 [1,2,7,8,9,10,11,12,13,17,18,19] 0∧EN 7 26 [1,2,7,8,9,10,11,12,13,17,18,20,21] 0∧EN 7 27 [] 0∧EN 7 28 [1,2,7,8,9,10,11,12,13,17,18,20] 0∧EN 7 29 [1,2,7,8,9,10,11,12,13,18,20,21] 0∧EN 7 30 [1,2,7,8,9,10,11,12,18,20,21] 0∧EN 7 31 [] 0∧EN 7 32 [7,9,10,11] 0∧EN 7 33 [7,9,10,11,22,23] 0∧EN 7 34 [7,9,10,11,22,23,24,25,26] 0:=by and_intros<;>exact fun _ _ _=>rfl
@[simp] theorem ng22:EN 9 0 [] 0∧EN 9 1 [] 0:=by and_intros<;>exact fun _ _ _=>rfl
@[simp] theorem ng23:EN 12 0 [0,1] 0∧EN 12 1 [0,1] 0∧EN 12 2 [0,5,6] 0∧EN 12 3 [] 0∧EN 12 4 [0,5] 0∧EN 12 5 [0,5,7] 0∧EN 12 6 [0,5,7] 0∧EN 12 7 [0,7] 0∧EN 12 8 [0,5,7] 0∧EN 12 9 [0,5,7] 0∧EN 12 10 [0,7] 0∧EN 12 11 [7] 0:=by and_intros<;>exact fun _ _ _=>rfl
@[simp] theorem ng24:EN 14 0 [0] 0∧EN 14 1 [0] 0∧EN 14 2 [3] 0∧EN 14 3 [3,11,12] 0∧EN 14 4 [3,11,12] 0∧EN 14 5 [3,4,11,12] 0∧EN 14 6 [3,11,12] 0∧EN 14 7 [3] 0:=by and_intros<;>exact fun _ _ _=>rfl
@[simp] theorem ng25:EN 15 0 [0,1] 0∧EN 15 1 [0,1] 0∧EN 15 2 [] 0∧EN 15 3 [0,1] 0∧EN 15 4 [0,1,5] 0∧EN 15 5 [0,1,5] 0∧EN 15 6 [0,1,5] 0∧EN 15 7 [] 0∧EN 15 8 [] 0:=by and_intros<;>exact fun _ _ _=>rfl
@[simp] theorem ng26:EN 17 0 [0] 0∧EN 17 1 [0] 0:=by and_intros<;>exact fun _ _ _=>rfl
@[simp] theorem ng27:EN 18 0 [0] 0∧EN 18 1 [0] 0:=by and_intros<;>exact fun _ _ _=>rfl
@[simp] theorem ng28:EN 19 0 [0,1,2] 0∧EN 19 1 [0,2,4] 0∧EN 19 2 [0,2,4,8] 0∧EN 19 3 [0,2,4,8,10] 0∧EN 19 4 [0,4,8,10] 0∧EN 19 5 [0,4,8,10] 0∧EN 19 6 [0,2,4,8,10] 0∧EN 19 7 [0,2,4,8,10] 0∧EN 19 8 [0,4,8,10] 0∧EN 19 9 [0,4,8,10] 0∧EN 19 10 [4,10,11,12] 0∧EN 19 11 [12] 0∧EN 19 12 [4,10,11] 0∧EN 19 13 [] 0∧EN 19 14 [11] 0:=by and_intros<;>exact fun _ _ _=>rfl
@[simp] theorem ng29:EN 20 0 [0] 0∧EN 20 1 [0] 0∧EN 20 2 [0,3] 0∧EN 20 3 [0,3] 0∧EN 20 4 [0,3] 0∧EN 20 5 [] 0∧EN 20 6 [0] 0:=by and_intros<;>exact fun _ _ _=>rfl
@[simp] theorem ng30:EN 21 0 [0] 0∧EN 21 1 [0,2] 0∧EN 21 2 [0,2,4] 0∧EN 21 3 [2,4,5,6] 0∧EN 21 4 [2,6] 0∧EN 21 5 [2,4,5] 0:=by and_intros<;>exact fun _ _ _=>rfl
@[simp] theorem ng31:EN 22 0 [0] 0∧EN 22 1 [0,2] 0∧EN 22 2 [0,2,4] 0∧EN 22 3 [2,4,5,6] 0∧EN 22 4 [2,6] 0∧EN 22 5 [2,4,5] 0:=by and_intros<;>exact fun _ _ _=>rfl
@[simp] theorem ng32:EN 23 0 [0] 0∧EN 23 1 [0] 0:=by and_intros<;>exact fun _ _ _=>rfl
@[simp] theorem ng33:EN 24 0 [0,1] 0∧EN 24 1 [0,1] 0∧EN 24 2 [] 0∧EN 24 3 [0,1] 0:=by and_intros<;>exact fun _ _ _=>rfl
@[simp] theorem ng34:EN 25 0 [0,1] 0∧EN 25 1 [0,1] 0∧EN 25 2 [] 0∧EN 25 3 [0,1] 0∧EN 25 4 [0,1,5] 0∧EN 25 5 [0,1,5] 0∧EN 25 6 [0,1,5] 0∧EN 25 7 [] 0∧EN 25 8 [] 0:=by and_intros<;>exact fun _ _ _=>rfl
@[simp] theorem ng35:EN 28 0 [0] 0∧EN 28 1 [1] 0∧EN 28 2 [] 0∧EN 28 3 [1] 0:=by and_intros<;>exact fun _ _ _=>rfl
@[simp] theorem ng36:EN 30 0 [0,1] 0∧EN 30 1 [0,1] 0∧EN 30 2 [0,1,5] 0:=by and_intros<;>exact fun _ _ _=>rfl
end
@[simp] theorem en30_3 [MaxL] [TxtC] (n0:Nat) (e:Env) (H:Heap):enter cx 30 n0 3 e H = enterR [] [5,6] [0,1] n0 e H:=rfl
@[simp] theorem ng37 [MaxL] [TxtC]:EN 30 4 [0,1,5,6] 0∧EN 30 5 [0,1,5,6,7] 0∧EN 30 6 [0,1,5,6,7,8] 0∧EN 30 7 [0,1,5,6,7,8] 0∧EN 30 8 [0,1,5,6,7,8,9] 0∧EN 30 9 [0,1,5,6,7,9] 0∧EN 30 10 [0,1,5,6,7,8] 0∧EN 30 11 [0,1,5,6,7,8] 0∧EN 30 12 [5] 0:=by and_intros<;>exact fun _ _ _=>rfl
@[simp] theorem ng38 [MaxL] [TxtC]:EN 31 0 [0,1] 0∧EN 31 1 [0,1] 0∧EN 31 2 [] 0∧EN 31 3 [0,1] 0∧EN 31 4 [0,1,5] 0:=by and_intros<;>exact fun _ _ _=>rfl
@[simp] theorem en31_5 [MaxL] [TxtC] (n0:Nat) (e:Env) (H:Heap):enter cx 31 n0 5 e H = enterR [] [5] [1,23,24,25] n0 e H:=rfl
@[simp] theorem ng39 [MaxL] [TxtC]:EN 31 6 [1,5,23,24,25] 0∧EN 31 7 [1,5,7,23,24,25] 0∧EN 31 8 [1,5,8,23,24,25] 0∧EN 31 9 [] 0∧EN 31 10 [1,5,8,23,24,25] 0∧EN 31 11 [1,5,23,24,25] 0∧EN 31 12 [1,5] 0∧EN 31 13 [5] 0∧EN 31 14 [] 0∧EN 31 15 [5] 0:=by and_intros<;>exact fun _ _ _=>rfl
@[simp] theorem ng40 [MaxL] [TxtC]:EN 32 0 [0] 0∧EN 32 1 [0] 0∧EN 32 2 [] 0∧EN 32 3 [0] 0∧EN 32 4 [] 0∧EN 32 5 [0] 0∧EN 32 6 [0,5] 0∧EN 32 7 [0,5,21,22] 0∧EN 32 8 [0,5,21,22] 0∧EN 32 9 [0,5,6,21,22] 0∧EN 32 10 [0,5,6,7,21,22] 0∧EN 32 11 [0,5,6,7,8,21,22] 0∧EN 32 12 [] 0∧EN 32 13 [0,5,6,7,8,21,22] 0∧EN 32 14 [] 0∧EN 32 15 [0,5,7,8,21,22] 0∧EN 32 16 [] 0∧EN 32 17 [0,5,7,8,21,22] 0∧EN 32 18 [0,5,7,8,21,22] 0∧EN 32 19 [0,5,7,8,21,22] 0∧EN 32 20 [0,5,8,21,22] 0:=by and_intros<;>exact fun _ _ _=>rfl
@[simp] theorem en32_21 [MaxL] [TxtC] (n0:Nat) (e:Env) (H:Heap):enter cx 32 n0 21 e H = enterR [] [5] [0,21,22] n0 e H:=rfl
@[simp] theorem en32_22 [MaxL] [TxtC] (n0:Nat) (e:Env) (H:Heap):enter cx 32 n0 22 e H = enterK [5] 0 n0 e H:=rfl
section
variable [MaxL] [TxtC]
@[simp] theorem ng42:EN 34 0 [0] 0∧EN 34 1 [1] 0∧EN 34 2 [] 0∧EN 34 3 [1] 0:=by and_intros<;>exact fun _ _ _=>rfl
@[simp] theorem ng43:EN 35 0 [0,1] 0∧EN 35 1 [0,3] 0∧EN 35 2 [] 0∧EN 35 3 [0,3] 0∧EN 35 4 [0,3] 0∧EN 35 5 [0] 0:=by and_intros<;>exact fun _ _ _=>rfl
@[simp] theorem ng44:EN 36 0 [0,1] 0∧EN 36 1 [0,3] 0∧EN 36 2 [] 0∧EN 36 3 [0,3] 0∧EN 36 4 [] 0∧EN 36 5 [0,3] 0∧EN 36 6 [] 0∧EN 36 7 [0,3] 0∧EN 36 8 [0,3,5,6,7] 0∧EN 36 9 [] 0∧EN 36 10 [0,3,5,6] 0∧EN 36 11 [0,3,5,6,8] 0∧EN 36 12 [0,3,5,6,8,59,60,61] 2∧EN 36 13 [0,3,5,6,8,59,60,61] 0∧EN 36 14 [0,3,5,6,8,10,59,60,61] 0∧EN 36 15 [0,3,5,6,7,8,59,60,61] 0∧EN 36 16 [] 0∧EN 36 17 [0,3,5,6,8,59,60,61] 0∧EN 36 18 [0,3,5,6,8] 0∧EN 36 19 [] 0∧EN 36 20 [0,3,5,6] 0∧EN 36 21 [] 0:=by and_intros<;>exact fun _ _ _=>rfl
@[simp] theorem ng45:EN 40 0 [0] 0∧EN 40 1 [0] 0∧EN 40 2 [] 0∧EN 40 3 [0] 0:=by and_intros<;>exact fun _ _ _=>rfl
@[simp] theorem ng46:EN 41 0 [0] 0∧EN 41 1 [0] 0∧EN 41 2 [] 0∧EN 41 3 [0] 0:=by and_intros<;>exact fun _ _ _=>rfl
@[simp] theorem ng47:EN 42 0 [0,1] 0∧EN 42 1 [2,3] 0:=by and_intros<;>exact fun _ _ _=>rfl
@[simp] theorem ng48:EN 43 0 [0,1] 0∧EN 43 1 [0,3,4] 0∧EN 43 2 [0,3,4,6] 0∧EN 43 3 [0,3,4,6] 0∧EN 43 4 [0,3,4,6] 0∧EN 43 5 [0,4,6] 0∧EN 43 6 [3,4] 0:=by and_intros<;>exact fun _ _ _=>rfl
@[simp] theorem ng49:EN 44 0 [0] 0∧EN 44 1 [0] 0∧EN 44 2 [] 0∧EN 44 3 [0] 0:=by and_intros<;>exact fun _ _ _=>rfl
@[simp] theorem ng50:EN 45 0 [0,1] 0∧EN 45 1 [0,1] 0∧EN 45 2 [] 0∧EN 45 3 [0,1] 0:=by and_intros<;>exact fun _ _ _=>rfl
@[simp] theorem ng51:EN 46 0 [0,1] 0∧EN 46 1 [0,3] 0∧EN 46 2 [] 0∧EN 46 3 [0,3] 0∧EN 46 4 [0,3,7] 0∧EN 46 5 [] 0∧EN 46 6 [0,3] 0∧EN 46 7 [0,3,8] 0:=by and_intros<;>exact fun _ _ _=>rfl
end
@[simp] theorem en46_8 [MaxL] [TxtC] (n0:Nat) (e:Env) (H:Heap):enter cx 46 n0 8 e H = enterR [] [3,8] [0,9] n0 e H:=rfl
@[simp] theorem en46_9 [MaxL] [TxtC] (n0:Nat) (e:Env) (H:Heap):enter cx 46 n0 9 e H = enterK [0,3,8,9,10] 0 n0 e H:=rfl
@[simp] theorem en46_10 [MaxL] [TxtC] (n0:Nat) (e:Env) (H:Heap):enter cx 46 n0 10 e H = enterR [] [3,8] [0,9,10] n0 e H:=rfl
section
variable [MaxL] [TxtC]
@[simp] theorem ng53:EN 46 11 [0,3,8,9,10] 0∧EN 46 12 [0,3,8,9,10,11] 0∧EN 46 13 [0,3,8,10,11] 0∧EN 46 14 [0,3,8,9,10,11] 0∧EN 46 15 [0,3,8,9,10,11] 0∧EN 46 16 [0,3,8,9,10] 0∧EN 46 17 [3,8,9] 0∧EN 46 18 [3,8] 0∧EN 46 19 [8] 0:=by and_intros<;>exact fun _ _ _=>rfl
@[simp] theorem ng54:EN 47 0 [0,1] 0∧EN 47 1 [2,3] 0∧EN 47 2 [2,3,5] 0∧EN 47 3 [2,3,5] 0∧EN 47 4 [2,3,5] 0∧EN 47 5 [2,3,5] 0∧EN 47 6 [] 0:=by and_intros<;>exact fun _ _ _=>rfl
@[simp] theorem ng55:EN 48 0 [0,1] 0∧EN 48 1 [0,1,4] 0∧EN 48 2 [0,1,4,6] 0∧EN 48 3 [0,1,4,6,7] 0∧EN 48 4 [4] 0∧EN 48 5 [0,1,4,6,7] 0∧EN 48 6 [1,4,8,9] 0∧EN 48 7 [4,8,9,35,36,37] 3∧EN 48 8 [4,8,9,35,36,37] 0∧EN 48 9 [4,8,9,10,11,35,36,37] 0∧EN 48 10 [4,9,10,12] 0∧EN 48 11 [4,8,9,10,12,13,35,36,37] 0∧EN 48 12 [4,9,10,12] 0∧EN 48 13 [4] 0∧EN 48 14 [4,9,10,12] 0∧EN 48 15 [4] 0∧EN 48 16 [4,9,10,12] 0∧EN 48 17 [4] 0∧EN 48 18 [4,8,9,35,36,37] 0∧EN 48 19 [4] 0:=by and_intros<;>exact fun _ _ _=>rfl
@[simp] theorem ng56:EN 49 0 [0] 0∧EN 49 1 [0] 0∧EN 49 2 [0,3] 0∧EN 49 3 [3,4] 0∧EN 49 4 [] 0∧EN 49 5 [3,4] 0∧EN 49 6 [] 0∧EN 49 7 [3] 0:=by and_intros<;>exact fun _ _ _=>rfl
@[simp] theorem ng57:EN 50 0 [0] 0∧EN 50 1 [0] 0:=by and_intros<;>exact fun _ _ _=>rfl
@[simp] theorem ng58:EN 51 0 [0] 0∧EN 51 1 [0] 0:=by and_intros<;>exact fun _ _ _=>rfl
@[simp] theorem ng59:EN 52 0 [0,1,2,3] 0∧EN 52 1 [0,1,2,3] 0∧EN 52 2 [] 0∧EN 52 3 [0,1,2,3] 0:=by and_intros<;>exact fun _ _ _=>rfl
@[simp] theorem ng60:EN 58 0 [0] 0∧EN 58 1 [0] 0:=by and_intros<;>exact fun _ _ _=>rfl
@[simp] theorem ng61:EN 59 0 [0,1] 0∧EN 59 1 [0,1] 0∧EN 59 2 [] 0∧EN 59 3 [0,1] 0∧EN 59 4 [0,1] 0:=by and_intros<;>exact fun _ _ _=>rfl
@[simp] theorem ng62:EN 61 0 [0,1] 0∧EN 61 1 [0,1,4] 0∧EN 61 2 [0,1,4,5] 0:=by and_intros<;>exact fun _ _ _=>rfl
@[simp] theorem ng63:EN 62 0 [0] 0∧EN 62 1 [0] 0∧EN 62 2 [] 0∧EN 62 3 [0] 0∧EN 62 4 [0,3] 0∧EN 62 5 [0,3] 0∧EN 62 6 [0,3] 0∧EN 62 7 [] 0∧EN 62 8 [] 0:=by and_intros<;>exact fun _ _ _=>rfl
@[simp] theorem ng64:EN 63 0 [0,1,2] 0∧EN 63 1 [0,1,2] 0∧EN 63 2 [1,2,7] 0∧EN 63 3 [7] 0∧EN 63 4 [1,2,7] 0∧EN 63 5 [2,7,15,16] 0∧EN 63 6 [2,7,15,16] 0∧EN 63 7 [2,7,8,15,16] 0:=by and_intros<;>exact fun _ _ _=>rfl
end
@[simp] theorem en63_8 [MaxL] [TxtC] (n0:Nat) (e:Env) (H:Heap):enter cx 63 n0 8 e H = enterR [] [7] [2,15,16] n0 e H:=rfl
@[simp] theorem en63_9 [MaxL] [TxtC] (n0:Nat) (e:Env) (H:Heap):enter cx 63 n0 9 e H = enterK [7] 0 n0 e H:=rfl
@[simp] theorem ng66 [MaxL] [TxtC]:EN 64 0 [0] 0∧EN 64 1 [1] 0∧EN 64 2 [] 0∧EN 64 3 [1] 0∧EN 64 4 [1] 0∧EN 64 5 [1] 0∧EN 64 6 [1,3] 0∧EN 64 7 [1,3,4] 0∧EN 64 8 [3,4,59,60,61] 0∧EN 64 9 [3,4,59,60,61] 0∧EN 64 10 [3,4,6,59,60,61] 0∧EN 64 11 [3,4,59,60,61] 0∧EN 64 12 [3,4] 0∧EN 64 13 [4,70,71,72] 1∧EN 64 14 [4,70,71,72] 0∧EN 64 15 [4,8,70,71,72] 0∧EN 64 16 [4,70,71,72] 0∧EN 64 17 [4] 0∧EN 64 18 [4] 0:=by and_intros<;>exact fun _ _ _=>rfl
@[simp] theorem ng67 [MaxL] [TxtC]:EN 65 0 [0] 0∧EN 65 1 [0] 0:=by and_intros<;>exact fun _ _ _=>rfl
@[simp] theorem ng68 [MaxL] [TxtC]:EN 66 0 [0] 0∧EN 66 1 [0] 0∧EN 66 2 [] 0∧EN 66 3 [0] 0∧EN 66 4 [0,3] 0∧EN 66 5 [3,15,16,17] 0∧EN 66 6 [3,15,16,17] 0∧EN 66 7 [3,5,15,16,17] 0∧EN 66 8 [3,5,15,16,17] 0:=by and_intros<;>exact fun _ _ _=>rfl
@[simp] theorem en66_9 [MaxL] [TxtC] (n0:Nat) (e:Env) (H:Heap):enter cx 66 n0 9 e H = enterR [31] [3] [15,16,17,31,32,33] n0 e H:=rfl
@[simp] theorem ng69 [MaxL] [TxtC]:EN 66 10 [3,15,16,17,31,32,33] 0∧EN 66 11 [3,7,15,16,17,31,32,33] 0:=by and_intros<;>exact fun _ _ _=>rfl
@[simp] theorem en66_12 [MaxL] [TxtC] (n0:Nat) (e:Env) (H:Heap):enter cx 66 n0 12 e H = enterR [] [3] [15,16,17,31,32,33] n0 e H:=rfl
@[simp] theorem en66_13 [MaxL] [TxtC] (n0:Nat) (e:Env) (H:Heap):enter cx 66 n0 13 e H = enterR [] [3] [15,16,17] n0 e H:=rfl
@[simp] theorem en66_14 [MaxL] [TxtC] (n0:Nat) (e:Env) (H:Heap):enter cx 66 n0 14 e H = enterK [3] 0 n0 e H:=rfl
@[simp] theorem ng71 [MaxL] [TxtC]:EN 67 0 [0,1] 0∧EN 67 1 [0,1] 0:=by and_intros<;>exact fun _ _ _=>rfl
@[simp] theorem ng72 [MaxL] [TxtC]:EN 68 0 [0,1,2] 0∧EN 68 1 [0,1,2] 0∧EN 68 2 [] 0∧EN 68 3 [0,1,2] 0∧EN 68 4 [0,1,2,8] 0∧EN 68 5 [0,1,8,9] 0∧EN 68 6 [0,1,8,9] 0∧EN 68 7 [0,1,8,9] 0∧EN 68 8 [8] 0:=by and_intros<;>exact fun _ _ _=>rfl
@[simp] theorem ng73 [MaxL] [TxtC]:EN 71 0 [0] 0∧EN 71 1 [0] 0∧EN 71 2 [0,5] 0∧EN 71 3 [5] 0∧EN 71 4 [0] 0∧EN 71 5 [] 0∧EN 71 6 [0] 0∧EN 71 7 [] 0∧EN 71 8 [0] 0∧EN 71 9 [0,6,7] 0∧EN 71 10 [] 0∧EN 71 11 [0,6] 0∧EN 71 12 [] 0∧EN 71 13 [0,6] 0∧EN 71 14 [0,6] 0∧EN 71 15 [0,6,8] 0:=by and_intros<;>exact fun _ _ _=>rfl
@[simp] theorem en71_16 [MaxL] [TxtC] (n0:Nat) (e:Env) (H:Heap):enter cx 71 n0 16 e H = enterR [] [8] [0,48,49] n0 e H:=rfl
section
variable [MaxL] [TxtC]
@[simp] theorem ng74:EN 71 17 [0,8,48,49] 0∧EN 71 18 [0,8,9,10,48,49] 0∧EN 71 19 [] 0∧EN 71 20 [0,8,9,48,49] 0∧EN 71 21 [0,8,9,11,12,13,48,49] 0∧EN 71 22 [] 0∧EN 71 23 [0,8,9,11,48,49] 0∧EN 71 24 [0,8,48,49] 0∧EN 71 25 [0,8] 0∧EN 71 26 [0,5,8,14,15] 0∧EN 71 27 [5] 0∧EN 71 28 [0,8,14,15] 0∧EN 71 29 [] 0∧EN 71 30 [8,14] 0:=by and_intros<;>exact fun _ _ _=>rfl
@[simp] theorem ng75:EN 72 0 [0,1,2] 0∧EN 72 1 [0,2,4] 0∧EN 72 2 [0,2,4,8] 0∧EN 72 3 [8] 0∧EN 72 4 [0,2,4] 0∧EN 72 5 [0,2,4,9] 0∧EN 72 6 [0,2,9] 0∧EN 72 7 [0,9] 0∧EN 72 8 [0,2,4,9] 0∧EN 72 9 [0,2,4,9] 0∧EN 72 10 [] 0∧EN 72 11 [0,2,4,9] 0∧EN 72 12 [0,4,9] 0∧EN 72 13 [0,9] 0:=by and_intros<;>exact fun _ _ _=>rfl
@[simp] theorem ng76:EN 73 0 [0,1] 0∧EN 73 1 [0,1] 0∧EN 73 2 [1,7,8,9] 0∧EN 73 3 [1,7,8,9] 0∧EN 73 4 [1,6,7,8,9] 0∧EN 73 5 [] 0∧EN 73 6 [1,7,8,9] 1∧EN 73 7 [] 0:=by and_intros<;>exact fun _ _ _=>rfl
@[simp] theorem ng77:EN 81 0 [0,1] 0∧EN 81 1 [2,3] 0:=by and_intros<;>exact fun _ _ _=>rfl
@[simp] theorem ng78:EN 82 0 [0,1] 0∧EN 82 1 [0,1] 0∧EN 82 2 [] 0∧EN 82 3 [0,1] 0∧EN 82 4 [] 0∧EN 82 5 [] 0:=by and_intros<;>exact fun _ _ _=>rfl
@[simp] theorem ng79:EN 84 0 [0,1] 0∧EN 84 1 [0,1,4] 0∧EN 84 2 [0,1,4,6] 0∧EN 84 3 [0,1,4,6,7,8] 0∧EN 84 4 [4,6] 0∧EN 84 5 [0,1,4,6,7] 0∧EN 84 6 [0,1,4,6,7,25,26,27] 0∧EN 84 7 [0,1,4,6,7,25,26,27] 0∧EN 84 8 [0,1,4,6,7,9,10,25,26,27] 0∧EN 84 9 [0,1,4,6,9,10,11,12,25,26,27] 0∧EN 84 10 [0,1,4,6,9,12,14,15,25,26,27] 0∧EN 84 11 [4,6] 0∧EN 84 12 [0,1,4,6,9,12,14,25,26,27] 0∧EN 84 13 [0,1,4,6,7,25,26,27] 0∧EN 84 14 [0,1,4,6] 0:=by and_intros<;>exact fun _ _ _=>rfl
@[simp] theorem ng80:EN 85 0 [0] 0∧EN 85 1 [0] 0∧EN 85 2 [] 0∧EN 85 3 [0] 0:=by and_intros<;>exact fun _ _ _=>rfl
@[simp] theorem ng81:EN 86 0 [0,1,2,3] 0∧EN 86 1 [0,1,2,3] 0∧EN 86 2 [0,1,2,3,9] 0:=by and_intros<;>exact fun _ _ _=>rfl
@[simp] theorem ng82:EN 93 0 [0] 0∧EN 93 1 [0] 0∧EN 93 2 [] 0∧EN 93 3 [0] 0∧EN 93 4 [0,4] 0:=by and_intros<;>exact fun _ _ _=>rfl
end
@[simp] theorem en93_5 [MaxL] [TxtC] (n0:Nat) (e:Env) (H:Heap):enter cx 93 n0 5 e H = enterR [] [4] [0,5] n0 e H:=rfl
@[simp] theorem ng83 [MaxL] [TxtC]:EN 93 6 [0,4,5] 0∧EN 93 7 [0,4,5] 0∧EN 93 8 [0,4,5,7] 0∧EN 93 9 [7] 0∧EN 93 10 [0,4,5] 0∧EN 93 11 [0,4,5,8] 0∧EN 93 12 [0,4,5,8] 0∧EN 93 13 [0,4,5,8] 0∧EN 93 14 [0,4,5,8] 0∧EN 93 15 [0,4,5,8] 0∧EN 93 16 [0,4,5,8,9] 0∧EN 93 17 [0,4,5,8,9] 0∧EN 93 18 [0,4,5,8,9] 0∧EN 93 19 [0,4,5,8] 0∧EN 93 20 [4] 0∧EN 93 21 [] 0∧EN 93 22 [4] 0:=by and_intros<;>exact fun _ _ _=>rfl
@[simp] theorem ng84 [MaxL] [TxtC]:EN 94 0 [0,1] 0∧EN 94 1 [0,1] 0∧EN 94 2 [0,1,5] 0:=by and_intros<;>exact fun _ _ _=>rfl
@[simp] theorem en94_3 [MaxL] [TxtC] (n0:Nat) (e:Env) (H:Heap):enter cx 94 n0 3 e H = enterR [] [5] [0,6] n0 e H:=rfl
section
variable [MaxL] [TxtC]
@[simp] theorem ng85:EN 94 4 [0,5,6] 0∧EN 94 5 [0,5,6] 0∧EN 94 6 [5] 0:=by and_intros<;>exact fun _ _ _=>rfl
@[simp] theorem ng86:EN 95 0 [0] 0∧EN 95 1 [0] 0:=by and_intros<;>exact fun _ _ _=>rfl
@[simp] theorem ng87:EN 96 0 [0] 0∧EN 96 1 [1] 0∧EN 96 2 [1,3] 0∧EN 96 3 [1,3] 0∧EN 96 4 [1,3] 0∧EN 96 5 [] 0∧EN 96 6 [3] 0∧EN 96 7 [73,74,75] 1∧EN 96 8 [73,74,75] 0∧EN 96 9 [5,73,74,75] 0∧EN 96 10 [] 0∧EN 96 11 [73,74,75] 0∧EN 96 12 [] 0:=by and_intros<;>exact fun _ _ _=>rfl
@[simp] theorem ng88:EN 97 0 [0] 0∧EN 97 1 [0] 0:=by and_intros<;>exact fun _ _ _=>rfl
@[simp] theorem ng89:EN 98 0 [0] 0∧EN 98 1 [1] 0∧EN 98 2 [1,3] 0:=by and_intros<;>exact fun _ _ _=>rfl
end
@[simp] theorem en98_3 [MaxL] [TxtC] (n0:Nat) (e:Env) (H:Heap):enter cx 98 n0 3 e H = enterR [] [3] [6,7] n0 e H:=rfl
@[simp] theorem ng90 [MaxL] [TxtC]:EN 98 4 [3,6,7] 0∧EN 98 5 [3,5,6,7] 0∧EN 98 6 [3,6,7] 0∧EN 98 7 [3] 0:=by and_intros<;>exact fun _ _ _=>rfl
@[simp] theorem ng91 [MaxL] [TxtC]:EN 99 0 [0] 0∧EN 99 1 [1] 0∧EN 99 2 [1,3] 0:=by and_intros<;>exact fun _ _ _=>rfl
@[simp] theorem ng92 [MaxL] [TxtC]:EN 100 0 [0,1] 0∧EN 100 1 [2,3,4] 0∧EN 100 2 [2,3,4,5] 0∧EN 100 3 [2,3,4,5,9,10,11] 6∧EN 100 4 [2,3,4,5,9,10,11] 0∧EN 100 5 [2,3,4,5,7,9,10,11] 0∧EN 100 6 [2,3,4,5,9,10,11] 0:=by and_intros<;>exact fun _ _ _=>rfl
@[simp] theorem en100_7 [MaxL] [TxtC] (n0:Nat) (e:Env) (H:Heap):enter cx 100 n0 7 e H = enterZ [5] [2,3,4,5] 0 n0 e H:=rfl
section
variable [MaxL] [TxtC]
@[simp] theorem ng93:EN 102 0 [0] 0∧EN 102 1 [1] 0∧EN 102 2 [1] 0∧EN 102 3 [1] 0:=by and_intros<;>exact fun _ _ _=>rfl
@[simp] theorem ng94:EN 104 0 [0] 0∧EN 104 1 [0] 0∧EN 104 2 [0,3] 0∧EN 104 3 [3,6,7,8] 0∧EN 104 4 [3,6,7,8] 0∧EN 104 5 [3,5,6,7,8] 0∧EN 104 6 [3,6,7,8] 0∧EN 104 7 [3] 0:=by and_intros<;>exact fun _ _ _=>rfl
@[simp] theorem ng95:EN 107 0 [0] 0∧EN 107 1 [0] 0∧EN 107 2 [0,4] 0∧EN 107 3 [] 0∧EN 107 4 [0,4] 0∧EN 107 5 [0,4,5] 0∧EN 107 6 [] 0∧EN 107 7 [0,4] 0:=by and_intros<;>exact fun _ _ _=>rfl
@[simp] theorem ng96:EN 108 0 [0,1] 0∧EN 108 1 [0,1] 0:=by and_intros<;>exact fun _ _ _=>rfl
@[simp] theorem ng97:EN 109 0 [0] 0∧EN 109 1 [0,2] 0∧EN 109 2 [0,2,5] 0∧EN 109 3 [0,2,5,6] 0∧EN 109 4 [0,2,5,6] 0∧EN 109 5 [0,2,5,6] 0∧EN 109 6 [0,2,6] 0∧EN 109 7 [0,2,6,7] 0∧EN 109 8 [2] 0∧EN 109 9 [2,6,7] 0:=by and_intros<;>exact fun _ _ _=>rfl
@[simp] theorem ng98:EN 110 0 [0,1] 0∧EN 110 1 [0,3] 0∧EN 110 2 [] 0∧EN 110 3 [0,3] 0∧EN 110 4 [] 0∧EN 110 5 [] 0:=by and_intros<;>exact fun _ _ _=>rfl
@[simp] theorem ng99:EN 111 0 [0,1] 0∧EN 111 1 [0,3,4] 0∧EN 111 2 [0,3,4,5] 0∧EN 111 3 [0,4,5] 0∧EN 111 4 [3,4] 0:=by and_intros<;>exact fun _ _ _=>rfl
@[simp] theorem ng100:EN 112 0 [0,1] 0∧EN 112 1 [0,1] 0∧EN 112 2 [] 0∧EN 112 3 [0,1] 0:=by and_intros<;>exact fun _ _ _=>rfl
@[simp] theorem ng101:EN 113 0 [0,1] 0∧EN 113 1 [0,3] 0∧EN 113 2 [3,5] 0∧EN 113 3 [3,5,6] 0∧EN 113 4 [3,5,6] 0∧EN 113 5 [5] 0∧EN 113 6 [3,5] 0∧EN 113 7 [5] 0∧EN 113 8 [5] 0:=by and_intros<;>exact fun _ _ _=>rfl
@[simp] theorem ng102:EN 120 0 [0,1] 0∧EN 120 1 [0,1] 0∧EN 120 2 [] 0∧EN 120 3 [0,1] 0∧EN 120 4 [0,1,5] 0∧EN 120 5 [0,1,5] 0∧EN 120 6 [0,1,5] 0∧EN 120 7 [] 0∧EN 120 8 [] 0:=by and_intros<;>exact fun _ _ _=>rfl
@[simp] theorem ng103:EN 122 0 [0,1] 0∧EN 122 1 [0,1] 0:=by and_intros<;>exact fun _ _ _=>rfl
@[simp] theorem ng104:EN 126 0 [0,1] 0∧EN 126 1 [0,1] 0:=by and_intros<;>exact fun _ _ _=>rfl
@[simp] theorem ng105:EN 127 0 [0,1] 0∧EN 127 1 [0,1] 0:=by and_intros<;>exact fun _ _ _=>rfl
@[simp] theorem ng106:EN 128 0 [0,1,2] 0∧EN 128 1 [0,1,2] 0∧EN 128 2 [0,1,2,8,9] 0∧EN 128 3 [0,1,2,8,9] 0∧EN 128 4 [8] 0:=by and_intros<;>exact fun _ _ _=>rfl
@[simp] theorem ng107:EN 129 0 [0,1] 0∧EN 129 1 [0,1] 0:=by and_intros<;>exact fun _ _ _=>rfl
@[simp] theorem ng108:EN 130 0 [0] 0∧EN 130 1 [0] 0:=by and_intros<;>exact fun _ _ _=>rfl
@[simp] theorem ng109:EN 131 0 [0,1] 0∧EN 131 1 [0,1] 0:=by and_intros<;>exact fun _ _ _=>rfl
@[simp] theorem ng110:EN 137 0 [0] 0∧EN 137 1 [1] 0∧EN 137 2 [] 0∧EN 137 3 [1] 0∧EN 137 4 [] 0∧EN 137 5 [1] 0:=by and_intros<;>exact fun _ _ _=>rfl
@[simp] theorem ng111:EN 138 0 [0] 0∧EN 138 1 [1] 0:=by and_intros<;>exact fun _ _ _=>rfl
@[simp] theorem ng112:EN 139 0 [0] 0∧EN 139 1 [0,2] 0:=by and_intros<;>exact fun _ _ _=>rfl
@[simp] theorem ng113:EN 140 0 [0] 0∧EN 140 1 [1] 0:=by and_intros<;>exact fun _ _ _=>rfl
@[simp] theorem ng114:EN 141 0 [0] 0∧EN 141 1 [0] 0:=by and_intros<;>exact fun _ _ _=>rfl
@[simp] theorem ng115:EN 142 0 [0] 0∧EN 142 1 [0] 0∧EN 142 2 [0,3] 0∧EN 142 3 [3,6,7,8] 0∧EN 142 4 [3,6,7,8] 0∧EN 142 5 [3,5,6,7,8] 0∧EN 142 6 [3,6,7,8] 0∧EN 142 7 [3] 0:=by and_intros<;>exact fun _ _ _=>rfl
@[simp] theorem ng116:EN 144 0 [0] 0∧EN 144 1 [0] 0∧EN 144 2 [0,5,6] 0∧EN 144 3 [0,5,6] 0∧EN 144 4 [0,3,5,6] 0∧EN 144 5 [] 0∧EN 144 6 [0,5,6] 0∧EN 144 7 [] 0:=by and_intros<;>exact fun _ _ _=>rfl
@[simp] theorem ng117:EN 145 0 [0,1] 0∧EN 145 1 [0,1] 0∧EN 145 2 [0,1] 0∧EN 145 3 [0,9,10,11] 0∧EN 145 4 [0,9,10,11] 0∧EN 145 5 [0,6,9,10,11] 0∧EN 145 6 [0,9,10,11] 0∧EN 145 7 [0,9,10,11,19] 0∧EN 145 8 [0,9,10,11,19] 0∧EN 145 9 [0,9,10,11,19] 0∧EN 145 10 [0,9,10,11,19] 0∧EN 145 11 [0,9,10,11,19] 0∧EN 145 12 [0,9,10,11] 0∧EN 145 13 [0] 0:=by and_intros<;>exact fun _ _ _=>rfl
@[simp] theorem ng118:EN 146 0 [0] 0∧EN 146 1 [0,2] 0∧EN 146 2 [0,2,3,4] 0∧EN 146 3 [0,2,3,4,6] 0∧EN 146 4 [0,2,6,25,26,27] 0∧EN 146 5 [0,2,6,25,26,27] 0∧EN 146 6 [0,2,6,8,25,26,27] 0∧EN 146 7 [0,2,6,8,9,10,25,26,27] 0∧EN 146 8 [0,2,6,8,9,25,26,27] 0∧EN 146 9 [0,2,6,25,26,27] 0∧EN 146 10 [0,2,6] 0∧EN 146 11 [2,6] 0:=by and_intros<;>exact fun _ _ _=>rfl
@[simp] theorem ng119:EN 147 0 [0] 0∧EN 147 1 [0,2] 0∧EN 147 2 [0,2,3] 0∧EN 147 3 [0,2,3,4] 0∧EN 147 4 [0,2,3,4] 0∧EN 147 5 [0,2,3,4] 0∧EN 147 6 [0,2,3,4] 0∧EN 147 7 [0,2,3,4] 0∧EN 147 8 [0,2,3,4] 0∧EN 147 9 [0,2,3,4] 6∧EN 147 10 [0,2,3,4] 0∧EN 147 11 [0,2,3,4,5,6] 0∧EN 147 12 [0,2,3,4,5] 0∧EN 147 13 [2,3] 0:=by and_intros<;>exact fun _ _ _=>rfl
@[simp] theorem ng120:EN 148 0 [0,1] 0∧EN 148 1 [0,3] 0:=by and_intros<;>exact fun _ _ _=>rfl
@[simp] theorem ng121:EN 149 0 [0,1] 0∧EN 149 1 [0,1,4] 0:=by and_intros<;>exact fun _ _ _=>rfl
@[simp] theorem ng122:EN 150 0 [0,1] 0∧EN 150 1 [2,3] 0:=by and_intros<;>exact fun _ _ _=>rfl
@[simp] theorem ng123:EN 155 0 [0,1] 0∧EN 155 1 [0,1] 0∧EN 155 2 [0] 0∧EN 155 3 [0,1] 0:=by and_intros<;>exact fun _ _ _=>rfl
@[simp] theorem ng124:EN 156 0 [0,1] 0∧EN 156 1 [0,1] 0∧EN 156 2 [0,1,7] 0∧EN 156 3 [0,1,7] 0∧EN 156 4 [0] 0:=by and_intros<;>exact fun _ _ _=>rfl
@[simp] theorem ng125:EN 157 0 [0,1,2] 0∧EN 157 1 [0,1,2] 0∧EN 157 2 [] 0∧EN 157 3 [0,1,2] 0∧EN 157 4 [0,1,2,8] 0∧EN 157 5 [] 0∧EN 157 6 [0,1,2,8,9] 0∧EN 157 7 [0,1,2,8,9] 0∧EN 157 8 [0,2,8,9] 0∧EN 157 9 [0,1,2,8,9] 0∧EN 157 10 [0,2,8,9] 0∧EN 157 11 [0,1,2,8,9] 0∧EN 157 12 [0,2,8,9] 0∧EN 157 13 [0,2,8,9] 0∧EN 157 14 [0,1,2,8,9] 0∧EN 157 15 [0,2,8,9] 0∧EN 157 16 [0,2,8,9] 0∧EN 157 17 [0,1,2,8,9] 0∧EN 157 18 [0,2,8,9] 0∧EN 157 19 [0,2,8,9] 0∧EN 157 20 [0,1,2,8,9] 0∧EN 157 21 [0,1,2,8,9] 0∧EN 157 22 [0,1,8,9] 0∧EN 157 23 [0,1,2,8,9] 0∧EN 157 24 [] 0∧EN 157 25 [0,1,2,8,9] 0∧EN 157 26 [0,1,2,8,9] 0∧EN 157 27 [0,1,2,8,9] 0∧EN 157 28 [0,1,2,8,9,85] 0∧EN 157 29 [0,1,2,8,9] 0∧EN 157 30 [0,1,2,8,9,85] 0∧EN 157 31 [0,1,2,8,9] 0∧EN 157 32 [0,1,2,8,9,10] 0∧EN 157 33 [0,1,8,9,10,11] 0∧EN 157 34 [0,1,8,9,10,11,12] 0∧EN 157 35 [0,1,8,9,10,11,12,13] 0∧EN 157 36 [1,8,9,10,11,12,13,99,100,101] 0∧EN 157 37 [1,8,9,10,11,12,13,99,100,101] 0∧EN 157 38 [1,8,9,10,11,12,13,15,99,100,101] 0∧EN 157 39 [] 0∧EN 157 40 [1,8,9,10,11,12,13,15,99,100,101] 0∧EN 157 41 [1,8,9,10,11,13,99,100,101] 0∧EN 157 42 [1,8,9,10,11,12,13,15,99,100,101] 0∧EN 157 43 [1,8,9,10,11,12,13,15,99,100,101] 0∧EN 157 44 [1,8,9,10,11,12,13,15,99,100,101] 0∧EN 157 45 [1,8,9,10,11,12,13,15,99,100,101] 0∧EN 157 46 [1,8,9,10,11,12,13,16,99,100,101] 0∧EN 157 47 [] 0∧EN 157 48 [1,8,9,10,11,12,13,16,99,100,101] 0∧EN 157 49 [11] 0∧EN 157 50 [1,8,9,10,11,12,13,16,99,100,101] 0∧EN 157 51 [1,8,9,10,11,12,13,16,99,100,101] 0∧EN 157 52 [1,8,9,10,11,12,13,17,99,100,101] 0∧EN 157 53 [11] 0∧EN 157 54 [1,8,9,10,11,12,17,99,100,101] 0∧EN 157 55 [1,8,9,10,11,12,13,99,100,101] 0∧EN 157 56 [9,12,13] 0∧EN 157 57 [] 0∧EN 157 58 [13] 0:=by and_intros<;>exact fun _ _ _=>rfl
@[simp] theorem ng126:EN 158 0 [0,1,2,3,4] 0∧EN 158 1 [0,1,2,3,4] 0∧EN 158 2 [0,1,2,3,4,11] 0∧EN 158 3 [0,1] 0∧EN 158 4 [0,1,2,3,4,11] 0∧EN 158 5 [0,1] 0∧EN 158 6 [0,1,2,3,4,11] 0∧EN 158 7 [0,1,2] 0∧EN 158 8 [0,1,3,4,11] 0∧EN 158 9 [0,1,3] 0∧EN 158 10 [4] 0:=by and_intros<;>exact fun _ _ _=>rfl
@[simp] theorem ng127:EN 159 0 [0,1] 0∧EN 159 1 [0,1] 0∧EN 159 2 [0,1] 0∧EN 159 3 [0] 0:=by and_intros<;>exact fun _ _ _=>rfl
@[simp] theorem ng128:EN 160 0 [0,1] 0∧EN 160 1 [0,1] 0∧EN 160 2 [0] 0∧EN 160 3 [0] 0∧EN 160 4 [0] 0∧EN 160 5 [0,5] 0∧EN 160 6 [0,5,6] 0∧EN 160 7 [5,6] 0∧EN 160 8 [0,1] 0∧EN 160 9 [8] 0:=by and_intros<;>exact fun _ _ _=>rfl
@[simp] theorem ng129:EN 161 0 [0] 0∧EN 161 1 [0] 0∧EN 161 2 [0,3] 0∧EN 161 3 [0,3] 0∧EN 161 4 [0,3] 0∧EN 161 5 [0,3,4] 0∧EN 161 6 [] 0∧EN 161 7 [0] 0:=by and_intros<;>exact fun _ _ _=>rfl
@[simp] theorem ng130:EN 166 0 [0] 0∧EN 166 1 [0] 0∧EN 166 2 [] 0∧EN 166 3 [0] 0∧EN 166 4 [0,24,25] 0∧EN 166 5 [0,24,25] 0∧EN 166 6 [0,3,24,25] 0∧EN 166 7 [0,4,24,25] 0∧EN 166 8 [] 0∧EN 166 9 [0,24,25] 0∧EN 166 10 [] 0:=by and_intros<;>exact fun _ _ _=>rfl
@[simp] theorem ng131:EN 167 0 [0] 0∧EN 167 1 [0] 0∧EN 167 2 [0,3] 0∧EN 167 3 [0,4] 0∧EN 167 4 [0,4] 0∧EN 167 5 [0,4] 0∧EN 167 6 [0,4] 0∧EN 167 7 [0,4] 0∧EN 167 8 [0,4] 0∧EN 167 9 [0,4,5] 0:=by and_intros<;>exact fun _ _ _=>rfl
end
@[simp] theorem en167_10 [MaxL] [TxtC] (n0:Nat) (e:Env) (H:Heap):enter cx 167 n0 10 e H = enterZ [5] [4,5] 0 n0 e H:=rfl
section
variable [MaxL] [TxtC]
@[simp] theorem ng132:EN 167 11 [4] 0∧EN 167 12 [4] 0:=by and_intros<;>exact fun _ _ _=>rfl
@[simp] theorem ng133:EN 169 0 [0,1] 0∧EN 169 1 [0,1] 0∧EN 169 2 [0,1,5,6] 0∧EN 169 3 [1,5] 0:=by and_intros<;>exact fun _ _ _=>rfl
@[simp] theorem ng134:EN 170 0 [0,1] 0∧EN 170 1 [0,1,4] 0∧EN 170 2 [4,5] 0:=by and_intros<;>exact fun _ _ _=>rfl
@[simp] theorem ng135:EN 171 0 [0,1] 0∧EN 171 1 [0,1] 0∧EN 171 2 [5,6] 0∧EN 171 3 [] 0∧EN 171 4 [5] 0:=by and_intros<;>exact fun _ _ _=>rfl
@[simp] theorem ng136:EN 172 0 [0] 0∧EN 172 1 [0,2] 0∧EN 172 2 [0,2,4] 0∧EN 172 3 [2] 0∧EN 172 4 [0,2,4] 0∧EN 172 5 [0,2,4,5,6] 0∧EN 172 6 [0,2,5,6] 0∧EN 172 7 [0,2,5] 0∧EN 172 8 [0,2,5] 0∧EN 172 9 [0,2,5,7,8] 0∧EN 172 10 [2] 0∧EN 172 11 [0,2,5,7] 0∧EN 172 12 [0,2,7,9] 0∧EN 172 13 [2,9] 0:=by and_intros<;>exact fun _ _ _=>rfl
@[simp] theorem ng137:EN 173 0 [0,1] 0∧EN 173 1 [0,1] 0∧EN 173 2 [0,1,7,8] 0∧EN 173 3 [0,1,7,8] 0∧EN 173 4 [0,1,5,7,8] 0∧EN 173 5 [5] 0∧EN 173 6 [0,1,7,8] 0∧EN 173 7 [] 0:=by and_intros<;>exact fun _ _ _=>rfl
@[simp] theorem ng138:EN 174 0 [0,1] 0∧EN 174 1 [1,2] 0:=by and_intros<;>exact fun _ _ _=>rfl
@[simp] theorem ng139:EN 175 0 [0,1,2,3,4] 0∧EN 175 1 [0,1,2,3,4,10] 0∧EN 175 2 [0,1,2,3,4,10,11] 0∧EN 175 3 [0,1,2,3,4,10,11,12] 0∧EN 175 4 [0,1,2,4] 0∧EN 175 5 [0,1,2,3,4,10,11,12] 0∧EN 175 6 [0,1,2,4] 0∧EN 175 7 [0,1,2,3,4,10,11,12] 0∧EN 175 8 [0,1,2,3,4,10,11,12] 0∧EN 175 9 [0,1,2,3,4,10,11,12] 0∧EN 175 10 [0,1,2,3,4,10,11,12] 0∧EN 175 11 [0,1,2,3,4,10,11,12,13,14] 0∧EN 175 12 [0,1,2,3,4,10,11,12,13] 0∧EN 175 13 [0,1,2,3,4,10,11,12,13] 0∧EN 175 14 [0,1,2,3,4,10,11,12,13] 0∧EN 175 15 [0,1,2,3,4,10,11,12,13,14] 0∧EN 175 16 [0,1,2,3,4,10,11,12,13] 0∧EN 175 17 [0,1,2,3,4,10,11,12,13] 0∧EN 175 18 [0,1,2,3,4,10,11,13] 0∧EN 175 19 [0,2,3,4,10,11,15] 0∧EN 175 20 [0,1,2,3,4,12,13] 0∧EN 175 21 [0,1,2,3,4,12,16,17] 0∧EN 175 22 [0,1,2,3,4,11,12,16] 0∧EN 175 23 [0,1,2,3,4,11,12,16,18,19] 0∧EN 175 24 [0,1,2,3,4,11,16,18,19,20] 0∧EN 175 25 [0,1,2,3,4,11,16,18,20] 0∧EN 175 26 [0,1,2,3,4,10,11,16] 0∧EN 175 27 [0,2,3,4,10,11,16] 0∧EN 175 28 [0,1,2,3,4,11,16,19,20] 0∧EN 175 29 [0,1,2,3,4,10,11,16] 0∧EN 175 30 [0,1,3,4,10,11,16] 0:=by and_intros<;>exact fun _ _ _=>rfl
@[simp] theorem ng140:EN 181 0 [0,1] 0∧EN 181 1 [0,1] 0:=by and_intros<;>exact fun _ _ _=>rfl
@[simp] theorem ng141:EN 183 0 [0] 0∧EN 183 1 [0] 0:=by and_intros<;>exact fun _ _ _=>rfl
@[simp] theorem ng142:EN 185 0 [0,1] 0∧EN 185 1 [0,1] 0:=by and_intros<;>exact fun _ _ _=>rfl
@[simp] theorem ng143:EN 186 0 [0,1] 0∧EN 186 1 [0,1] 0:=by and_intros<;>exact fun _ _ _=>rfl
@[simp] theorem ng144:EN 190 0 [0] 0∧EN 190 1 [0] 0∧EN 190 2 [0,3] 0:=by and_intros<;>exact fun _ _ _=>rfl
@[simp] theorem ng145:EN 191 0 [0,1] 0∧EN 191 1 [0,1,4] 0∧EN 191 2 [0,1,4] 0∧EN 191 3 [0,1,4,5] 0∧EN 191 4 [0,1,4,5] 0∧EN 191 5 [0,1,4,6,7] 0∧EN 191 6 [0,1,4,6,8,9] 0∧EN 191 7 [0,1,4,8,9,10,11] 0∧EN 191 8 [0,1,4,8,10,11] 0∧EN 191 9 [0,1,4,10,11] 0∧EN 191 10 [0,1,4,10] 0∧EN 191 11 [0,1,4] 0∧EN 191 12 [0,1,4] 0∧EN 191 13 [0,4,12] 0∧EN 191 14 [0,4,12] 0∧EN 191 15 [0,4,12,13] 0∧EN 191 16 [0,4,12,13] 0∧EN 191 17 [0,4,12,14,15] 0∧EN 191 18 [0,4,12,14] 0∧EN 191 19 [0,4,12] 0∧EN 191 20 [0,4,12] 0∧EN 191 21 [0,4,12] 0∧EN 191 22 [0,4,12,16] 0∧EN 191 23 [0,4,12,16] 0∧EN 191 24 [0,4,12] 0∧EN 191 25 [0,4,12] 0∧EN 191 26 [0,12] 0:=by and_intros<;>exact fun _ _ _=>rfl
@[simp] theorem ng146:EN 192 0 [0,1,2,3,4] 0∧EN 192 1 [0,1,2,3,4,10,11] 0∧EN 192 2 [0,1,2,3,4,10,11] 0∧EN 192 3 [0,1,2,3,4,10,11] 0∧EN 192 4 [0,1,2,3,4,10,11,12] 0∧EN 192 5 [0,1,2,3,4,10,11,12,13] 0∧EN 192 6 [0,1,2,3,4,10,11,12,13] 0∧EN 192 7 [0,1,2,3,4,10,11,12,13] 0∧EN 192 8 [0,1,2,3,4,10,11,12,13] 0∧EN 192 9 [0,1,2,3,4,10,11,12,13,14] 0∧EN 192 10 [0,1,2,3,4,10,11,12,13,14,15] 0∧EN 192 11 [0,1,3,4,10,11,12,13,14,15,16] 0∧EN 192 12 [0,1,3,4,10,11,12,13,14,15,16] 0∧EN 192 13 [0,1,3,4,10,11,12,13,14,15,16] 0∧EN 192 14 [0,1,3,4,10,11,12,13,14,15,16] 0∧EN 192 15 [0,1,3,4,10,11,12,13] 0∧EN 192 16 [0,1,3,4,10,11,12,13] 0∧EN 192 17 [0,1,2,3,4,10,11,12,13] 0∧EN 192 18 [0,1,3,4,10,11,12,13,17] 0∧EN 192 19 [0,1,3,4,10,11,12,13,17] 0∧EN 192 20 [0,1,3,4,10,11,12,13,17] 0∧EN 192 21 [0,1,3,4,10,11,12,13,17,18] 0∧EN 192 22 [0,3,4,10,11,12,13,17,18] 0∧EN 192 23 [0,1,3,4,10,11,12,13] 0∧EN 192 24 [0,1,3,4,10,11,12,13] 0∧EN 192 25 [0,3,4,10,11,12,13] 0∧EN 192 26 [0,4,10,11,12,13] 0∧EN 192 27 [0,4,10,11,12,13] 0∧EN 192 28 [0,4,10,11,12,13] 0∧EN 192 29 [0,11,12,13] 0∧EN 192 30 [10,12,13] 0:=by and_intros<;>exact fun _ _ _=>rfl
@[simp] theorem ng147:EN 195 0 [0,1] 0∧EN 195 1 [0,1,4] 0∧EN 195 2 [0,1,4,6] 0∧EN 195 3 [0,4,6,8] 0∧EN 195 4 [0,6,8] 0∧EN 195 5 [0,8] 0:=by and_intros<;>exact fun _ _ _=>rfl
@[simp] theorem ng148:EN 196 0 [0] 0∧EN 196 1 [0,2,3,4] 0∧EN 196 2 [0,2,3,4] 0∧EN 196 3 [0,2,3,4] 0∧EN 196 4 [0,2,3,4] 0∧EN 196 5 [0,2,3,4] 0∧EN 196 6 [0,2,3,4] 0∧EN 196 7 [0,2,3,4] 0∧EN 196 8 [0,2,3,4] 0∧EN 196 9 [0,2,3,4] 0∧EN 196 10 [0,2,3,4] 0∧EN 196 11 [0,2,3,4] 0∧EN 196 12 [0,2,3,4] 0∧EN 196 13 [0,2,3,4] 0∧EN 196 14 [0,2,3,4] 0∧EN 196 15 [0,2,3,4] 0∧EN 196 16 [0,2,3,4] 0∧EN 196 17 [0,2,3,4] 0∧EN 196 18 [0,2,3,4] 0∧EN 196 19 [0,2,3,4] 0:=by and_intros<;>exact fun _ _ _=>rfl
@[simp] theorem ng149:EN 197 0 [0] 0∧EN 197 1 [0,2,3,4] 0∧EN 197 2 [0,2,3,4] 0∧EN 197 3 [0,2,3,4] 0∧EN 197 4 [0,2,3,4] 0∧EN 197 5 [0,2,3,4] 0∧EN 197 6 [0,2,3,4] 0∧EN 197 7 [0,2,3,4] 0∧EN 197 8 [0,2,3,4] 0∧EN 197 9 [0,2,3,4] 0∧EN 197 10 [0,2,3,4] 0∧EN 197 11 [0,2,3,4] 0∧EN 197 12 [0,2,3,4] 0∧EN 197 13 [0,2,3,4] 0∧EN 197 14 [0,2,3,4] 0∧EN 197 15 [0,2,3,4] 0:=by and_intros<;>exact fun _ _ _=>rfl
@[simp] theorem ng150:EN 198 0 [0,1] 0∧EN 198 1 [0,1] 0∧EN 198 2 [0,1,7] 0∧EN 198 3 [0,1,7] 0∧EN 198 4 [0] 0:=by and_intros<;>exact fun _ _ _=>rfl
@[simp] theorem ng151:EN 199 0 [0] 0∧EN 199 1 [0,2] 0∧EN 199 2 [0,2,4] 0∧EN 199 3 [2] 0∧EN 199 4 [0,2,4] 0∧EN 199 5 [0,2,4,12,13] 0∧EN 199 6 [0,2,4,12,13] 0∧EN 199 7 [0,2,4,5,12,13] 0∧EN 199 8 [0,2,4,5,6,12,13] 0∧EN 199 9 [2] 0∧EN 199 10 [0,2,4,5,6,12,13] 0∧EN 199 11 [0,2,4,12,13] 0∧EN 199 12 [2,4] 0:=by and_intros<;>exact fun _ _ _=>rfl
@[simp] theorem ng152:EN 200 0 [0,1] 0∧EN 200 1 [0,1] 0∧EN 200 2 [] 0∧EN 200 3 [0,1] 0∧EN 200 4 [0,1] 0∧EN 200 5 [0,1,5] 0∧EN 200 6 [1] 0∧EN 200 7 [28] 0∧EN 200 8 [28,29] 0∧EN 200 9 [5,28] 0∧EN 200 10 [] 0∧EN 200 11 [] 0∧EN 200 12 [0,1] 0∧EN 200 13 [] 0∧EN 200 14 [] 0∧EN 200 15 [0,1] 0∧EN 200 16 [0,1] 0∧EN 200 17 [0,6] 0∧EN 200 18 [0] 0∧EN 200 19 [0,6] 0∧EN 200 20 [0,1] 0∧EN 200 21 [0,1] 0∧EN 200 22 [0,1,7,8] 0∧EN 200 23 [0,7] 0∧EN 200 24 [7,60,61,62] 0∧EN 200 25 [7,60,61,62] 0∧EN 200 26 [7,9,10,60,61,62] 0∧EN 200 27 [9] 0∧EN 200 28 [7,60,61,62] 0∧EN 200 29 [] 0∧EN 200 30 [0,1] 0∧EN 200 31 [0,1] 0∧EN 200 32 [0,1,12] 0∧EN 200 33 [0,1,11,12] 0∧EN 200 34 [0,1,12] 0∧EN 200 35 [0,1,12,13] 0∧EN 200 36 [0,1,12] 0∧EN 200 37 [12] 0∧EN 200 38 [0,1,12] 0∧EN 200 39 [0,1,12] 0∧EN 200 40 [0,1,11,12,13] 0∧EN 200 41 [0,1,11,12,13] 0∧EN 200 42 [0,1,11,12,13] 0∧EN 200 43 [12] 0∧EN 200 44 [0,1,11,12,13] 0∧EN 200 45 [0,1,11,12,13] 0∧EN 200 46 [12] 0∧EN 200 47 [0,1,11,12,13] 0∧EN 200 48 [0,1,11,12,13,121] 0∧EN 200 49 [0,1,11,12,13,121,122] 0∧EN 200 50 [0,1,11,12,13,15,121] 0∧EN 200 51 [12] 0∧EN 200 52 [] 0:=by and_intros<;>exact fun _ _ _=>rfl
@[simp] theorem ng153:EN 201 0 [0,1,2,3] 0∧EN 201 1 [0,1,2,3,8] 0∧EN 201 2 [0,1,2,3,8] 0∧EN 201 3 [0,1,2,3,8] 0∧EN 201 4 [0,1,2,3,8,9] 0∧EN 201 5 [0,1,2,3,8,9] 0∧EN 201 6 [0,1,2,3,8,9] 0:=by and_intros<;>exact fun _ _ _=>rfl
@[simp] theorem ng154:EN 212 0 [0,1] 0∧EN 212 1 [0,1] 0:=by and_intros<;>exact fun _ _ _=>rfl
@[simp] theorem ng155:EN 218 0 [0] 0∧EN 218 1 [0] 0:=by and_intros<;>exact fun _ _ _=>rfl
@[simp] theorem ng156:EN 219 0 [0] 0∧EN 219 1 [0] 0∧EN 219 2 [] 0∧EN 219 3 [] 0:=by and_intros<;>exact fun _ _ _=>rfl
@[simp] theorem ng157:EN 224 0 [0,1] 0∧EN 224 1 [0,1] 0∧EN 224 2 [0,5] 0:=by and_intros<;>exact fun _ _ _=>rfl
@[simp] theorem ng158:EN 225 0 [0,1] 0∧EN 225 1 [0,1] 0:=by and_intros<;>exact fun _ _ _=>rfl
@[simp] theorem ng159:EN 228 0 [0] 0∧EN 228 1 [0] 0:=by and_intros<;>exact fun _ _ _=>rfl
@[simp] theorem ng160:EN 230 0 [0,1] 0∧EN 230 1 [0,1] 0:=by and_intros<;>exact fun _ _ _=>rfl
end
end Go.Ev.S
namespace Go.Ev.S
open Go Go.Proofs Go.Ev
@[simp] theorem sz2:szOf Tryz.prog 2 = 1:=by kernel_rfl
@[simp] theorem ag2:aggQ Tryz.prog 2 = some false:=by kernel_rfl
@[simp] theorem by2:bytesOf Tryz.prog 2 = 8:=by kernel_rfl
@[simp] theorem zo2:zeroOf Tryz.prog 2 = some (.int .i64 0):=by kernel_rfl
@[simp] theorem cq2:cmpQ Tryz.prog 2 = true:=by kernel_rfl
@[simp] theorem un2:Tryz.prog.underlying 2 = some (.int .i64):=by kernel_rfl
@[simp] theorem sz3:szOf Tryz.prog 3 = 1:=by kernel_rfl
@[simp] theorem ag3:aggQ Tryz.prog 3 = some false:=by kernel_rfl
@[simp] theorem by3:bytesOf Tryz.prog 3 = 8:=by kernel_rfl
@[simp] theorem zo3:zeroOf Tryz.prog 3 = some (.int .i64 0):=by kernel_rfl
@[simp] theorem cq3:cmpQ Tryz.prog 3 = true:=by kernel_rfl
@[simp] theorem un3:Tryz.prog.underlying 3 = some (.int .i64):=by kernel_rfl
@[simp] theorem sz4:szOf Tryz.prog 4 = 1:=by kernel_rfl
@[simp] theorem ag4:aggQ Tryz.prog 4 = some false:=by kernel_rfl
@[simp] theorem by4:bytesOf Tryz.prog 4 = 1:=by kernel_rfl
@[simp] theorem zo4:zeroOf Tryz.prog 4 = some (.bool false):=by kernel_rfl
@[simp] theorem un4:Tryz.prog.underlying 4 = some .bool:=by kernel_rfl
@[simp] theorem sz5:szOf Tryz.prog 5 = 1:=by kernel_rfl
@[simp] theorem ag5:aggQ Tryz.prog 5 = some false:=by kernel_rfl
@[simp] theorem by5:bytesOf Tryz.prog 5 = 1:=by kernel_rfl
@[simp] theorem zo5:zeroOf Tryz.prog 5 = some (.int .u8 0):=by kernel_rfl
@[simp] theorem cq5:cmpQ Tryz.prog 5 = true:=by kernel_rfl
@[simp] theorem un5:Tryz.prog.underlying 5 = some (.int .u8):=by kernel_rfl
@[simp] theorem sz9:szOf Tryz.prog 9 = 1:=by kernel_rfl
@[simp] theorem ag9:aggQ Tryz.prog 9 = some false:=by kernel_rfl
@[simp] theorem by9:bytesOf Tryz.prog 9 = 16:=by kernel_rfl
@[simp] theorem zo9:zeroOf Tryz.prog 9 = some (.str []):=by kernel_rfl
@[simp] theorem un9:Tryz.prog.underlying 9 = some .string:=by kernel_rfl
@[simp] theorem sz21:szOf Tryz.prog 21 = 1:=by kernel_rfl
@[simp] theorem ag21:aggQ Tryz.prog 21 = some false:=by kernel_rfl
@[simp] theorem by21:bytesOf Tryz.prog 21 = 4:=by kernel_rfl
@[simp] theorem zo21:zeroOf Tryz.prog 21 = some (.int .i32 0):=by kernel_rfl
@[simp] theorem cq21:cmpQ Tryz.prog 21 = true:=by kernel_rfl
@[simp] theorem un21:Tryz.prog.underlying 21 = some (.int .i32):=by kernel_rfl
@[simp] theorem sz22:szOf Tryz.prog 22 = 1:=by kernel_rfl
@[simp] theorem ag22:aggQ Tryz.prog 22 = some false:=by kernel_rfl
@[simp] theorem by22:bytesOf Tryz.prog 22 = 24:=by kernel_rfl
@[simp] theorem zo22:zeroOf Tryz.prog 22 = some (.vsl true [] 0):=by kernel_rfl
@[simp] theorem un22:Tryz.prog.underlying 22 = some (.slice 36):=by kernel_rfl
@[simp] theorem sz24:szOf Tryz.prog 24 = 1:=by kernel_rfl
@[simp] theorem ag24:aggQ Tryz.prog 24 = some false:=by kernel_rfl
@[simp] theorem by24:bytesOf Tryz.prog 24 = 8:=by kernel_rfl
@[simp] theorem zo24:zeroOf Tryz.prog 24 = some (.nilp):=by kernel_rfl
@[simp] theorem un24:Tryz.prog.underlying 24 = some (.pointer 79):=by kernel_rfl
@[simp] theorem sz26:szOf Tryz.prog 26 = 1:=by kernel_rfl
@[simp] theorem ag26:aggQ Tryz.prog 26 = some false:=by kernel_rfl
@[simp] theorem by26:bytesOf Tryz.prog 26 = 8:=by kernel_rfl
@[simp] theorem zo26:zeroOf Tryz.prog 26 = some (.nilp):=by kernel_rfl
@[simp] theorem un26:Tryz.prog.underlying 26 = some (.pointer 31):=by kernel_rfl
@[simp] theorem sz27:szOf Tryz.prog 27 = 1:=by kernel_rfl
@[simp] theorem ag27:aggQ Tryz.prog 27 = some false:=by kernel_rfl
@[simp] theorem by27:bytesOf Tryz.prog 27 = 8:=by kernel_rfl
@[simp] theorem zo27:zeroOf Tryz.prog 27 = some (.int .u64 0):=by kernel_rfl
@[simp] theorem cq27:cmpQ Tryz.prog 27 = true:=by kernel_rfl
@[simp] theorem un27:Tryz.prog.underlying 27 = some (.int .u64):=by kernel_rfl
@[simp] theorem sz28:szOf Tryz.prog 28 = 1:=by kernel_rfl
@[simp] theorem ag28:aggQ Tryz.prog 28 = some false:=by kernel_rfl
@[simp] theorem by28:bytesOf Tryz.prog 28 = 24:=by kernel_rfl
@[simp] theorem zo28:zeroOf Tryz.prog 28 = some (.vsl true [] 0):=by kernel_rfl
@[simp] theorem un28:Tryz.prog.underlying 28 = some (.slice 97):=by kernel_rfl
@[simp] theorem sz29:szOf Tryz.prog 29 = 1:=by kernel_rfl
@[simp] theorem ag29:aggQ Tryz.prog 29 = some false:=by kernel_rfl
@[simp] theorem by29:bytesOf Tryz.prog 29 = 24:=by kernel_rfl
@[simp] theorem zo29:zeroOf Tryz.prog 29 = some (.vsl true [] 0):=by kernel_rfl
@[simp] theorem un29:Tryz.prog.underlying 29 = some (.slice 52):=by kernel_rfl
@[simp] theorem sz30:szOf Tryz.prog 30 = 4:=by kernel_rfl
@[simp] theorem ag30:aggQ Tryz.prog 30 = some true:=by kernel_rfl
@[simp] theorem by30:bytesOf Tryz.prog 30 = 64:=by kernel_rfl
@[simp] theorem zo30:zeroOf Tryz.prog 30 = some (.agg [.int .u64 0,.int .u64 0,.vsl true [] 0,.vsl true [] 0]):=by kernel_rfl
attribute [simp] Tryz.underlying30
@[simp] theorem sz31:szOf Tryz.prog 31 = 4:=by kernel_rfl
@[simp] theorem ag31:aggQ Tryz.prog 31 = some true:=by kernel_rfl
@[simp] theorem by31:bytesOf Tryz.prog 31 = 64:=by kernel_rfl
@[simp] theorem zo31:zeroOf Tryz.prog 31 = some (.agg [.int .u64 0,.int .u64 0,.vsl true [] 0,.vsl true [] 0]):=by kernel_rfl
attribute [simp] Tryz.underlying31
@[simp] theorem sz33:szOf Tryz.prog 33 = 1:=by kernel_rfl
@[simp] theorem ag33:aggQ Tryz.prog 33 = some false:=by kernel_rfl
@[simp] theorem by33:bytesOf Tryz.prog 33 = 24:=by kernel_rfl
@[simp] theorem zo33:zeroOf Tryz.prog 33 = some (.vsl true [] 0):=by kernel_rfl
@[simp] theorem un33:Tryz.prog.underlying 33 = some (.slice 3):=by kernel_rfl
@[simp] theorem sz34:szOf Tryz.prog 34 = 1:=by kernel_rfl
@[simp] theorem ag34:aggQ Tryz.prog 34 = some false:=by kernel_rfl
@[simp] theorem by34:bytesOf Tryz.prog 34 = 24:=by kernel_rfl
@[simp] theorem zo34:zeroOf Tryz.prog 34 = some (.vsl true [] 0):=by kernel_rfl
@[simp] theorem un34:Tryz.prog.underlying 34 = some (.slice 5):=by kernel_rfl
@[simp] theorem sz35:szOf Tryz.prog 35 = 7:=by kernel_rfl
@[simp] theorem ag35:aggQ Tryz.prog 35 = some true:=by kernel_rfl
@[simp] theorem by35:bytesOf Tryz.prog 35 = 104:=by kernel_rfl
@[simp] theorem zo35:zeroOf Tryz.prog 35 = some (.agg [.int .i64 0,.int .i64 0,.int .i64 0,.vsl true [] 0,.vsl true [] 0,.int .u8 0,.vsl true [] 0]):=by kernel_rfl
attribute [simp] Tryz.underlying35
@[simp] theorem sz36:szOf Tryz.prog 36 = 7:=by kernel_rfl
@[simp] theorem ag36:aggQ Tryz.prog 36 = some true:=by kernel_rfl
@[simp] theorem by36:bytesOf Tryz.prog 36 = 104:=by kernel_rfl
@[simp] theorem zo36:zeroOf Tryz.prog 36 = some (.agg [.int .i64 0,.int .i64 0,.int .i64 0,.vsl true [] 0,.vsl true [] 0,.int .u8 0,.vsl true [] 0]):=by kernel_rfl
attribute [simp] Tryz.underlying36
@[simp] theorem sz46:szOf Tryz.prog 46 = 16:=by kernel_rfl
@[simp] theorem ag46:aggQ Tryz.prog 46 = some true:=by kernel_rfl
@[simp] theorem by46:bytesOf Tryz.prog 46 = 16:=by kernel_rfl
@[simp] theorem zo46:zeroOf Tryz.prog 46 = some (.agg [.int .u8 0,.int .u8 0,.int .u8 0,.int .u8 0,.int .u8 0,.int .u8 0,.int .u8 0,.int .u8 0,.int .u8 0,.int .u8 0,.int .u8 0,.int .u8 0,.int .u8 0,.int .u8 0,.int .u8 0,.int .u8 0]):=by kernel_rfl
@[simp] theorem un46:Tryz.prog.underlying 46 = some (.array 16 5):=by kernel_rfl
@[simp] theorem sz47:szOf Tryz.prog 47 = 16:=by kernel_rfl
@[simp] theorem ag47:aggQ Tryz.prog 47 = some true:=by kernel_rfl
@[simp] theorem by47:bytesOf Tryz.prog 47 = 16:=by kernel_rfl
@[simp] theorem zo47:zeroOf Tryz.prog 47 = some (.agg [.int .u8 0,.int .u8 0,.int .u8 0,.int .u8 0,.int .u8 0,.int .u8 0,.int .u8 0,.int .u8 0,.int .u8 0,.int .u8 0,.int .u8 0,.int .u8 0,.int .u8 0,.int .u8 0,.int .u8 0,.int .u8 0]):=by kernel_rfl
@[simp] theorem un47:Tryz.prog.underlying 47 = some (.array 16 5):=by kernel_rfl
@[simp] theorem sz48:szOf Tryz.prog 48 = 1:=by kernel_rfl
@[simp] theorem ag48:aggQ Tryz.prog 48 = some false:=by kernel_rfl
@[simp] theorem by48:bytesOf Tryz.prog 48 = 24:=by kernel_rfl
@[simp] theorem zo48:zeroOf Tryz.prog 48 = some (.vsl true [] 0):=by kernel_rfl
@[simp] theorem un48:Tryz.prog.underlying 48 = some (.slice 94):=by kernel_rfl
@[simp] theorem sz49:szOf Tryz.prog 49 = 20:=by kernel_rfl
@[simp] theorem ag49:aggQ Tryz.prog 49 = some true:=by kernel_rfl
@[simp] theorem by49:bytesOf Tryz.prog 49 = 64:=by kernel_rfl
@[simp] theorem zo49:zeroOf Tryz.prog 49 = some (.agg [.int .u64 0,.int .u64 0,.int .u64 0,.int .u8 0,.int .u8 0,.int .u8 0,.int .u8 0,.int .u8 0,.int .u8 0,.int .u8 0,.int .u8 0,.int .u8 0,.int .u8 0,.int .u8 0,.int .u8 0,.int .u8 0,.int .u8 0,.int .u8 0,.int .u8 0,.vsl true [] 0]):=by kernel_rfl
attribute [simp] Tryz.underlying49
@[simp] theorem sz50:szOf Tryz.prog 50 = 20:=by kernel_rfl
@[simp] theorem ag50:aggQ Tryz.prog 50 = some true:=by kernel_rfl
@[simp] theorem by50:bytesOf Tryz.prog 50 = 64:=by kernel_rfl
@[simp] theorem zo50:zeroOf Tryz.prog 50 = some (.agg [.int .u64 0,.int .u64 0,.int .u64 0,.int .u8 0,.int .u8 0,.int .u8 0,.int .u8 0,.int .u8 0,.int .u8 0,.int .u8 0,.int .u8 0,.int .u8 0,.int .u8 0,.int .u8 0,.int .u8 0,.int .u8 0,.int .u8 0,.int .u8 0,.int .u8 0,.vsl true [] 0]):=by kernel_rfl
attribute [simp] Tryz.underlying50
@[simp] theorem sz51:szOf Tryz.prog 51 = 39:=by kernel_rfl
@[simp] theorem ag51:aggQ Tryz.prog 51 = some true:=by kernel_rfl
@[simp] theorem by51:bytesOf Tryz.prog 51 = 104:=by kernel_rfl
@[simp] theorem zo51:zeroOf Tryz.prog 51 = some (.agg [.int .u8 0,.int .u8 0,.int .u8 0,.int .u8 0,.int .u8 0,.int .u8 0,.int .u8 0,.int .u8 0,.int .u8 0,.int .u8 0,.int .u8 0,.int .u8 0,.int .u8 0,.int .u8 0,.int .u8 0,.int .u8 0,.bool false,.int .u64 0,.int .u64 0,.int .u64 0,.int .u64 0,.int .u64 0,.int .u8 0,.int .u8 0,.int .u8 0,.int .u8 0,.int .u8 0,.int .u8 0,.int .u8 0,.int .u8 0,.int .u8 0,.int .u8 0,.int .u8 0,.int .u8 0,.int .u8 0,.int .u8 0,.int .u8 0,.int .u8 0,.vsl true [] 0]):=by kernel_rfl
attribute [simp] Tryz.underlying51
@[simp] theorem sz52:szOf Tryz.prog 52 = 39:=by kernel_rfl
@[simp] theorem ag52:aggQ Tryz.prog 52 = some true:=by kernel_rfl
@[simp] theorem by52:bytesOf Tryz.prog 52 = 104:=by kernel_rfl
@[simp] theorem zo52:zeroOf Tryz.prog 52 = some (.agg [.int .u8 0,.int .u8 0,.int .u8 0,.int .u8 0,.int .u8 0,.int .u8 0,.int .u8 0,.int .u8 0,.int .u8 0,.int .u8 0,.int .u8 0,.int .u8 0,.int .u8 0,.int .u8 0,.int .u8 0,.int .u8 0,.bool false,.int .u64 0,.int .u64 0,.int .u64 0,.int .u64 0,.int .u64 0,.int .u8 0,.int .u8 0,.int .u8 0,.int .u8 0,.int .u8 0,.int .u8 0,.int .u8 0,.int .u8 0,.int .u8 0,.int .u8 0,.int .u8 0,.int .u8 0,.int .u8 0,.int .u8 0,.int .u8 0,.int .u8 0,.vsl true [] 0]):=by kernel_rfl
attribute [simp] Tryz.underlying52
@[simp] theorem sz55:szOf Tryz.prog 55 = 4:=by kernel_rfl
@[simp] theorem ag55:aggQ Tryz.prog 55 = some true:=by kernel_rfl
@[simp] theorem by55:bytesOf Tryz.prog 55 = 48:=by kernel_rfl
@[simp] theorem zo55:zeroOf Tryz.prog 55 = some (.agg [.int .i64 0,.int .u64 0,.int .u64 0,.vsl true [] 0]):=by kernel_rfl
attribute [simp] Tryz.underlying55
@[simp] theorem sz56:szOf Tryz.prog 56 = 4:=by kernel_rfl
@[simp] theorem ag56:aggQ Tryz.prog 56 = some true:=by kernel_rfl
@[simp] theorem by56:bytesOf Tryz.prog 56 = 48:=by kernel_rfl
@[simp] theorem zo56:zeroOf Tryz.prog 56 = some (.agg [.int .i64 0,.int .u64 0,.int .u64 0,.vsl true [] 0]):=by kernel_rfl
attribute [simp] Tryz.underlying56
@[simp] theorem sz59:szOf Tryz.prog 59 = 4:=by kernel_rfl
@[simp] theorem ag59:aggQ Tryz.prog 59 = some true:=by kernel_rfl
@[simp] theorem by59:bytesOf Tryz.prog 59 = 56:=by kernel_rfl
@[simp] theorem zo59:zeroOf Tryz.prog 59 = some (.agg [.str [],.int .u64 0,.int .u64 0,.vsl true [] 0]):=by kernel_rfl
attribute [simp] Tryz.underlying59
@[simp] theorem sz60:szOf Tryz.prog 60 = 4:=by kernel_rfl
@[simp] theorem ag60:aggQ Tryz.prog 60 = some true:=by kernel_rfl
@[simp] theorem by60:bytesOf Tryz.prog 60 = 56:=by kernel_rfl
@[simp] theorem zo60:zeroOf Tryz.prog 60 = some (.agg [.str [],.int .u64 0,.int .u64 0,.vsl true [] 0]):=by kernel_rfl
attribute [simp] Tryz.underlying60
@[simp] theorem sz68:szOf Tryz.prog 68 = 1:=by kernel_rfl
@[simp] theorem ag68:aggQ Tryz.prog 68 = some false:=by kernel_rfl
@[simp] theorem by68:bytesOf Tryz.prog 68 = 24:=by kernel_rfl
@[simp] theorem zo68:zeroOf Tryz.prog 68 = some (.vsl true [] 0):=by kernel_rfl
@[simp] theorem un68:Tryz.prog.underlying 68 = some (.slice 9):=by kernel_rfl
@[simp] theorem sz71:szOf Tryz.prog 71 = 1:=by kernel_rfl
@[simp] theorem ag71:aggQ Tryz.prog 71 = some false:=by kernel_rfl
@[simp] theorem by71:bytesOf Tryz.prog 71 = 8:=by kernel_rfl
@[simp] theorem zo71:zeroOf Tryz.prog 71 = some (.nilp):=by kernel_rfl
@[simp] theorem un71:Tryz.prog.underlying 71 = some (.pointer 73):=by kernel_rfl
@[simp] theorem sz72:szOf Tryz.prog 72 = 2:=by kernel_rfl
@[simp] theorem ag72:aggQ Tryz.prog 72 = some true:=by kernel_rfl
@[simp] theorem by72:bytesOf Tryz.prog 72 = 32:=by kernel_rfl
@[simp] theorem zo72:zeroOf Tryz.prog 72 = some (.agg [.vsl true [] 0,.int .i64 0]):=by kernel_rfl
attribute [simp] Tryz.underlying72
@[simp] theorem sz73:szOf Tryz.prog 73 = 2:=by kernel_rfl
@[simp] theorem ag73:aggQ Tryz.prog 73 = some true:=by kernel_rfl
@[simp] theorem by73:bytesOf Tryz.prog 73 = 32:=by kernel_rfl
@[simp] theorem zo73:zeroOf Tryz.prog 73 = some (.agg [.vsl true [] 0,.int .i64 0]):=by kernel_rfl
attribute [simp] Tryz.underlying73
@[simp] theorem sz78:szOf Tryz.prog 78 = 4:=by kernel_rfl
@[simp] theorem ag78:aggQ Tryz.prog 78 = some true:=by kernel_rfl
@[simp] theorem by78:bytesOf Tryz.prog 78 = 64:=by kernel_rfl
@[simp] theorem zo78:zeroOf Tryz.prog 78 = some (.agg [.int .u64 0,.int .u64 0,.vsl true [] 0,.vsl true [] 0]):=by kernel_rfl
attribute [simp] Tryz.underlying78
@[simp] theorem sz79:szOf Tryz.prog 79 = 4:=by kernel_rfl
@[simp] theorem ag79:aggQ Tryz.prog 79 = some true:=by kernel_rfl
@[simp] theorem by79:bytesOf Tryz.prog 79 = 64:=by kernel_rfl
@[simp] theorem zo79:zeroOf Tryz.prog 79 = some (.agg [.int .u64 0,.int .u64 0,.vsl true [] 0,.vsl true [] 0]):=by kernel_rfl
attribute [simp] Tryz.underlying79
@[simp] theorem sz81:szOf Tryz.prog 81 = 4:=by kernel_rfl
@[simp] theorem ag81:aggQ Tryz.prog 81 = some true:=by kernel_rfl
@[simp] theorem by81:bytesOf Tryz.prog 81 = 56:=by kernel_rfl
@[simp] theorem zo81:zeroOf Tryz.prog 81 = some (.agg [.str [],.int .u64 0,.int .u64 0,.vsl true [] 0]):=by kernel_rfl
attribute [simp] Tryz.underlying81
@[simp] theorem sz89:szOf Tryz.prog 89 = 4:=by kernel_rfl
@[simp] theorem ag89:aggQ Tryz.prog 89 = some true:=by kernel_rfl
@[simp] theorem by89:bytesOf Tryz.prog 89 = 48:=by kernel_rfl
@[simp] theorem zo89:zeroOf Tryz.prog 89 = some (.agg [.int .i64 0,.int .u64 0,.int .u64 0,.vsl true [] 0]):=by kernel_rfl
attribute [simp] Tryz.underlying89
@[simp] theorem sz93:szOf Tryz.prog 93 = 2:=by kernel_rfl
@[simp] theorem ag93:aggQ Tryz.prog 93 = some true:=by kernel_rfl
@[simp] theorem by93:bytesOf Tryz.prog 93 = 32:=by kernel_rfl
@[simp] theorem zo93:zeroOf Tryz.prog 93 = some (.agg [.str [],.str []]):=by kernel_rfl
attribute [simp] Tryz.underlying93
@[simp] theorem sz94:szOf Tryz.prog 94 = 2:=by kernel_rfl
@[simp] theorem ag94:aggQ Tryz.prog 94 = some true:=by kernel_rfl
@[simp] theorem by94:bytesOf Tryz.prog 94 = 32:=by kernel_rfl
@[simp] theorem zo94:zeroOf Tryz.prog 94 = some (.agg [.str [],.str []]):=by kernel_rfl
attribute [simp] Tryz.underlying94
@[simp] theorem sz96:szOf Tryz.prog 96 = 19:=by kernel_rfl
@[simp] theorem ag96:aggQ Tryz.prog 96 = some true:=by kernel_rfl
@[simp] theorem by96:bytesOf Tryz.prog 96 = 40:=by kernel_rfl
@[simp] theorem zo96:zeroOf Tryz.prog 96 = some (.agg [.int .u8 0,.int .u8 0,.int .u8 0,.int .u8 0,.int .u8 0,.int .u8 0,.int .u8 0,.int .u8 0,.int .u8 0,.int .u8 0,.int .u8 0,.int .u8 0,.int .u8 0,.int .u8 0,.int .u8 0,.int .u8 0,.int .u64 0,.int .u64 0,.int .u64 0]):=by kernel_rfl
attribute [simp] Tryz.underlying96
@[simp] theorem sz97:szOf Tryz.prog 97 = 19:=by kernel_rfl
@[simp] theorem ag97:aggQ Tryz.prog 97 = some true:=by kernel_rfl
@[simp] theorem by97:bytesOf Tryz.prog 97 = 40:=by kernel_rfl
@[simp] theorem zo97:zeroOf Tryz.prog 97 = some (.agg [.int .u8 0,.int .u8 0,.int .u8 0,.int .u8 0,.int .u8 0,.int .u8 0,.int .u8 0,.int .u8 0,.int .u8 0,.int .u8 0,.int .u8 0,.int .u8 0,.int .u8 0,.int .u8 0,.int .u8 0,.int .u8 0,.int .u64 0,.int .u64 0,.int .u64 0]):=by kernel_rfl
attribute [simp] Tryz.underlying97
@[simp] theorem sz104:szOf Tryz.prog 104 = 4:=by kernel_rfl
@[simp] theorem ag104:aggQ Tryz.prog 104 = some true:=by kernel_rfl
@[simp] theorem by104:bytesOf Tryz.prog 104 = 48:=by kernel_rfl
@[simp] theorem zo104:zeroOf Tryz.prog 104 = some (.agg [.int .i64 0,.int .u64 0,.int .u64 0,.vsl true [] 0]):=by kernel_rfl
attribute [simp] Tryz.underlying104
@[simp] theorem sz105:szOf Tryz.prog 105 = 4:=by kernel_rfl
@[simp] theorem ag105:aggQ Tryz.prog 105 = some true:=by kernel_rfl
@[simp] theorem by105:bytesOf Tryz.prog 105 = 48:=by kernel_rfl
@[simp] theorem zo105:zeroOf Tryz.prog 105 = some (.agg [.int .i64 0,.int .u64 0,.int .u64 0,.vsl true [] 0]):=by kernel_rfl
attribute [simp] Tryz.underlying105
@[simp] theorem sz115:szOf Tryz.prog 115 = 3:=by kernel_rfl
@[simp] theorem ag115:aggQ Tryz.prog 115 = some true:=by kernel_rfl
@[simp] theorem by115:bytesOf Tryz.prog 115 = 24:=by kernel_rfl
@[simp] theorem zo115:zeroOf Tryz.prog 115 = some (.agg [.int .u64 0,.int .u64 0,.int .u64 0]):=by kernel_rfl
@[simp] theorem un115:Tryz.prog.underlying 115 = some (.array 3 27):=by kernel_rfl
@[simp] theorem sz142:szOf Tryz.prog 142 = 1:=by kernel_rfl
@[simp] theorem ag142:aggQ Tryz.prog 142 = some false:=by kernel_rfl
@[simp] theorem by142:bytesOf Tryz.prog 142 = 4:=by kernel_rfl
@[simp] theorem zo142:zeroOf Tryz.prog 142 = some (.int .u32 0):=by kernel_rfl
@[simp] theorem cq142:cmpQ Tryz.prog 142 = true:=by kernel_rfl
@[simp] theorem un142:Tryz.prog.underlying 142 = some (.int .u32):=by kernel_rfl
@[simp] theorem sz150:szOf Tryz.prog 150 = 1:=by kernel_rfl
@[simp] theorem ag150:aggQ Tryz.prog 150 = some false:=by kernel_rfl
@[simp] theorem by150:bytesOf Tryz.prog 150 = 8:=by kernel_rfl
@[simp] theorem zo150:zeroOf Tryz.prog 150 = some (.nilp):=by kernel_rfl
@[simp] theorem un150:Tryz.prog.underlying 150 = some (.pointer 152):=by kernel_rfl
@[simp] theorem sz151:szOf Tryz.prog 151 = 2:=by kernel_rfl
@[simp] theorem ag151:aggQ Tryz.prog 151 = some true:=by kernel_rfl
@[simp] theorem by151:bytesOf Tryz.prog 151 = 32:=by kernel_rfl
@[simp] theorem zo151:zeroOf Tryz.prog 151 = some (.agg [.nilp,.vsl true [] 0]):=by kernel_rfl
attribute [simp] Tryz.underlying151
@[simp] theorem sz152:szOf Tryz.prog 152 = 2:=by kernel_rfl
@[simp] theorem ag152:aggQ Tryz.prog 152 = some true:=by kernel_rfl
@[simp] theorem by152:bytesOf Tryz.prog 152 = 32:=by kernel_rfl
@[simp] theorem zo152:zeroOf Tryz.prog 152 = some (.agg [.nilp,.vsl true [] 0]):=by kernel_rfl
attribute [simp] Tryz.underlying152
@[simp] theorem sz154:szOf Tryz.prog 154 = 36:=by kernel_rfl
@[simp] theorem ag154:aggQ Tryz.prog 154 = some true:=by kernel_rfl
@[simp] theorem by154:bytesOf Tryz.prog 154 = 64:=by kernel_rfl
@[simp] theorem zo154:zeroOf Tryz.prog 154 = some (.agg [.int .u8 0,.int .u8 0,.int .u8 0,.int .u8 0,.int .u8 0,.int .u8 0,.int .u8 0,.int .u8 0,.int .u8 0,.int .u8 0,.int .u8 0,.int .u8 0,.int .u8 0,.int .u8 0,.int .u8 0,.int .u8 0,.int .u64 0,.int .u8 0,.int .u8 0,.int .u8 0,.int .u8 0,.int .u8 0,.int .u8 0,.int .u8 0,.int .u8 0,.int .u8 0,.int .u8 0,.int .u8 0,.int .u8 0,.int .u8 0,.int .u8 0,.int .u8 0,.int .u8 0,.int .u64 0,.int .u64 0,.int .u64 0]):=by kernel_rfl
attribute [simp] Tryz.underlying154
@[simp] theorem sz155:szOf Tryz.prog 155 = 36:=by kernel_rfl
@[simp] theorem ag155:aggQ Tryz.prog 155 = some true:=by kernel_rfl
@[simp] theorem by155:bytesOf Tryz.prog 155 = 64:=by kernel_rfl
@[simp] theorem zo155:zeroOf Tryz.prog 155 = some (.agg [.int .u8 0,.int .u8 0,.int .u8 0,.int .u8 0,.int .u8 0,.int .u8 0,.int .u8 0,.int .u8 0,.int .u8 0,.int .u8 0,.int .u8 0,.int .u8 0,.int .u8 0,.int .u8 0,.int .u8 0,.int .u8 0,.int .u64 0,.int .u8 0,.int .u8 0,.int .u8 0,.int .u8 0,.int .u8 0,.int .u8 0,.int .u8 0,.int .u8 0,.int .u8 0,.int .u8 0,.int .u8 0,.int .u8 0,.int .u8 0,.int .u8 0,.int .u8 0,.int .u8 0,.int .u64 0,.int .u64 0,.int .u64 0]):=by kernel_rfl
attribute [simp] Tryz.underlying155
@[simp] theorem sz157:szOf Tryz.prog 157 = 1:=by kernel_rfl
@[simp] theorem ag157:aggQ Tryz.prog 157 = some false:=by kernel_rfl
@[simp] theorem by157:bytesOf Tryz.prog 157 = 16:=by kernel_rfl
@[simp] theorem zo157:zeroOf Tryz.prog 157 = some (.nili):=by kernel_rfl
attribute [simp] Tryz.underlying157
@[simp] theorem sz158:szOf Tryz.prog 158 = 1:=by kernel_rfl
@[simp] theorem ag158:aggQ Tryz.prog 158 = some false:=by kernel_rfl
@[simp] theorem by158:bytesOf Tryz.prog 158 = 16:=by kernel_rfl
@[simp] theorem zo158:zeroOf Tryz.prog 158 = some (.nili):=by kernel_rfl
attribute [simp] Tryz.underlying158
@[simp] theorem sz164:szOf Tryz.prog 164 = 1:=by kernel_rfl
@[simp] theorem ag164:aggQ Tryz.prog 164 = some false:=by kernel_rfl
@[simp] theorem by164:bytesOf Tryz.prog 164 = 24:=by kernel_rfl
@[simp] theorem zo164:zeroOf Tryz.prog 164 = some (.vsl true [] 0):=by kernel_rfl
@[simp] theorem un164:Tryz.prog.underlying 164 = some (.slice 27):=by kernel_rfl
@[simp] theorem sz165:szOf Tryz.prog 165 = 1:=by kernel_rfl
@[simp] theorem ag165:aggQ Tryz.prog 165 = some false:=by kernel_rfl
@[simp] theorem by165:bytesOf Tryz.prog 165 = 8:=by kernel_rfl
@[simp] theorem zo165:zeroOf Tryz.prog 165 = some (.int .u64 0):=by kernel_rfl
@[simp] theorem cq165:cmpQ Tryz.prog 165 = true:=by kernel_rfl
@[simp] theorem un165:Tryz.prog.underlying 165 = some (.int .u64):=by kernel_rfl
@[simp] theorem sz184:szOf Tryz.prog 184 = 36:=by kernel_rfl
@[simp] theorem ag184:aggQ Tryz.prog 184 = some true:=by kernel_rfl
@[simp] theorem by184:bytesOf Tryz.prog 184 = 64:=by kernel_rfl
@[simp] theorem zo184:zeroOf Tryz.prog 184 = some (.agg [.int .u8 0,.int .u8 0,.int .u8 0,.int .u8 0,.int .u8 0,.int .u8 0,.int .u8 0,.int .u8 0,.int .u8 0,.int .u8 0,.int .u8 0,.int .u8 0,.int .u8 0,.int .u8 0,.int .u8 0,.int .u8 0,.int .u64 0,.int .u8 0,.int .u8 0,.int .u8 0,.int .u8 0,.int .u8 0,.int .u8 0,.int .u8 0,.int .u8 0,.int .u8 0,.int .u8 0,.int .u8 0,.int .u8 0,.int .u8 0,.int .u8 0,.int .u8 0,.int .u8 0,.int .u64 0,.int .u64 0,.int .u64 0]):=by kernel_rfl
attribute [simp] Tryz.underlying184
@[simp] theorem sz188:szOf Tryz.prog 188 = 1:=by kernel_rfl
@[simp] theorem ag188:aggQ Tryz.prog 188 = some false:=by kernel_rfl
@[simp] theorem by188:bytesOf Tryz.prog 188 = 24:=by kernel_rfl
@[simp] theorem zo188:zeroOf Tryz.prog 188 = some (.vsl true [] 0):=by kernel_rfl
@[simp] theorem un188:Tryz.prog.underlying 188 = some (.slice 34):=by kernel_rfl
@[simp] theorem sz191:szOf Tryz.prog 191 = 1:=by kernel_rfl
@[simp] theorem ag191:aggQ Tryz.prog 191 = some false:=by kernel_rfl
@[simp] theorem by191:bytesOf Tryz.prog 191 = 8:=by kernel_rfl
@[simp] theorem zo191:zeroOf Tryz.prog 191 = some (.nilp):=by kernel_rfl
@[simp] theorem un191:Tryz.prog.underlying 191 = some (.pointer 193):=by kernel_rfl
@[simp] theorem sz192:szOf Tryz.prog 192 = 1:=by kernel_rfl
@[simp] theorem ag192:aggQ Tryz.prog 192 = some true:=by kernel_rfl
@[simp] theorem by192:bytesOf Tryz.prog 192 = 24:=by kernel_rfl
@[simp] theorem zo192:zeroOf Tryz.prog 192 = some (.agg [.vsl true [] 0]):=by kernel_rfl
attribute [simp] Tryz.underlying192
@[simp] theorem sz193:szOf Tryz.prog 193 = 1:=by kernel_rfl
@[simp] theorem ag193:aggQ Tryz.prog 193 = some true:=by kernel_rfl
@[simp] theorem by193:bytesOf Tryz.prog 193 = 24:=by kernel_rfl
@[simp] theorem zo193:zeroOf Tryz.prog 193 = some (.agg [.vsl true [] 0]):=by kernel_rfl
attribute [simp] Tryz.underlying193
@[simp] theorem sz196:szOf Tryz.prog 196 = 1:=by kernel_rfl
@[simp] theorem ag196:aggQ Tryz.prog 196 = some false:=by kernel_rfl
@[simp] theorem by196:bytesOf Tryz.prog 196 = 8:=by kernel_rfl
@[simp] theorem zo196:zeroOf Tryz.prog 196 = some (.nilf):=by kernel_rfl
@[simp] theorem sz207:szOf Tryz.prog 207 = 1:=by kernel_rfl
@[simp] theorem ag207:aggQ Tryz.prog 207 = some false:=by kernel_rfl
@[simp] theorem by207:bytesOf Tryz.prog 207 = 8:=by kernel_rfl
@[simp] theorem zo207:zeroOf Tryz.prog 207 = some (.nilp):=by kernel_rfl
@[simp] theorem un207:Tryz.prog.underlying 207 = some (.pointer 27):=by kernel_rfl
@[simp] theorem sz208:szOf Tryz.prog 208 = 2:=by kernel_rfl
@[simp] theorem ag208:aggQ Tryz.prog 208 = some true:=by kernel_rfl
@[simp] theorem by208:bytesOf Tryz.prog 208 = 24:=by kernel_rfl
@[simp] theorem zo208:zeroOf Tryz.prog 208 = some (.agg [.str [],.nilp]):=by kernel_rfl
attribute [simp] Tryz.underlying208
@[simp] theorem sz209:szOf Tryz.prog 209 = 1:=by kernel_rfl
@[simp] theorem ag209:aggQ Tryz.prog 209 = some false:=by kernel_rfl
@[simp] theorem by209:bytesOf Tryz.prog 209 = 24:=by kernel_rfl
@[simp] theorem zo209:zeroOf Tryz.prog 209 = some (.vsl true [] 0):=by kernel_rfl
@[simp] theorem un209:Tryz.prog.underlying 209 = some (.slice 208):=by kernel_rfl
@[simp] theorem sz216:szOf Tryz.prog 216 = 1:=by kernel_rfl
@[simp] theorem ag216:aggQ Tryz.prog 216 = some false:=by kernel_rfl
@[simp] theorem by216:bytesOf Tryz.prog 216 = 8:=by kernel_rfl
@[simp] theorem zo216:zeroOf Tryz.prog 216 = some (.nilf):=by kernel_rfl
@[simp] theorem sz223:szOf Tryz.prog 223 = 5:=by kernel_rfl
@[simp] theorem ag223:aggQ Tryz.prog 223 = some true:=by kernel_rfl
@[simp] theorem by223:bytesOf Tryz.prog 223 = 5:=by kernel_rfl
@[simp] theorem zo223:zeroOf Tryz.prog 223 = some (.agg [.bool false,.bool false,.bool false,.bool false,.bool false]):=by kernel_rfl
@[simp] theorem un223:Tryz.prog.underlying 223 = some (.array 5 4):=by kernel_rfl
@[simp] theorem sz230:szOf Tryz.prog 230 = 1:=by kernel_rfl
@[simp] theorem ag230:aggQ Tryz.prog 230 = some false:=by kernel_rfl
@[simp] theorem by230:bytesOf Tryz.prog 230 = 8:=by kernel_rfl
@[simp] theorem zo230:zeroOf Tryz.prog 230 = some (.int .i64 0):=by kernel_rfl
@[simp] theorem cq230:cmpQ Tryz.prog 230 = true:=by kernel_rfl
@[simp] theorem un230:Tryz.prog.underlying 230 = some (.int .i64):=by kernel_rfl
@[simp] theorem sz232:szOf Tryz.prog 232 = 1:=by kernel_rfl
@[simp] theorem ag232:aggQ Tryz.prog 232 = some false:=by kernel_rfl
@[simp] theorem by232:bytesOf Tryz.prog 232 = 8:=by kernel_rfl
@[simp] theorem zo232:zeroOf Tryz.prog 232 = some (.nilp):=by kernel_rfl
@[simp] theorem un232:Tryz.prog.underlying 232 = some (.pointer 258):=by kernel_rfl
@[simp] theorem sz235:szOf Tryz.prog 235 = 24:=by kernel_rfl
@[simp] theorem ag235:aggQ Tryz.prog 235 = some true:=by kernel_rfl
@[simp] theorem by235:bytesOf Tryz.prog 235 = 24:=by kernel_rfl
@[simp] theorem zo235:zeroOf Tryz.prog 235 = some (.agg [.int .u8 0,.int .u8 0,.int .u8 0,.int .u8 0,.int .u8 0,.int .u8 0,.int .u8 0,.int .u8 0,.int .u8 0,.int .u8 0,.int .u8 0,.int .u8 0,.int .u8 0,.int .u8 0,.int .u8 0,.int .u8 0,.int .u8 0,.int .u8 0,.int .u8 0,.int .u8 0,.int .u8 0,.int .u8 0,.int .u8 0,.int .u8 0]):=by kernel_rfl
@[simp] theorem un235:Tryz.prog.underlying 235 = some (.array 24 5):=by kernel_rfl
@[simp] theorem sz240:szOf Tryz.prog 240 = 3:=by kernel_rfl
@[simp] theorem ag240:aggQ Tryz.prog 240 = some true:=by kernel_rfl
@[simp] theorem by240:bytesOf Tryz.prog 240 = 12:=by kernel_rfl
@[simp] theorem zo240:zeroOf Tryz.prog 240 = some (.agg [.int .u32 0,.int .u32 0,.int .u32 0]):=by kernel_rfl
attribute [simp] Tryz.underlying240
@[simp] theorem sz241:szOf Tryz.prog 241 = 3:=by kernel_rfl
@[simp] theorem ag241:aggQ Tryz.prog 241 = some true:=by kernel_rfl
@[simp] theorem by241:bytesOf Tryz.prog 241 = 12:=by kernel_rfl
@[simp] theorem zo241:zeroOf Tryz.prog 241 = some (.agg [.int .u32 0,.int .u32 0,.int .u32 0]):=by kernel_rfl
attribute [simp] Tryz.underlying241
@[simp] theorem sz243:szOf Tryz.prog 243 = 12:=by kernel_rfl
@[simp] theorem ag243:aggQ Tryz.prog 243 = some true:=by kernel_rfl
@[simp] theorem by243:bytesOf Tryz.prog 243 = 12:=by kernel_rfl
@[simp] theorem zo243:zeroOf Tryz.prog 243 = some (.agg [.int .u8 0,.int .u8 0,.int .u8 0,.int .u8 0,.int .u8 0,.int .u8 0,.int .u8 0,.int .u8 0,.int .u8 0,.int .u8 0,.int .u8 0,.int .u8 0]):=by kernel_rfl
@[simp] theorem un243:Tryz.prog.underlying 243 = some (.array 12 5):=by kernel_rfl
@[simp] theorem sz248:szOf Tryz.prog 248 = 1:=by kernel_rfl
@[simp] theorem ag248:aggQ Tryz.prog 248 = some false:=by kernel_rfl
@[simp] theorem by248:bytesOf Tryz.prog 248 = 8:=by kernel_rfl
@[simp] theorem zo248:zeroOf Tryz.prog 248 = some (.int .i64 0):=by kernel_rfl
@[simp] theorem cq248:cmpQ Tryz.prog 248 = true:=by kernel_rfl
@[simp] theorem un248:Tryz.prog.underlying 248 = some (.int .i64):=by kernel_rfl
@[simp] theorem sz257:szOf Tryz.prog 257 = 3:=by kernel_rfl
@[simp] theorem ag257:aggQ Tryz.prog 257 = some true:=by kernel_rfl
@[simp] theorem by257:bytesOf Tryz.prog 257 = 48:=by kernel_rfl
@[simp] theorem zo257:zeroOf Tryz.prog 257 = some (.agg [.str [],.str [],.nili]):=by kernel_rfl
attribute [simp] Tryz.underlying257
@[simp] theorem sz258:szOf Tryz.prog 258 = 3:=by kernel_rfl
@[simp] theorem ag258:aggQ Tryz.prog 258 = some true:=by kernel_rfl
@[simp] theorem by258:bytesOf Tryz.prog 258 = 48:=by kernel_rfl
@[simp] theorem zo258:zeroOf Tryz.prog 258 = some (.agg [.str [],.str [],.nili]):=by kernel_rfl
attribute [simp] Tryz.underlying258
@[simp] theorem sz261:szOf Tryz.prog 261 = 20:=by kernel_rfl
@[simp] theorem ag261:aggQ Tryz.prog 261 = some true:=by kernel_rfl
@[simp] theorem by261:bytesOf Tryz.prog 261 = 160:=by kernel_rfl
@[simp] theorem zo261:zeroOf Tryz.prog 261 = some (.agg [.int .u64 0,.int .u64 0,.int .u64 0,.int .u64 0,.int .u64 0,.int .u64 0,.int .u64 0,.int .u64 0,.int .u64 0,.int .u64 0,.int .u64 0,.int .u64 0,.int .u64 0,.int .u64 0,.int .u64 0,.int .u64 0,.int .u64 0,.int .u64 0,.int .u64 0,.int .u64 0]):=by kernel_rfl
@[simp] theorem un261:Tryz.prog.underlying 261 = some (.array 20 27):=by kernel_rfl
@[simp] theorem sz262:szOf Tryz.prog 262 = 65:=by kernel_rfl
@[simp] theorem ag262:aggQ Tryz.prog 262 = some true:=by kernel_rfl
@[simp] theorem by262:bytesOf Tryz.prog 262 = 65:=by kernel_rfl
@[simp] theorem zo262:zeroOf Tryz.prog 262 = some (.agg (List.replicate 65 (.int .u8 0))):=by kernel_rfl
@[simp] theorem un262:Tryz.prog.underlying 262 = some (.array 65 5):=by kernel_rfl
@[simp] theorem sz268:szOf Tryz.prog 268 = 256:=by kernel_rfl
@[simp] theorem ag268:aggQ Tryz.prog 268 = some true:=by kernel_rfl
@[simp] theorem by268:bytesOf Tryz.prog 268 = 256:=by kernel_rfl
@[simp] theorem zo268:zeroOf Tryz.prog 268 = some (.agg (List.replicate 256 (.bool false))):=by kernel_rfl
@[simp] theorem un268:Tryz.prog.underlying 268 = some (.array 256 4):=by kernel_rfl
@[simp] theorem sz269:szOf Tryz.prog 269 = 256:=by kernel_rfl
@[simp] theorem ag269:aggQ Tryz.prog 269 = some true:=by kernel_rfl
@[simp] theorem by269:bytesOf Tryz.prog 269 = 256:=by kernel_rfl
@[simp] theorem zo269:zeroOf Tryz.prog 269 = some (.agg (List.replicate 256 (.bool false))):=by kernel_rfl
@[simp] theorem un269:Tryz.prog.underlying 269 = some (.array 256 4):=by kernel_rfl
@[simp] theorem sz275:szOf Tryz.prog 275 = 1:=by kernel_rfl
@[simp] theorem ag275:aggQ Tryz.prog 275 = some false:=by kernel_rfl
@[simp] theorem by275:bytesOf Tryz.prog 275 = 8:=by kernel_rfl
@[simp] theorem zo275:zeroOf Tryz.prog 275 = some (.int .u64 0):=by kernel_rfl
@[simp] theorem cq275:cmpQ Tryz.prog 275 = true:=by kernel_rfl
@[simp] theorem un275:Tryz.prog.underlying 275 = some (.int .u64):=by kernel_rfl
@[simp] theorem sz278:szOf Tryz.prog 278 = 1:=by kernel_rfl
@[simp] theorem ag278:aggQ Tryz.prog 278 = some false:=by kernel_rfl
@[simp] theorem by278:bytesOf Tryz.prog 278 = 8:=by kernel_rfl
@[simp] theorem zo278:zeroOf Tryz.prog 278 = some (.nilp):=by kernel_rfl
@[simp] theorem un278:Tryz.prog.underlying 278 = some (.pointer 3):=by kernel_rfl
@[simp] theorem sz281:szOf Tryz.prog 281 = 1:=by kernel_rfl
@[simp] theorem ag281:aggQ Tryz.prog 281 = some false:=by kernel_rfl
@[simp] theorem by281:bytesOf Tryz.prog 281 = 8:=by kernel_rfl
@[simp] theorem zo281:zeroOf Tryz.prog 281 = some (.nilp):=by kernel_rfl
@[simp] theorem un281:Tryz.prog.underlying 281 = some (.pointer 283):=by kernel_rfl
@[simp] theorem sz282:szOf Tryz.prog 282 = 1:=by kernel_rfl
@[simp] theorem ag282:aggQ Tryz.prog 282 = some true:=by kernel_rfl
@[simp] theorem by282:bytesOf Tryz.prog 282 = 16:=by kernel_rfl
@[simp] theorem zo282:zeroOf Tryz.prog 282 = some (.agg [.str []]):=by kernel_rfl
attribute [simp] Tryz.underlying282
@[simp] theorem sz283:szOf Tryz.prog 283 = 1:=by kernel_rfl
@[simp] theorem ag283:aggQ Tryz.prog 283 = some true:=by kernel_rfl
@[simp] theorem by283:bytesOf Tryz.prog 283 = 16:=by kernel_rfl
@[simp] theorem zo283:zeroOf Tryz.prog 283 = some (.agg [.str []]):=by kernel_rfl
attribute [simp] Tryz.underlying283
@[simp] theorem sz285:szOf Tryz.prog 285 = 4:=by kernel_rfl
@[simp] theorem ag285:aggQ Tryz.prog 285 = some true:=by kernel_rfl
@[simp] theorem by285:bytesOf Tryz.prog 285 = 4:=by kernel_rfl
@[simp] theorem zo285:zeroOf Tryz.prog 285 = some (.agg [.int .u8 0,.int .u8 0,.int .u8 0,.int .u8 0]):=by kernel_rfl
@[simp] theorem un285:Tryz.prog.underlying 285 = some (.array 4 5):=by kernel_rfl
@[simp] theorem sz291:szOf Tryz.prog 291 = 32:=by kernel_rfl
@[simp] theorem ag291:aggQ Tryz.prog 291 = some true:=by kernel_rfl
@[simp] theorem by291:bytesOf Tryz.prog 291 = 32:=by kernel_rfl
@[simp] theorem zo291:zeroOf Tryz.prog 291 = some (.agg (List.replicate 32 (.int .u8 0))):=by kernel_rfl
@[simp] theorem un291:Tryz.prog.underlying 291 = some (.array 32 5):=by kernel_rfl
@[simp] theorem sz292:szOf Tryz.prog 292 = 64:=by kernel_rfl
@[simp] theorem ag292:aggQ Tryz.prog 292 = some true:=by kernel_rfl
@[simp] theorem by292:bytesOf Tryz.prog 292 = 64:=by kernel_rfl
@[simp] theorem zo292:zeroOf Tryz.prog 292 = some (.agg (List.replicate 64 (.int .u8 0))):=by kernel_rfl
@[simp] theorem un292:Tryz.prog.underlying 292 = some (.array 64 5):=by kernel_rfl
@[simp] theorem pl3:plainTy Tryz.prog 50 3 = some ([.i]):=by kernel_rfl
@[simp] theorem eg3:Tryz.prog.eqGuardType Tryz.prog.depth 3 = false:=by kernel_rfl
@[simp] theorem pl4:plainTy Tryz.prog 50 4 = some ([.b]):=by kernel_rfl
@[simp] theorem eg4:Tryz.prog.eqGuardType Tryz.prog.depth 4 = false:=by kernel_rfl
@[simp] theorem pl5:plainTy Tryz.prog 50 5 = some ([.i]):=by kernel_rfl
@[simp] theorem eg5:Tryz.prog.eqGuardType Tryz.prog.depth 5 = false:=by kernel_rfl
@[simp] theorem pl9:plainTy Tryz.prog 50 9 = some ([.s]):=by kernel_rfl
@[simp] theorem eg9:Tryz.prog.eqGuardType Tryz.prog.depth 9 = false:=by kernel_rfl
@[simp] theorem pl21:plainTy Tryz.prog 50 21 = some ([.i]):=by kernel_rfl
@[simp] theorem eg21:Tryz.prog.eqGuardType Tryz.prog.depth 21 = false:=by kernel_rfl
@[simp] theorem pl27:plainTy Tryz.prog 50 27 = some ([.i]):=by kernel_rfl
@[simp] theorem eg27:Tryz.prog.eqGuardType Tryz.prog.depth 27 = false:=by kernel_rfl
@[simp] theorem pl47:plainTy Tryz.prog 50 47 = some ([.i,.i,.i,.i,.i,.i,.i,.i,.i,.i,.i,.i,.i,.i,.i,.i]):=by kernel_rfl
@[simp] theorem eg47:Tryz.prog.eqGuardType Tryz.prog.depth 47 = false:=by kernel_rfl
@[simp] theorem pl94:plainTy Tryz.prog 50 94 = some ([.s,.s]):=by kernel_rfl
@[simp] theorem eg94:Tryz.prog.eqGuardType Tryz.prog.depth 94 = false:=by kernel_rfl
@[simp] theorem pl97:plainTy Tryz.prog 50 97 = some ([.i,.i,.i,.i,.i,.i,.i,.i,.i,.i,.i,.i,.i,.i,.i,.i,.i,.i,.i]):=by kernel_rfl
@[simp] theorem eg97:Tryz.prog.eqGuardType Tryz.prog.depth 97 = false:=by kernel_rfl
@[simp] theorem pl142:plainTy Tryz.prog 50 142 = some ([.i]):=by kernel_rfl
@[simp] theorem eg142:Tryz.prog.eqGuardType Tryz.prog.depth 142 = false:=by kernel_rfl
@[simp] theorem pl248:plainTy Tryz.prog 50 248 = some ([.i]):=by kernel_rfl
@[simp] theorem eg248:Tryz.prog.eqGuardType Tryz.prog.depth 248 = false:=by kernel_rfl
end Go.Ev.S
namespace Go.Ev.S
open Go Go.Proofs Go.Ev
def szOk (n:Int):Bool:=n == 1 || n == 2 || n == 4 || n == 8
theorem lesize_ev [MaxL] [TxtC] (n:Int):call cx 95 [.int .i64 n] [] = some (.bool (szOk n),[]):=by
 refine call_run Tryz.func95 rfl ⟨rfl,rfl⟩ ?_
 unfold szOk
 by_cases h1:n = 1
 ·subst h1;simp [Tryz.f95]
 ·by_cases h2:n = 2
  ·subst h2;simp [Tryz.f95]
  ·by_cases h3:n = 4
   ·subst h3;simp [Tryz.f95]
   ·simp [Tryz.f95,h1,h2,h3]
theorem szOk_le {n:Int} (h:szOk n = true):1≤n∧n≤8:=by
 simp [szOk] at h
 omega
def leGet (l:List UInt8) (at_ n:Int):Option Nat :=
 if szOk n = true∧0≤at_∧at_+n≤l.length then some (leN ((l.drop at_.toNat).take n.toNat)) else none
def optN (o:Option Nat):D:=.tup [.int .u64 ((o.getD 0:Nat):Int),.bool o.isSome]
theorem bits64:2 ^ IntKind.u64.bits = 18446744073709551616:=by simp only [IntKind.bits]
theorem leget_step (x y:Nat) (hy:y < 256) (hx:x * 256+y < 18446744073709551616) :
  orI .u64 (IntKind.u64.wrap ((x:Int) * 256)) (y:Int) = ((x * 256+y:Nat):Int):=by
 have e3:x * 256 < 2 ^ IntKind.u64.bits:=Nat.lt_of_lt_of_eq (Nat.lt_of_le_of_lt (Nat.le_add_right _ _) hx) bits64.symm
 have e4:y < 2 ^ IntKind.u64.bits:=Nat.lt_of_lt_of_eq (Nat.lt_of_lt_of_le hy (by decide)) bits64.symm
 have e1:IntKind.u64.wrap ((x:Int) * 256) = ((x * 256:Nat):Int):=by clear e3 e4;rw [wrap_u64] <;> omega
 rw [e1,orI_nat rfl e3 e4,or_shl x y hy]
set_option maxHeartbeats 1000000 in
theorem leget_ev [MaxL] [TxtC] (s:Sl UInt8) (at_ n:Int) (hat:-9223372036854775808≤at_∧at_ < 9223372036854775808) (hl:s.l.length < 4611686018427387904) :
  call cx 68 [(.vsl s.nil (ofBytes s.l) s.l.length),.int .i64 at_,.int .i64 n] [] = some (optN (leGet s.l at_ n),[]):=by
 have hs:=lesize_ev n
 refine call_run Tryz.func68 rfl ⟨rfl,rfl⟩ ?_
 cases hz:szOk n with
 | false =>
  rw [hz] at hs
  simp [Tryz.f68,hs,leGet,hz,optN]
 | true =>
  rw [hz] at hs
  have hb:=szOk_le hz
  by_cases h0:at_ < 0
  ·have h0':¬ 0≤at_:=by omega
   simp [Tryz.f68,hs,leGet,hz,optN,h0,h0']
  ·have h0':0≤at_:=by omega
   have hw:IntKind.i64.wrap ((s.l.length:Int) - n) = (s.l.length:Int) - n:=by rw [wrap_i64];omega
   by_cases hle:at_+n≤s.l.length
   ·have hle':¬ ((s.l.length:Int) - n < at_):=by omega
    obtain ⟨a,rfl⟩:∃ a:Nat,at_ = a:=⟨at_.toNat,by omega⟩
    obtain ⟨k,rfl⟩:∃ k:Nat,n = k:=⟨n.toNat,by omega⟩
    have hw1:IntKind.i64.wrap ((k:Int) - 1) = (k:Int) - 1:=by rw [wrap_i64];omega
    have hnn:s.nil = false:=Sl.nn (i:=a) (by omega)
    simp [Tryz.f68,hs,leGet,hz,optN,h0,h0',hw,hle,hle',hw1,hnn]
    refine Run.loopThen (fun (i:Nat) e H=>i≤k∧H = []∧look e 0 = some (.vsl s.nil (ofBytes s.l) s.l.length)∧look e 1 = some (.int .i64 a)∧look e 8 = some (.int .u64 (leN ((s.l.drop (a+i)).take (k - i)):Nat))∧look e 9 = some (.int .i64 ((i:Int) - 1))) (fun i=>i) k (by simp [leN,hnn]) ?_
    rintro i e H ⟨hi,rfl,h0,h1,h8,h9⟩
    cases i with
    | zero=>simp [h0,h1,h8,h9]
    | succ j =>
     have hj:(0:Int)≤(j:Int):=by omega
     have hwj:IntKind.i64.wrap ((a:Int)+(j:Int)) = ((a+j:Nat):Int):=by rw [wrap_i64] <;> omega
     have hwk:IntKind.i64.wrap ((j:Int) - 1) = (j:Int) - 1:=by rw [wrap_i64];omega
     have hlt:a+j < s.l.length:=by omega
     have hlt':((a+j:Nat):Int) < (s.l.length:Int):=by omega
     have e1:((j+1:Nat):Int) - 1 = (j:Int):=by omega
     rw [e1] at h9
     have hd:(s.l.drop (a+j)).take (k - j) = s.l[a+j] :: (s.l.drop (a+(j+1))).take (k - (j+1)):=by
      rw [List.drop_eq_getElem_cons hlt,show k - j = (k - (j+1))+1 by omega,List.take_succ_cons,Nat.add_assoc]
     have hn8:leN ((s.l.drop (a+(j+1))).take (k - (j+1))) < 256 ^ 7:=by
      refine Nat.lt_of_lt_of_le (leN_lt _) (Nat.pow_le_pow_right (by decide) ?_)
      rw [List.length_take]
      omega
     have hst:=leget_step (leN ((s.l.drop (a+(j+1))).take (k - (j+1)))) s.l[a+j].toNat s.l[a+j].toNat_lt (by have:=s.l[a+j].toNat_lt;omega)
     have hwu:IntKind.u64.wrap (s.l[a+j].toNat:Int) = (s.l[a+j].toNat:Int):=by rw [wrap_u64];have:=s.l[a+j].toNat_lt;omega
     have g1:(0:Int)≤(a:Int)+(j:Int):=by omega
     have g2:(a:Int)+(j:Int) < (s.l.length:Int):=by omega
     have g3:((a:Int)+(j:Int)).toNat = a+j:=by omega
     simp [h0,h1,h8,h9,hj,hwj,hwk,hwu,hnn,g1,g2,g3,ofBytes_at hlt,IntKind.bits]
     rw [hst]
     exact ⟨j,by omega,by omega,by rw [hd,leN,Nat.mul_comm,Nat.add_comm],rfl⟩
   ·have hle':(s.l.length:Int) - n < at_:=by omega
    simp [Tryz.f68,hs,leGet,hz,optN,h0,h0',hw,hle,hle']
end Go.Ev.S
namespace Go.Ev
open Go Go.Proofs
section
variable {P:Program} {n:Nat} {t e:TypeId} {cs:List D}
theorem has_int {k:IntKind} (hu:P.underlying t = some (.int k)) (h:HasT P (n+1) t cs):∃ x,cs = [.int k x]∧(Lit.int k x).wf = true:=by
 unfold HasT at h;rw [hu] at h;exact h
def isI64 (n:Int):Prop:= -9223372036854775808≤n∧n < 9223372036854775808
theorem has_i64 (hu:P.underlying t = some (.int .i64)) (h:HasT P (n+1) t cs):∃ x,cs = [.int .i64 x]∧isI64 x:=by
 obtain ⟨x,h1,h2⟩:=has_int hu h
 refine ⟨x,h1,?_⟩
 simp [Lit.wf,IntKind.min,IntKind.max,IntKind.signed,IntKind.bits] at h2
 unfold isI64
 omega
end
theorem cor_val {W:World} {d:D} {v:Value} (h:Cor W [d] v.cells.toList) (ho:v.oneCell' = true):Rep (· < W.heap.size) W iota0 [] d v:=by
 have hv:v.cells.toList = [v]:=by
  cases v <;> first | rfl | simp [Value.oneCell'] at ho
 rw [hv] at h
 exact h.2.2 0 d rfl
end Go.Ev
namespace Go.Ev
open Go Go.Proofs
theorem one_int {P:Program} {W:World} {base:Nat} {t:TypeId} {k:IntKind} {v:Value} (hu:P.underlying t = some (.int k)) (h:Value.okWide P W .any base t v):v.oneCell' = true:=by
 simp only [Value.okWide,hu,Cell.okWide] at h
 cases v <;> first | rfl | simp [Cell.ok,hu] at h
section
variable {H:Type} {enc:TypeId × Value→H} {P:Program} {W:World} {base n:Nat} {t e:TypeId} {v:Value} {d:DataW H} {ps:List MemPlace}
theorem arg_i64 (hu:P.underlying t = some (.int .i64)) (hp:PlainT P (n+1) t = true) (hv:Value.okWide P W .any base t v) (h:DataW.Trod enc P W 0 (fun _=>true) true t v d ps):∃ b,Rep (· < W.heap.size) W iota0 [] (.int .i64 b) v∧isI64 b:=by
 obtain ⟨ds,h1,h2⟩:=read_plain hp h
 obtain ⟨b,rfl,hb⟩:=has_i64 hu h1
 exact ⟨b,cor_val h2 (one_int hu hv),hb⟩
end
theorem repL_nil' {ok:Nat→Prop} {w:World} {ι:Iota} {H:Heap}:RepL ok w ι H [] []:=⟨rfl,by simp⟩
theorem repL_cons' {ok:Nat→Prop} {w:World} {ι:Iota} {H:Heap} {d:D} {v:Value} {ds:List D} {vs:List Value} (h:Rep ok w ι H d v) (hs:RepL ok w ι H ds vs):RepL ok w ι H (d :: ds) (v :: vs):=by
 refine ⟨by simp [hs.1],fun j x hj=>?_⟩
 cases j with
 | zero=>simp at hj;subst hj;exact h
 | succ j=>exact hs.2 j x (by simpa using hj)
end Go.Ev
namespace Go.Ev
open Go Go.Proofs
@[simp] theorem ID.ta (i:ID) (r:List D):(ofBytes i.l ++ r).take 16 = ofBytes i.l:=by simp
@[simp] theorem ID.da (i:ID) (r:List D):(ofBytes i.l ++ r).drop 16 = r:=by simp
structure Cur where
 seq:ID
 n:Int
 boot:ID
 mono:Int
 real:Int
 xor:Int
 deriving DecidableEq
instance:Enc Cur:=⟨36,fun m=>(ofBytes m.seq.l ++ (.int .u64 m.n :: (ofBytes m.boot.l ++ (.int .u64 m.mono :: (.int .u64 m.real :: (.int .u64 m.xor :: ([]:List D))))))),fun m=>by simp,fun m=>by simp [idFree]⟩
theorem Cur.cells (m:Cur):Enc.cells m = (ofBytes m.seq.l ++ (.int .u64 m.n :: (ofBytes m.boot.l ++ (.int .u64 m.mono :: (.int .u64 m.real :: (.int .u64 m.xor :: ([]:List D))))))):=rfl
@[simp] theorem Cur.size:Enc.size Cur = 36:=rfl
@[simp] theorem Cur.cl (a:Cur):(Enc.cells a).length = 36:=Enc.len a
@[simp] theorem Cur.ct (a:Cur) (r:List D):(Enc.cells a ++ r).take 36 = Enc.cells a:=cells_take rfl a r
@[simp] theorem Cur.ct' (a:Cur):(Enc.cells a).take 36 = Enc.cells a:=cells_take' rfl a
@[simp] theorem Cur.cd (a:Cur) (r:List D):(Enc.cells a ++ r).drop 36 = r:=cells_drop rfl a r
@[simp] theorem Cur.el (l:List Cur):(encs l).length = l.length * 36:=encs_len' rfl l
@[simp] theorem Cur.ed (l:List Cur) (i:Nat):(encs l).drop (i * 36) = encs (l.drop i):=encs_drop rfl l i
@[simp] theorem Cur.et (l:List Cur) (i:Nat):(encs l).take (i * 36) = encs (l.take i):=encs_take rfl l i
@[simp high] theorem Cur.ea {l:List Cur} {i:Nat} (h:i < l.length):(encs l).drop (i * 36) = Enc.cells l[i] ++ encs (l.drop (i+1)):=encs_at rfl h
@[simp high] theorem Cur.es (m:Cur) {l:List Cur} {j:Nat} (h:j < l.length):setRange (encs l) (j * 36) (Enc.cells m) = encs (l.set j m):=encs_set rfl m l h
@[simp] theorem Cur.t0 (m:Cur):(Enc.cells m).take 16 = ofBytes m.seq.l:=by simp [Cur.cells]
@[simp] theorem Cur.t0' (m:Cur) (r:List D):(Enc.cells m ++ r).take 16 = ofBytes m.seq.l:=by simp [Cur.cells]
@[simp] theorem Cur.s0 (m:Cur) (x:ID):setRange (Enc.cells m) 0 (ofBytes x.l) = Enc.cells { m with seq:=x }:=by simp [List.take_append,Cur.cells]
@[simp] theorem Cur.d16 (m:Cur):(Enc.cells m).drop 16 = (.int .u64 m.n :: (ofBytes m.boot.l ++ (.int .u64 m.mono :: (.int .u64 m.real :: (.int .u64 m.xor :: ([]:List D)))))):=by simp [Cur.cells]
@[simp] theorem Cur.d16' (m:Cur) (r:List D):(Enc.cells m ++ r).drop 16 = (.int .u64 m.n :: (ofBytes m.boot.l ++ (.int .u64 m.mono :: (.int .u64 m.real :: (.int .u64 m.xor :: ([]:List D)))))) ++ r:=by simp [Cur.cells]
@[simp] theorem Cur.g16 (m:Cur) (h):(Enc.cells m)[16]'h = .int .u64 m.n:=by simp [Cur.cells]
@[simp] theorem Cur.q16 (m:Cur):(Enc.cells m)[16]? = some (.int .u64 m.n):=by simp [Cur.cells]
@[simp] theorem Cur.s16 (m:Cur) (x:Int):setRange (Enc.cells m) 16 [.int .u64 x] = Enc.cells { m with n:=x }:=by simp [List.drop_append,drop_bytes,Cur.cells]
@[simp] theorem Cur.d17 (m:Cur):(Enc.cells m).drop 17 = (ofBytes m.boot.l ++ (.int .u64 m.mono :: (.int .u64 m.real :: (.int .u64 m.xor :: ([]:List D))))):=by simp [List.drop_append,drop_bytes,Cur.cells]
@[simp] theorem Cur.d17' (m:Cur) (r:List D):(Enc.cells m ++ r).drop 17 = (ofBytes m.boot.l ++ (.int .u64 m.mono :: (.int .u64 m.real :: (.int .u64 m.xor :: ([]:List D))))) ++ r:=by simp [List.drop_append,drop_bytes,Cur.cells]
@[simp] theorem Cur.s17 (m:Cur) (x:ID):setRange (Enc.cells m) 17 (ofBytes x.l) = Enc.cells { m with boot:=x }:=by simp [List.take_append,List.drop_append,drop_bytes,List.take_of_length_le,Cur.cells]
@[simp] theorem Cur.d33 (m:Cur):(Enc.cells m).drop 33 = (.int .u64 m.mono :: (.int .u64 m.real :: (.int .u64 m.xor :: ([]:List D)))):=by simp [List.drop_append,drop_bytes,Cur.cells]
@[simp] theorem Cur.d33' (m:Cur) (r:List D):(Enc.cells m ++ r).drop 33 = (.int .u64 m.mono :: (.int .u64 m.real :: (.int .u64 m.xor :: ([]:List D)))) ++ r:=by simp [List.drop_append,drop_bytes,Cur.cells]
@[simp] theorem Cur.g33 (m:Cur) (h):(Enc.cells m)[33]'h = .int .u64 m.mono:=by simp [Cur.cells]
@[simp] theorem Cur.q33 (m:Cur):(Enc.cells m)[33]? = some (.int .u64 m.mono):=by simp [Cur.cells]
@[simp] theorem Cur.s33 (m:Cur) (x:Int):setRange (Enc.cells m) 33 [.int .u64 x] = Enc.cells { m with mono:=x }:=by simp [List.take_append,List.drop_append,drop_bytes,List.take_of_length_le,Cur.cells]
@[simp] theorem Cur.d34 (m:Cur):(Enc.cells m).drop 34 = (.int .u64 m.real :: (.int .u64 m.xor :: ([]:List D))):=by simp [List.drop_append,drop_bytes,Cur.cells]
@[simp] theorem Cur.d34' (m:Cur) (r:List D):(Enc.cells m ++ r).drop 34 = (.int .u64 m.real :: (.int .u64 m.xor :: ([]:List D))) ++ r:=by simp [List.drop_append,drop_bytes,Cur.cells]
@[simp] theorem Cur.g34 (m:Cur) (h):(Enc.cells m)[34]'h = .int .u64 m.real:=by simp [Cur.cells]
@[simp] theorem Cur.q34 (m:Cur):(Enc.cells m)[34]? = some (.int .u64 m.real):=by simp [Cur.cells]
@[simp] theorem Cur.s34 (m:Cur) (x:Int):setRange (Enc.cells m) 34 [.int .u64 x] = Enc.cells { m with real:=x }:=by simp [List.take_append,List.drop_append,drop_bytes,List.take_of_length_le,Cur.cells]
@[simp] theorem Cur.d35 (m:Cur):(Enc.cells m).drop 35 = (.int .u64 m.xor :: ([]:List D)):=by simp [List.drop_append,drop_bytes,Cur.cells]
@[simp] theorem Cur.d35' (m:Cur) (r:List D):(Enc.cells m ++ r).drop 35 = (.int .u64 m.xor :: ([]:List D)) ++ r:=by simp [List.drop_append,drop_bytes,Cur.cells]
@[simp] theorem Cur.g35 (m:Cur) (h):(Enc.cells m)[35]'h = .int .u64 m.xor:=by simp [Cur.cells]
@[simp] theorem Cur.q35 (m:Cur):(Enc.cells m)[35]? = some (.int .u64 m.xor):=by simp [Cur.cells]
@[simp] theorem Cur.s35 (m:Cur) (x:Int):setRange (Enc.cells m) 35 [.int .u64 x] = Enc.cells { m with xor:=x }:=by simp [List.take_append,List.drop_append,drop_bytes,List.take_of_length_le,Cur.cells]
end Go.Ev
namespace Go.Ev
open Go Go.Proofs
theorem cmpB_self:∀ (x:List UInt8),cmpB x x = 0
 | []=>rfl
 | a :: x=>by simp [cmpB,cmpB_self x]
theorem cmpB_swap:∀ (x y:List UInt8),cmpB y x = - cmpB x y
 | [],[]=>rfl
 | [],_ :: _=>rfl
 | _ :: _,[]=>rfl
 | a :: x,b :: y=>by
  simp only [cmpB]
  by_cases h:a = b
  ·subst h;simp [cmpB_swap x y]
  ·have h':¬ b = a:=fun e=>h e.symm
   rw [if_neg h,if_neg h']
   by_cases hl:a < b
   ·have:¬ b < a:=UInt8.not_lt.2 (UInt8.le_of_lt hl)
    rw [if_pos hl,if_neg this];rfl
   ·have:b < a:=UInt8.lt_of_le_of_ne (UInt8.not_lt.1 hl) h'
    rw [if_neg hl,if_pos this]
theorem cmpB_eq:∀ {x y:List UInt8},cmpB x y = 0→x = y
 | [],[],_=>rfl
 | [],_ :: _,h=>by simp [cmpB] at h
 | _ :: _,[],h=>by simp [cmpB] at h
 | a :: x,b :: y,h=>by
  simp only [cmpB] at h
  by_cases e:a = b
  ·rw [if_pos e] at h
   rw [e,cmpB_eq h]
  ·rw [if_neg e] at h
   split at h <;> simp at h
theorem cmpB_rng:∀ (x y:List UInt8),cmpB x y = -1∨cmpB x y = 0∨cmpB x y = 1
 | [],[]=>by simp [cmpB]
 | [],_ :: _=>by simp [cmpB]
 | _ :: _,[]=>by simp [cmpB]
 | a :: x,b :: y=>by
  simp only [cmpB]
  split
  ·exact cmpB_rng x y
  ·split <;> simp
theorem cmpB_trans:∀ {x y z:List UInt8},cmpB x y < 0→cmpB y z < 0→cmpB x z < 0
 | [],[],_,h,_=>by simp [cmpB] at h
 | [],_ :: _,[],_,h=>by simp [cmpB] at h
 | [],_ :: _,_ :: _,_,_=>by simp [cmpB]
 | _ :: _,[],_,h,_=>by simp [cmpB] at h
 | _ :: _,_ :: _,[],_,h=>by simp [cmpB] at h
 | a :: x,b :: y,c :: z,h1,h2=>by
  simp only [cmpB] at h1 h2 ⊢
  by_cases e1:a = b
  ·subst e1
   rw [if_pos rfl] at h1
   by_cases e2:a = c
   ·subst e2
    rw [if_pos rfl] at h2 ⊢
    exact cmpB_trans h1 h2
   ·rw [if_neg e2] at h2 ⊢
    exact h2
  ·rw [if_neg e1] at h1
   have l1:a < b:=by
    by_cases l:a < b
    ·exact l
    ·rw [if_neg l] at h1;simp at h1
   by_cases e2:b = c
   ·subst e2
    rw [if_neg e1,if_pos l1]
    decide
   ·rw [if_neg e2] at h2
    have l2:b < c:=by
     by_cases l:b < c
     ·exact l
     ·rw [if_neg l] at h2;simp at h2
    have l3:a < c:=UInt8.lt_trans l1 l2
    rw [if_neg (UInt8.ne_of_lt l3),if_pos l3]
    decide
theorem id_of_cmp {a b:ID} (h:cmpB a.l b.l = 0):a = b:=ID.ext' (cmpB_eq h)
end Go.Ev
namespace Go.Ev
open Go Go.Proofs
def hexc (k:Nat):UInt8:=if k < 10 then UInt8.ofNat (48+k) else UInt8.ofNat (87+k)
def hexF:Nat→Nat→List UInt8
 | 0,_=>[]
 | f+1,v=>if v < 16 then [hexc v] else hexF f (v / 16) ++ [hexc (v % 16)]
def hx (v:Nat):List UInt8:=hexF 16 v
def digL:List UInt8:=[48,49,50,51,52,53,54,55,56,57,97,98,99,100,101,102]
def dig36:List UInt8:=[48,49,50,51,52,53,54,55,56,57,97,98,99,100,101,102,103,104,105,106,107,108,109,110,111,112,113,114,115,116,117,118,119,120,121,122]
theorem dig36_at:∀ k,k < 16→dig36[k]? = some (hexc k):=by decide
theorem digL_at:∀ k,k < 16→digL[k]? = some (hexc k):=by decide
theorem digL_idx:∀ k,k < 16→idxB (hexc k) digL 0 = (k:Int):=by decide
theorem hexF_len:∀ (f v:Nat),(hexF f v).length≤f
 | 0,_=>Nat.le_refl _
 | f+1,v=>by
  rw [hexF]
  split
  ·simp
  ·have:=hexF_len f (v / 16)
   simp
   omega
theorem hx_len (v:Nat):(hx v).length≤16:=hexF_len 16 v
theorem hx_pos (v:Nat):0 < (hx v).length:=by
 unfold hx hexF
 split <;> simp
def hexs:List UInt8→List UInt8
 | []=>[]
 | b :: l=>hexc (b.toNat / 16) :: hexc (b.toNat % 16) :: hexs l
theorem hexs_len:∀ (l:List UInt8),(hexs l).length = 2 * l.length
 | []=>rfl
 | b :: l=>by simp [hexs,hexs_len l];omega
theorem hexs_append:∀ (a b:List UInt8),hexs (a ++ b) = hexs a ++ hexs b
 | [],_=>rfl
 | x :: a,b=>by simp [hexs,hexs_append a b]
def idGo:List UInt8→Nat→List UInt8→Option (List UInt8)
 | [],_,st=>some st
 | c :: l,i,st=>if idxB c digL 0 < 0 then none else idGo l (i+1) (st.set (i / 2) ((st.getD (i / 2) 0 <<< 4) ||| UInt8.ofNat (idxB c digL 0).toNat))
def zero16:List UInt8:=List.replicate 16 0
def idP (s:List UInt8):Option (List UInt8):=if s.length = 32 then idGo s 0 zero16 else none
theorem idGo_len:∀ (s:List UInt8) (i:Nat) (st r:List UInt8),idGo s i st = some r→r.length = st.length
 | [],_,st,r,h=>by simp only [idGo,Option.some.injEq] at h;rw [h]
 | c :: l,i,st,r,h=>by
  simp only [idGo] at h
  split at h
  ·cases h
  ·have:=idGo_len l _ _ r h
   simpa using this
theorem idP_len {s r:List UInt8} (h:idP s = some r):r.length = 16:=by
 unfold idP at h
 split at h
 ·have:=idGo_len _ _ _ _ h
  simpa [zero16] using this
 ·cases h
theorem idx_range (c:UInt8):∀ (l:List UInt8) (n:Nat),idxB c l n = -1∨∃ k,k < l.length∧idxB c l n = ((n+k:Nat):Int)
 | [],_=>.inl rfl
 | b :: l,n=>by
  unfold idxB
  split
  ·exact .inr ⟨0,by simp,by simp⟩
  ·rcases idx_range c l (n+1) with h | ⟨k,h1,h2⟩
   ·exact .inl h
   ·exact .inr ⟨k+1,by simp;omega,by rw [h2];omega⟩
theorem nib_orN:∀ n,n < 256→(((0:UInt8) <<< 4 ||| UInt8.ofNat (n / 16)) <<< 4) ||| UInt8.ofNat (n % 16) = UInt8.ofNat n:=by decide +kernel
theorem nib_or (b:UInt8):(((0:UInt8) <<< 4 ||| UInt8.ofNat (b.toNat / 16)) <<< 4) ||| UInt8.ofNat (b.toNat % 16) = b:=by
 rw [nib_orN b.toNat b.toNat_lt,UInt8.ofNat_toNat]
theorem idGo_hexs:∀ (l done:List UInt8),idGo (hexs l) (2 * done.length) (done ++ List.replicate l.length 0) = some (done ++ l)
 | [],done=>by simp [hexs,idGo]
 | b :: l,done=>by
  have hb:=b.toNat_lt
  have h1:=digL_idx (b.toNat / 16) (by omega)
  have h2:=digL_idx (b.toNat % 16) (by omega)
  simp only [hexs,idGo,h1,h2]
  rw [if_neg (by omega),if_neg (by omega)]
  have e1:2 * done.length / 2 = done.length:=by omega
  have e2:(2 * done.length+1) / 2 = done.length:=by omega
  have e3:2 * done.length+1+1 = 2 * (done ++ [b]).length:=by simp;omega
  have g1:(done ++ List.replicate (b :: l).length 0).getD done.length 0 = (0:UInt8):=by
   simp [List.getD,List.replicate_succ]
  rw [e1,e2,e3,g1]
  have s1:∀ x:UInt8,(done ++ List.replicate (b :: l).length (0:UInt8)).set done.length x = done ++ x :: List.replicate l.length 0:=by
   intro x
   simp [List.replicate_succ]
  rw [s1]
  have g2:∀ x:UInt8,(done ++ x :: List.replicate l.length (0:UInt8)).getD done.length 0 = x:=by
   intro x
   simp [List.getD]
  rw [g2]
  have s2:∀ x y:UInt8,(done ++ x :: List.replicate l.length (0:UInt8)).set done.length y = (done ++ [y]) ++ List.replicate l.length 0:=by
   intro x y
   simp
  have e4:((((b.toNat / 16:Nat):Int)).toNat) = b.toNat / 16:=by omega
  have e5:((((b.toNat % 16:Nat):Int)).toNat) = b.toNat % 16:=by omega
  rw [s2,e4,e5,nib_or b,idGo_hexs l (done ++ [b])]
  simp
theorem idP_hexs {l:List UInt8} (h:l.length = 16):idP (hexs l) = some l:=by
 unfold idP
 rw [if_pos (by rw [hexs_len,h])]
 have:=idGo_hexs l []
 simpa [zero16,h] using this
theorem shl4_N:∀ n:Nat,n < 256→∀ k:Nat,k < 16→orI .u8 (IntKind.u8.wrap ((n:Int) * 16)) (k:Int) = ((UInt8.ofNat n <<< 4 ||| UInt8.ofNat k).toNat:Int):=by decide +kernel
theorem shl4_u8 (a:UInt8) (k:Nat) (hk:k < 16):orI .u8 (IntKind.u8.wrap ((a.toNat:Int) * 16)) (k:Int) = ((a <<< 4 ||| UInt8.ofNat k).toNat:Int):=by
 rw [shl4_N a.toNat a.toNat_lt k hk,UInt8.ofNat_toNat]
theorem and15_u64 {n:Nat} (h:n < 18446744073709551616):andI .u64 (n:Int) 15 = ((n % 16:Nat):Int):=by
 unfold andI
 have e:(BitVec.ofInt IntKind.u64.bits (n:Int) &&& BitVec.ofInt IntKind.u64.bits 15).toNat = n % 16:=by
  show (BitVec.ofInt 64 (n:Int) &&& BitVec.ofInt 64 ((15:Nat):Int)).toNat = n % 16
  rw [BitVec.ofInt_natCast,BitVec.ofInt_natCast,BitVec.toNat_and,BitVec.toNat_ofNat,BitVec.toNat_ofNat,Nat.mod_eq_of_lt (show n < 2 ^ 64 by omega)]
  exact Nat.and_two_pow_sub_one_eq_mod n 4
 rw [e,wrap_u64]
 omega
theorem and15_u8N:∀ n:Nat,n < 256→andI .u8 (n:Int) 15 = ((n % 16:Nat):Int):=by decide +kernel
theorem and15_u8 (b:UInt8):andI .u8 (b.toNat:Int) 15 = ((b.toNat % 16:Nat):Int):=and15_u8N b.toNat b.toNat_lt
theorem fdiv16 (n:Nat):Int.fdiv (n:Int) 16 = ((n / 16:Nat):Int):=by
 rw [Int.fdiv_eq_ediv_of_nonneg _ (by omega)]
 omega
theorem fill_behind (i:Nat) (s:List UInt8) (c:UInt8):setRange (List.replicate (i+1) (D.int .u8 0) ++ ofBytes s) i [.int .u8 c.toNat] = List.replicate i (.int .u8 0) ++ ofBytes (c :: s):=by
 unfold setRange
 have h:(List.replicate (i+1) (D.int .u8 0) ++ ofBytes s).drop (i+1) = ofBytes s:=List.drop_left' (by simp)
 have h2:(List.replicate (i+1) (D.int .u8 0) ++ ofBytes s).take i = List.replicate i (D.int .u8 0):=by
  rw [List.take_append_of_le_length (by simp),List.take_replicate]
  congr 1
  omega
 rw [h2,List.length_singleton,h]
 simp [ofBytes]
end Go.Ev
namespace Go.Ev
open Go Go.Proofs
def rolI (x:Int) (k:Nat):Int:=orI .u32 (IntKind.u32.wrap (x * 2 ^ k)) (x.fdiv (2 ^ (32 - k)))
def add32 (a b:Int):Int:=IntKind.u32.wrap (a+b)
def sub32 (a b:Int):Int:=IntKind.u32.wrap (a - b)
def stpM (k:Nat):Int × Int × Int→Int × Int × Int
 | (a,b,c)=>(b,add32 c b,xorI .u32 (sub32 a c) (rolI c k))
def mixI (t:Int × Int × Int):Int × Int × Int:=stpM 4 (stpM 19 (stpM 16 (stpM 8 (stpM 6 (stpM 4 t)))))
def stpF (k:Nat):Int × Int × Int→Int × Int × Int
 | (p,q,r)=>(r,sub32 (xorI .u32 p q) (rolI q k),q)
def finI:Int × Int × Int→Int × Int × Int
 | (x,y,z)=>stpF 24 (stpF 14 (stpF 4 (stpF 16 (stpF 25 (stpF 11 (stpF 14 (z,y,x)))))))
theorem mix_at {x y z x1 z1 y1 x2 z2 y2 x3 z3 y3 x4 z4 y4 a1 a2 a3 a4 a5 a6:Int}
  (h1:sub32 x z = a1) (h2:xorI .u32 a1 (rolI z 4) = x1) (h3:add32 z y = z1)
  (h4:sub32 y x1 = a2) (h5:xorI .u32 a2 (rolI x1 6) = y1) (h6:add32 x1 z1 = x2)
  (h7:sub32 z1 y1 = a3) (h8:xorI .u32 a3 (rolI y1 8) = z2) (h9:add32 y1 x2 = y2)
  (g1:sub32 x2 z2 = a4) (g2:xorI .u32 a4 (rolI z2 16) = x3) (g3:add32 z2 y2 = z3)
  (g4:sub32 y2 x3 = a5) (g5:xorI .u32 a5 (rolI x3 19) = y3) (g6:add32 x3 z3 = x4)
  (g7:sub32 z3 y3 = a6) (g8:xorI .u32 a6 (rolI y3 4) = z4) (g9:add32 y3 x4 = y4):mixI (x,y,z) = (x4,y4,z4):=by
 unfold mixI
 have e1:stpM 4 (x,y,z) = (y,z1,x1):=by simp only [stpM,h1,h2,h3]
 have e2:stpM 6 (y,z1,x1) = (z1,x2,y1):=by simp only [stpM,h4,h5,h6]
 have e3:stpM 8 (z1,x2,y1) = (x2,y2,z2):=by simp only [stpM,h7,h8,h9]
 have e4:stpM 16 (x2,y2,z2) = (y2,z3,x3):=by simp only [stpM,g1,g2,g3]
 have e5:stpM 19 (y2,z3,x3) = (z3,x4,y3):=by simp only [stpM,g4,g5,g6]
 have e6:stpM 4 (z3,x4,y3) = (x4,y4,z4):=by simp only [stpM,g7,g8,g9]
 rw [e1,e2,e3,e4,e5,e6]
theorem fin_at {x y z a1 z1 a2 x1 a3 y1 a4 z2 a5 x2 a6 y2 a7 z3:Int}
  (h1:xorI .u32 z y = a1) (h2:sub32 a1 (rolI y 14) = z1)
  (h3:xorI .u32 x z1 = a2) (h4:sub32 a2 (rolI z1 11) = x1)
  (h5:xorI .u32 y x1 = a3) (h6:sub32 a3 (rolI x1 25) = y1)
  (h7:xorI .u32 z1 y1 = a4) (h8:sub32 a4 (rolI y1 16) = z2)
  (g1:xorI .u32 x1 z2 = a5) (g2:sub32 a5 (rolI z2 4) = x2)
  (g3:xorI .u32 y1 x2 = a6) (g4:sub32 a6 (rolI x2 14) = y2)
  (g5:xorI .u32 z2 y2 = a7) (g6:sub32 a7 (rolI y2 24) = z3):finI (x,y,z) = (x2,z3,y2):=by
 unfold finI
 have e1:stpF 14 (z,y,x) = (x,z1,y):=by simp only [stpF,h1,h2]
 have e2:stpF 11 (x,z1,y) = (y,x1,z1):=by simp only [stpF,h3,h4]
 have e3:stpF 25 (y,x1,z1) = (z1,y1,x1):=by simp only [stpF,h5,h6]
 have e4:stpF 16 (z1,y1,x1) = (x1,z2,y1):=by simp only [stpF,h7,h8]
 have e5:stpF 4 (x1,z2,y1) = (y1,x2,z2):=by simp only [stpF,g1,g2]
 have e6:stpF 14 (y1,x2,z2) = (z2,y2,x2):=by simp only [stpF,g3,g4]
 have e7:stpF 24 (z2,y2,x2) = (x2,z3,y2):=by simp only [stpF,g5,g6]
 simp only [e1,e2,e3,e4,e5,e6,e7]
def wordL (l:List UInt8) (a:Nat):Nat:=leN ((l.drop a).take 4)
theorem wordL_lt (l:List UInt8) (a:Nat):wordL l a < 4294967296:=by
 refine Nat.lt_of_lt_of_le (leN_lt _) ?_
 have:((l.drop a).take 4).length≤4:=by rw [List.length_take];omega
 exact Nat.le_trans (Nat.pow_le_pow_right (by decide) this) (by decide)
def addT (l:List UInt8):Int × Int × Int→Int × Int × Int
 | (x,y,z)=>(add32 x (wordL l 0:Nat),add32 y (wordL l 4:Nat),add32 z (wordL l 8:Nat))
def outT:Int × Int × Int→Int
 | (_,y,z)=>orI .u64 (IntKind.u64.wrap (IntKind.u64.wrap z * 4294967296)) (IntKind.u64.wrap y)
def lookR (l:List UInt8) (t:Int × Int × Int):Int :=
 if 12 < l.length then lookR (l.drop 12) (mixI (addT l t)) else if l.length = 0 then outT t else match finI (addT l t) with | (_,z,y)=>outT (0,y,z)
termination_by l.length
decreasing_by simp;omega
def lookN (l:List UInt8):Int:=lookR l (add32 3735928559 (IntKind.u32.wrap (l.length:Nat)),add32 3735928559 (IntKind.u32.wrap (l.length:Nat)),add32 3735928559 (IntKind.u32.wrap (l.length:Nat)))
theorem lookR_more {l:List UInt8} (h:12 < l.length) (t:Int × Int × Int):lookR l t = lookR (l.drop 12) (mixI (addT l t)):=by
 rw [lookR,if_pos h]
theorem lookR_end {l:List UInt8} (h:¬ 12 < l.length) (h0:l.length≠0) {t:Int × Int × Int} {x y z:Int} (hf:finI (addT l t) = (x,z,y)):lookR l t = outT (0,y,z):=by
 rw [lookR,if_neg h,if_neg h0,hf]
theorem lookR_nil {l:List UInt8} (h0:l.length = 0) (t:Int × Int × Int):lookR l t = outT t:=by
 rw [lookR,if_neg (by omega),if_pos h0]
theorem and31:∀ k:Nat,k < 32→andI .u64 (k:Int) 31 = (k:Int):=by decide
end Go.Ev
namespace Go.Ev.S
open Go Go.Proofs Go.Ev
theorem rotl_ev [MaxL] [TxtC] (x:Int) (k:Nat) (hk:k < 32):call cx 224 [.int .u32 x,.int .i64 k] [] = some (.int .u32 (rolI x k),[]):=by
 have h:=and31 k hk
 have hw:IntKind.u64.wrap (k:Int) = (k:Int):=by rw [wrap_u64] <;> omega
 have hw2:IntKind.u64.wrap (32 - (k:Int)) = ((32 - k:Nat):Int):=by rw [wrap_u64] <;> omega
 have m1:min k 32 = k:=by omega
 have hn:¬ (k:Int) < 0:=by omega
 refine call_run Tryz.func224 rfl ⟨rfl,rfl⟩ ?_
 unfold rolI
 obtain ⟨j,hj⟩:∃ j,j = 32 - k:=⟨_,rfl⟩
 rw [← hj] at hw2 ⊢
 have m2:min j 32 = j:=by omega
 have hn2:¬ (j:Int) < 0:=by omega
 simp [Tryz.f224,h,hw,hw2,IntKind.bits,m1,m2,hn,hn2]
theorem rol_at [MaxL] [TxtC] {x r:Int} {k:Nat} (hk:k < 32) (e:rolI x k = r) {kk:Int} (hkk:kk = k):call cx 224 [.int .u32 x,.int .i64 kk] [] = some (.int .u32 r,[]):=by
 rw [hkk,← e]
 exact rotl_ev x k hk
set_option maxHeartbeats 4000000 in
set_option maxRecDepth 4000 in
theorem mix_ev [MaxL] [TxtC] (x y z:Int) (R:Heap) (hR:R = []∨R = [none]):call cx 196 [.optr 0 3 0] (some [.int .u32 x,.int .u32 y,.int .u32 z] :: R) = some (.tup [],some [.int .u32 (mixI (x,y,z)).1,.int .u32 (mixI (x,y,z)).2.1,.int .u32 (mixI (x,y,z)).2.2] :: R):=by
 obtain ⟨a1,h1⟩:∃ v,sub32 x z = v:=⟨_,rfl⟩
 have e0:IntKind.u32.wrap (x - z) = a1:=h1
 obtain ⟨r0,q0⟩:∃ v,rolI z 4 = v:=⟨_,rfl⟩
 have e1:=rol_at (by omega) q0 (kk:=4) rfl
 obtain ⟨x1,f0⟩:∃ v,xorI .u32 a1 r0 = v:=⟨_,rfl⟩
 have h2:xorI .u32 a1 (rolI z 4) = x1:=by rw [q0];exact f0
 obtain ⟨z1,h3⟩:∃ v,add32 z y = v:=⟨_,rfl⟩
 have e2:IntKind.u32.wrap (z+y) = z1:=h3
 obtain ⟨a2,h4⟩:∃ v,sub32 y x1 = v:=⟨_,rfl⟩
 have e3:IntKind.u32.wrap (y - x1) = a2:=h4
 obtain ⟨r1,q1⟩:∃ v,rolI x1 6 = v:=⟨_,rfl⟩
 have e4:=rol_at (by omega) q1 (kk:=6) rfl
 obtain ⟨y1,f1⟩:∃ v,xorI .u32 a2 r1 = v:=⟨_,rfl⟩
 have h5:xorI .u32 a2 (rolI x1 6) = y1:=by rw [q1];exact f1
 obtain ⟨x2,h6⟩:∃ v,add32 x1 z1 = v:=⟨_,rfl⟩
 have e5:IntKind.u32.wrap (x1+z1) = x2:=h6
 obtain ⟨a3,h7⟩:∃ v,sub32 z1 y1 = v:=⟨_,rfl⟩
 have e6:IntKind.u32.wrap (z1 - y1) = a3:=h7
 obtain ⟨r2,q2⟩:∃ v,rolI y1 8 = v:=⟨_,rfl⟩
 have e7:=rol_at (by omega) q2 (kk:=8) rfl
 obtain ⟨z2,f2⟩:∃ v,xorI .u32 a3 r2 = v:=⟨_,rfl⟩
 have h8:xorI .u32 a3 (rolI y1 8) = z2:=by rw [q2];exact f2
 obtain ⟨y2,h9⟩:∃ v,add32 y1 x2 = v:=⟨_,rfl⟩
 have e8:IntKind.u32.wrap (y1+x2) = y2:=h9
 obtain ⟨a4,g1⟩:∃ v,sub32 x2 z2 = v:=⟨_,rfl⟩
 have e9:IntKind.u32.wrap (x2 - z2) = a4:=g1
 obtain ⟨r3,q3⟩:∃ v,rolI z2 16 = v:=⟨_,rfl⟩
 have e10:=rol_at (by omega) q3 (kk:=16) rfl
 obtain ⟨x3,f3⟩:∃ v,xorI .u32 a4 r3 = v:=⟨_,rfl⟩
 have g2:xorI .u32 a4 (rolI z2 16) = x3:=by rw [q3];exact f3
 obtain ⟨z3,g3⟩:∃ v,add32 z2 y2 = v:=⟨_,rfl⟩
 have e11:IntKind.u32.wrap (z2+y2) = z3:=g3
 obtain ⟨a5,g4⟩:∃ v,sub32 y2 x3 = v:=⟨_,rfl⟩
 have e12:IntKind.u32.wrap (y2 - x3) = a5:=g4
 obtain ⟨r4,q4⟩:∃ v,rolI x3 19 = v:=⟨_,rfl⟩
 have e13:=rol_at (by omega) q4 (kk:=19) rfl
 obtain ⟨y3,f4⟩:∃ v,xorI .u32 a5 r4 = v:=⟨_,rfl⟩
 have g5:xorI .u32 a5 (rolI x3 19) = y3:=by rw [q4];exact f4
 obtain ⟨x4,g6⟩:∃ v,add32 x3 z3 = v:=⟨_,rfl⟩
 have e14:IntKind.u32.wrap (x3+z3) = x4:=g6
 obtain ⟨a6,g7⟩:∃ v,sub32 z3 y3 = v:=⟨_,rfl⟩
 have e15:IntKind.u32.wrap (z3 - y3) = a6:=g7
 obtain ⟨r5,q5⟩:∃ v,rolI y3 4 = v:=⟨_,rfl⟩
 have e16:=rol_at (by omega) q5 (kk:=4) rfl
 obtain ⟨z4,f5⟩:∃ v,xorI .u32 a6 r5 = v:=⟨_,rfl⟩
 have g8:xorI .u32 a6 (rolI y3 4) = z4:=by rw [q5];exact f5
 obtain ⟨y4,g9⟩:∃ v,add32 y3 x4 = v:=⟨_,rfl⟩
 have e17:IntKind.u32.wrap (y3+x4) = y4:=g9
 have hm:=mix_at h1 h2 h3 h4 h5 h6 h7 h8 h9 g1 g2 g3 g4 g5 g6 g7 g8 g9
 rw [hm]
 clear g9 g8 g7 g6 g5 g4 g3 g2 g1 h9 h8 h7 h6 h5 h4 h3 h2 h1 hm q0 q1 q2 q3 q4 q5
 rcases hR with rfl | rfl
 ·refine call_run Tryz.func196 rfl ⟨rfl,rfl⟩ ?_
  simp [Tryz.f196,e0,e1,f0,e2,e3,e4,f1,e5,e6,e7,f2,e8,e9,e10,f3,e11,e12,e13,f4,e14,e15,e16,f5,e17]
 ·refine call_run Tryz.func196 rfl ⟨rfl,rfl⟩ ?_
  simp [Tryz.f196,e0,e1,f0,e2,e3,e4,f1,e5,e6,e7,f2,e8,e9,e10,f3,e11,e12,e13,f4,e14,e15,e16,f5,e17]
set_option maxHeartbeats 4000000 in
set_option maxRecDepth 4000 in
theorem last_ev [MaxL] [TxtC] (x y z:Int) {x' y' z':Int} (hm:finI (x,y,z) = (x',z',y')) (R:Heap) (hR:R = []∨R = [none]):call cx 197 [.optr 0 3 0] (some [.int .u32 x,.int .u32 y,.int .u32 z] :: R) = some (.tup [],some [.int .u32 x',.int .u32 y',.int .u32 z'] :: R):=by
 obtain ⟨a1,h1⟩:∃ v,xorI .u32 z y = v:=⟨_,rfl⟩
 obtain ⟨r0,q0⟩:∃ v,rolI y 14 = v:=⟨_,rfl⟩
 have e1:=rol_at (by omega) q0 (kk:=14) rfl
 obtain ⟨z1,f0⟩:∃ v,sub32 a1 r0 = v:=⟨_,rfl⟩
 have d0:IntKind.u32.wrap (a1 - r0) = z1:=f0
 have h2:sub32 a1 (rolI y 14) = z1:=by rw [q0];exact f0
 obtain ⟨a2,h3⟩:∃ v,xorI .u32 x z1 = v:=⟨_,rfl⟩
 obtain ⟨r1,q1⟩:∃ v,rolI z1 11 = v:=⟨_,rfl⟩
 have e3:=rol_at (by omega) q1 (kk:=11) rfl
 obtain ⟨x1,f1⟩:∃ v,sub32 a2 r1 = v:=⟨_,rfl⟩
 have d1:IntKind.u32.wrap (a2 - r1) = x1:=f1
 have h4:sub32 a2 (rolI z1 11) = x1:=by rw [q1];exact f1
 obtain ⟨a3,h5⟩:∃ v,xorI .u32 y x1 = v:=⟨_,rfl⟩
 obtain ⟨r2,q2⟩:∃ v,rolI x1 25 = v:=⟨_,rfl⟩
 have e5:=rol_at (by omega) q2 (kk:=25) rfl
 obtain ⟨y1,f2⟩:∃ v,sub32 a3 r2 = v:=⟨_,rfl⟩
 have d2:IntKind.u32.wrap (a3 - r2) = y1:=f2
 have h6:sub32 a3 (rolI x1 25) = y1:=by rw [q2];exact f2
 obtain ⟨a4,h7⟩:∃ v,xorI .u32 z1 y1 = v:=⟨_,rfl⟩
 obtain ⟨r3,q3⟩:∃ v,rolI y1 16 = v:=⟨_,rfl⟩
 have e7:=rol_at (by omega) q3 (kk:=16) rfl
 obtain ⟨z2,f3⟩:∃ v,sub32 a4 r3 = v:=⟨_,rfl⟩
 have d3:IntKind.u32.wrap (a4 - r3) = z2:=f3
 have h8:sub32 a4 (rolI y1 16) = z2:=by rw [q3];exact f3
 obtain ⟨a5,g1⟩:∃ v,xorI .u32 x1 z2 = v:=⟨_,rfl⟩
 obtain ⟨r4,q4⟩:∃ v,rolI z2 4 = v:=⟨_,rfl⟩
 have e9:=rol_at (by omega) q4 (kk:=4) rfl
 obtain ⟨x2,f4⟩:∃ v,sub32 a5 r4 = v:=⟨_,rfl⟩
 have d4:IntKind.u32.wrap (a5 - r4) = x2:=f4
 have g2:sub32 a5 (rolI z2 4) = x2:=by rw [q4];exact f4
 obtain ⟨a6,g3⟩:∃ v,xorI .u32 y1 x2 = v:=⟨_,rfl⟩
 obtain ⟨r5,q5⟩:∃ v,rolI x2 14 = v:=⟨_,rfl⟩
 have e11:=rol_at (by omega) q5 (kk:=14) rfl
 obtain ⟨y2,f5⟩:∃ v,sub32 a6 r5 = v:=⟨_,rfl⟩
 have d5:IntKind.u32.wrap (a6 - r5) = y2:=f5
 have g4:sub32 a6 (rolI x2 14) = y2:=by rw [q5];exact f5
 obtain ⟨a7,g5⟩:∃ v,xorI .u32 z2 y2 = v:=⟨_,rfl⟩
 obtain ⟨r6,q6⟩:∃ v,rolI y2 24 = v:=⟨_,rfl⟩
 have e13:=rol_at (by omega) q6 (kk:=24) rfl
 obtain ⟨z3,f6⟩:∃ v,sub32 a7 r6 = v:=⟨_,rfl⟩
 have d6:IntKind.u32.wrap (a7 - r6) = z3:=f6
 have g6:sub32 a7 (rolI y2 24) = z3:=by rw [q6];exact f6
 have hn:=fin_at h1 h2 h3 h4 h5 h6 h7 h8 g1 g2 g3 g4 g5 g6
 rw [hm] at hn
 clear hm
 obtain ⟨hn1,hn⟩:=Prod.mk.inj hn
 obtain ⟨hn2,hn3⟩:=Prod.mk.inj hn
 clear g6 g4 g2 h8 h6 h4 h2 f0 q0 f1 q1 f2 q2 f3 q3 f4 q4 f5 q5 f6 q6
 rw [hn1,hn2,hn3]
 clear hn1 hn2 hn3
 rcases hR with rfl | rfl
 ·refine call_run Tryz.func197 rfl ⟨rfl,rfl⟩ ?_
  simp [Tryz.f197,h1,e1,d0,h3,e3,d1,h5,e5,d2,h7,e7,d3,g1,e9,d4,g3,e11,d5,g5,e13,d6]
 ·refine call_run Tryz.func197 rfl ⟨rfl,rfl⟩ ?_
  simp [Tryz.f197,h1,e1,d0,h3,e3,d1,h5,e5,d2,h7,e7,d3,g1,e9,d4,g3,e11,d5,g5,e13,d6]
end Go.Ev.S
namespace Go.Ev.S
open Go Go.Proofs Go.Ev
theorem get12 [MaxL] [TxtC] (l:List UInt8) (hl:l.length = 12) (a:Nat) (ha:a≤8) {at_:Int} (hat:at_ = a):call cx 68 [.vsl false (ofBytes l) 12,.int .i64 at_,.int .i64 4] [] = some (.tup [.int .u64 (wordL l a:Nat),.bool true],[]):=by
 have h:=leget_ev (Sl.of l) at_ 4 (by omega) (by show l.length < _;omega)
 have e:leGet l at_ 4 = some (wordL l a):=by
  unfold leGet
  rw [if_pos ⟨by decide,by omega,by omega⟩]
  have e1:at_.toNat = a:=by omega
  rw [e1]
  rfl
 have e2:(Sl.of l).l = l:=rfl
 rw [e2,e] at h
 have e4:(Sl.of l).nil = false:=rfl
 rw [e4,hl] at h
 exact h
set_option maxHeartbeats 2000000 in
theorem add_ev [MaxL] [TxtC] (l:List UInt8) (hl:l.length = 12) (x y z:Int) {x' y' z':Int} (hm:addT l (x,y,z) = (x',y',z')) (R:Heap) (hR:R = []∨R = [none]) :
  call cx 195 [.optr 0 3 0,.vsl false (ofBytes l) 12] (some [.int .u32 x,.int .u32 y,.int .u32 z] :: R) = some (.tup [],some [.int .u32 x',.int .u32 y',.int .u32 z'] :: R):=by
 have h0:=get12 l hl 0 (by omega) (at_:=0) rfl
 have h4:=get12 l hl 4 (by omega) (at_:=4) rfl
 have h8:=get12 l hl 8 (by omega) (at_:=8) rfl
 have w0:=wordL_lt l 0
 have w4:=wordL_lt l 4
 have w8:=wordL_lt l 8
 unfold addT add32 at hm
 obtain ⟨e1,hm⟩:=Prod.mk.inj hm
 obtain ⟨e2,e3⟩:=Prod.mk.inj hm
 generalize wordL l 0 = a at *
 generalize wordL l 4 = b at *
 generalize wordL l 8 = c at *
 have v0:IntKind.u32.wrap (a:Int) = a:=by rw [wrap_u32] <;> omega
 have v4:IntKind.u32.wrap (b:Int) = b:=by rw [wrap_u32] <;> omega
 have v8:IntKind.u32.wrap (c:Int) = c:=by rw [wrap_u32] <;> omega
 rcases hR with rfl | rfl
 ·refine call_run Tryz.func195 rfl ⟨rfl,rfl⟩ ?_
  simp [Tryz.f195,h0,h4,h8,v0,v4,v8,e1,e2,e3]
 ·refine call_run Tryz.func195 rfl ⟨rfl,rfl⟩ ?_
  simp [Tryz.f195,h0,h4,h8,v0,v4,v8,e1,e2,e3]
theorem leN_zeros:∀ (l:List UInt8) (k:Nat),leN (l ++ List.replicate k 0) = leN l
 | [],0=>rfl
 | [],k+1=>by
  have h:=leN_zeros [] k
  simp only [List.nil_append] at h ⊢
  rw [List.replicate_succ,leN.eq_2]
  rw [h]
  rfl
 | c :: l,k=>by rw [List.cons_append,leN,leN,leN_zeros l k]
theorem wordL_zeros (l:List UInt8) (k a:Nat):wordL (l ++ List.replicate k 0) a = wordL l a:=by
 unfold wordL
 rw [List.drop_append,List.take_append,List.drop_replicate,List.take_replicate,leN_zeros]
theorem addT_zeros (l:List UInt8) (k:Nat) (t:Int × Int × Int):addT (l ++ List.replicate k 0) t = addT l t:=by
 obtain ⟨x,y,z⟩:=t
 simp only [addT,wordL_zeros]
set_option maxHeartbeats 4000000 in
theorem lookup_ev [MaxL] [TxtC] (s:Sl UInt8) (_:s.l.length < 4611686018427387904):call cx 167 [(.vsl s.nil (ofBytes s.l) s.l.length)] [] = some (.int .u64 (lookN s.l),[]):=by
 refine call_run Tryz.func167 rfl ⟨rfl,rfl⟩ ?_
 have hN:lookN s.l = lookR s.l (add32 3735928559 (IntKind.u32.wrap (s.l.length:Nat)),add32 3735928559 (IntKind.u32.wrap (s.l.length:Nat)),add32 3735928559 (IntKind.u32.wrap (s.l.length:Nat))):=rfl
 obtain ⟨n,hn⟩:∃ n,IntKind.u32.wrap (3735928559+IntKind.u32.wrap (s.l.length:Nat)) = n:=⟨_,rfl⟩
 have hn2:add32 3735928559 (IntKind.u32.wrap (s.l.length:Nat)) = n:=hn
 rw [hn2] at hN
 clear hn2
 generalize lookN s.l = res at *
 simp [Tryz.f167,hn]
 refine Run.loopThen (fun (q:List UInt8 × Int × Int × Int) e H'=>q.1.length≤s.l.length∧(s.nil = true→q.1 = [])∧lookR q.1 q.2 = res∧look e 0 = some (.vsl s.nil (ofBytes q.1) q.1.length)∧look e 4 = some (.optr 0 3 0)∧H' = [some [.int .u32 q.2.1,.int .u32 q.2.2.1,.int .u32 q.2.2.2]]) (fun q=>q.1.length) (s.l,n,n,n) ?_ ?_
 ·simp [hN]
  exact s.h
 rintro ⟨l,x,y,z⟩ e H' ⟨hl,hnl,hR,k0,k4,rfl⟩
 simp only at hl hnl hR k0 k4
 by_cases h12:12 < l.length
 ·have h12':(12:Int) < (l.length:Int):=by omega
  have hnn:s.nil = false:=by
   cases hq:s.nil with
   | false=>rfl
   | true=>rw [hnl hq] at h12;simp at h12
  rw [hnn] at k0
  rw [lookR_more h12] at hR
  obtain ⟨⟨x1,y1,z1⟩,ha⟩:∃ t,addT (l.take 12) (x,y,z) = t:=⟨_,rfl⟩
  have hA:=add_ev (l.take 12) (by rw [List.length_take];omega) x y z ha [] (.inl rfl)
  have ha2:addT l (x,y,z) = (x1,y1,z1):=by
   rw [← ha]
   simp only [addT,wordL,List.drop_take,List.take_take]
   rfl
  rw [ha2] at hR
  have hM:=mix_ev x1 y1 z1 [] (.inl rfl)
  have t12:List.take 12 (ofBytes l) = ofBytes (l.take 12):=by simp [ofBytes,List.map_take]
  have d12:List.drop 12 (ofBytes l) = ofBytes (l.drop 12):=by simp [ofBytes,List.map_drop]
  have h12a:(12:Int)≤(l.length:Int):=by omega
  have hdl:(l.drop 12).length = l.length - 12:=List.length_drop
  have htk:List.take (l.length - 12) (ofBytes (l.drop 12)) = ofBytes (l.drop 12):=List.take_of_length_le (by simp)
  generalize l.take 12 = p at *
  generalize l.drop 12 = l' at *
  simp [k0,k4,h12',hA,hM,h12a,t12,d12,htk]
  exact ⟨l',by omega,by omega,by simp [hnn],_,_,_,hR,⟨hnn,rfl,by omega⟩,rfl,rfl,rfl⟩
 ·have h12':¬ (12:Int) < (l.length:Int):=by omega
  by_cases h0:l.length = 0
  ·have h0':¬ (0:Int) < (l.length:Int):=by omega
   rw [lookR_nil h0] at hR
   subst hR
   have hp64:(2:Int) ^ min 32 IntKind.u64.bits = 4294967296:=by decide
   simp [k0,k4,h0,outT,hp64]
  ·have h0':(0:Int) < (l.length:Int):=by omega
   have hnn:s.nil = false:=by
    cases hq:s.nil with
    | false=>rfl
    | true=>rw [hnl hq] at h0;simp at h0
   rw [hnn] at k0
   have hp:(l ++ List.replicate (12 - l.length) 0).length = 12:=by rw [List.length_append,List.length_replicate];omega
   have ha0:=addT_zeros l (12 - l.length) (x,y,z)
   obtain ⟨⟨x1,y1,z1⟩,ha⟩:∃ t,addT l (x,y,z) = t:=⟨_,rfl⟩
   rw [ha] at ha0
   obtain ⟨⟨x2,z2,y2⟩,hf⟩:∃ t,finI (x1,y1,z1) = t:=⟨_,rfl⟩
   rw [lookR_end h12 h0 (x:=x2) (y:=y2) (z:=z2) (by rw [ha];exact hf)] at hR
   subst hR
   have hA:=add_ev _ hp x y z ha0 [none] (.inr rfl)
   have hF:=last_ev x1 y1 z1 hf [none] (.inr rfl)
   have hp64:(2:Int) ^ min 32 IntKind.u64.bits = 4294967296:=by decide
   have h0n:0 < l.length:=by omega
   have hmin:min l.length 12 = l.length:=by omega
   have hset:setRange [D.int .u8 0,D.int .u8 0,D.int .u8 0,D.int .u8 0,D.int .u8 0,D.int .u8 0,D.int .u8 0,D.int .u8 0,D.int .u8 0,D.int .u8 0,D.int .u8 0,D.int .u8 0] 0 (ofBytes l) = ofBytes (l ++ List.replicate (12 - l.length) 0):=by
    show setRange (List.replicate 12 (D.int .u8 0)) 0 (ofBytes l) = _
    unfold setRange
    rw [List.take_zero,Nat.zero_add,ofBytes_len,List.drop_replicate]
    simp [ofBytes]
   have htk:List.take l.length (ofBytes l) = ofBytes l:=List.take_of_length_le (by simp)
   generalize l ++ List.replicate (12 - l.length) 0 = p at *
   simp [-setRange_eq,k0,k4,h12',h0n,hA,hF,outT,hp64,hmin,hset,htk,hp]
end Go.Ev.S
namespace Go.Ev.S
open Go Go.Proofs Go.Ev
end Go.Ev.S
namespace Go.Proofs
open Go.Shelf
def Tryz.lays169_ren:Go.Shelf.Ren:=⟨fun | 169=>103 | n=>n,fun | 70=>150 | 9=>9 | 0=>0 | 72=>152 | 37=>34 | 127=>190 | 3=>3 | 5=>5 | n=>n,fun | n=>n⟩
theorem Tryz.lays169:Go.Proofs.Lays.n169 Tryz.prog Tryz.lays169_ren:={
 mixed:=by kernel_rfl
 f169:=Tryz.func103.trans (congrArg some (by kernel_rfl))
 t0:=Tryz.underlying0
 a0:=Tryz.isAgg0
 z0:=Tryz.sizeOf0
 v0:=Tryz.zeroValue0
 t3:=Tryz.underlying3
 a3:=Tryz.isAgg3
 z3:=Tryz.sizeOf3
 v3:=Tryz.zeroValue3
 t9:=Tryz.underlying9
 a9:=Tryz.isAgg9
 z9:=Tryz.sizeOf9
 v9:=Tryz.zeroValue9
 t37:=Tryz.underlying34
 a37:=Tryz.isAgg34
 z37:=Tryz.sizeOf34
 v37:=Tryz.zeroValue34
 t70:=Tryz.underlying150
 a70:=Tryz.isAgg150
 z70:=Tryz.sizeOf150
 v70:=Tryz.zeroValue150
 t72:=Tryz.underlying152
 a72:=Tryz.isAgg152
 z72:=Tryz.sizeOf152
 v72:=Tryz.zeroValue152
 t127:=Tryz.underlying190
 a127:=Tryz.isAgg190
 z127:=Tryz.sizeOf190
 v127:=Tryz.zeroValue190 }
theorem Tryz.Builder_Extra_169:Builder.Extra Tryz.prog Tryz.lays169_ren:={
 sizeBuilder:=by kernel_rfl
 liesBuilder:=by kernel_rfl
 t5:=Tryz.underlying5
 a5:=Tryz.isAgg5
 z5:=Tryz.sizeOf5
 v5:=Tryz.zeroValue5
 infoByte:=by kernel_rfl
 cellsByte:=by kernel_rfl
 sizeByte:=by kernel_rfl
 neB5:=by decide }
def Tryz.lays129_ren:Go.Shelf.Ren:=⟨fun | 129=>210 | n=>n,fun | 53=>27 | 3=>3 | 4=>4 | 46=>165 | 5=>5 | 9=>9 | n=>n,fun | n=>n⟩
theorem Tryz.lays129:Go.Proofs.Lays.n129 Tryz.prog Tryz.lays129_ren:={
 mixed:=by kernel_rfl
 f129:=Tryz.func210.trans (congrArg some (by kernel_rfl))
 t3:=Tryz.underlying3
 a3:=Tryz.isAgg3
 z3:=Tryz.sizeOf3
 v3:=Tryz.zeroValue3
 t4:=Tryz.underlying4
 a4:=Tryz.isAgg4
 z4:=Tryz.sizeOf4
 v4:=Tryz.zeroValue4
 t5:=Tryz.underlying5
 a5:=Tryz.isAgg5
 z5:=Tryz.sizeOf5
 v5:=Tryz.zeroValue5
 t9:=Tryz.underlying9
 a9:=Tryz.isAgg9
 z9:=Tryz.sizeOf9
 v9:=Tryz.zeroValue9
 t46:=Tryz.underlying165
 a46:=Tryz.isAgg165
 z46:=Tryz.sizeOf165
 v46:=Tryz.zeroValue165
 t53:=Tryz.underlying27
 a53:=Tryz.isAgg27
 z53:=Tryz.sizeOf27
 v53:=Tryz.zeroValue27 }
def Tryz.lays283_ren:Go.Shelf.Ren:=⟨fun | 283=>189 | n=>n,fun | 3=>3 | 9=>9 | 4=>4 | n=>n,fun | n=>n⟩
theorem Tryz.lays283:Go.Proofs.Lays.n283 Tryz.prog Tryz.lays283_ren:={
 mixed:=by kernel_rfl
 f283:=Tryz.func189.trans (congrArg some (by kernel_rfl))
 t3:=Tryz.underlying3
 a3:=Tryz.isAgg3
 z3:=Tryz.sizeOf3
 v3:=Tryz.zeroValue3
 t4:=Tryz.underlying4
 a4:=Tryz.isAgg4
 z4:=Tryz.sizeOf4
 v4:=Tryz.zeroValue4
 t9:=Tryz.underlying9
 a9:=Tryz.isAgg9
 z9:=Tryz.sizeOf9
 v9:=Tryz.zeroValue9 }
def Tryz.laysM316_ren:Go.Shelf.Ren:=⟨fun | 316=>215 | n=>n,fun | 9=>9 | 3=>3 | 4=>4 | 37=>34 | 0=>0 | 127=>190 | 5=>5 | n=>n,fun | n=>n⟩
theorem Tryz.laysM316:Go.Proofs.LaysM.n316 Tryz.prog Tryz.laysM316_ren:={
 mixed:=by kernel_rfl
 f316:=Tryz.func215.trans (congrArg some (by kernel_rfl))
 t0:=Tryz.underlying0
 a0:=Tryz.isAgg0
 z0:=Tryz.sizeOf0
 v0:=Tryz.zeroValue0
 t3:=Tryz.underlying3
 a3:=Tryz.isAgg3
 z3:=Tryz.sizeOf3
 v3:=Tryz.zeroValue3
 t4:=Tryz.underlying4
 a4:=Tryz.isAgg4
 z4:=Tryz.sizeOf4
 v4:=Tryz.zeroValue4
 t9:=Tryz.underlying9
 a9:=Tryz.isAgg9
 z9:=Tryz.sizeOf9
 v9:=Tryz.zeroValue9
 t37:=Tryz.underlying34
 a37:=Tryz.isAgg34
 z37:=Tryz.sizeOf34
 v37:=Tryz.zeroValue34
 t127:=Tryz.underlying190
 a127:=Tryz.isAgg190
 z127:=Tryz.sizeOf190
 v127:=Tryz.zeroValue190
 t5:=Tryz.underlying5
 a5:=Tryz.isAgg5
 z5:=Tryz.sizeOf5
 v5:=Tryz.zeroValue5
 i0:=by kernel_rfl
 i3:=by kernel_rfl
 i4:=by kernel_rfl
 i5:=by kernel_rfl
 i9:=by kernel_rfl
 i37:=by kernel_rfl
 i127:=by kernel_rfl }
def Tryz.lays219_ren:Go.Shelf.Ren:=⟨fun | 219=>182 | 217=>212 | 225=>213 | 224=>124 | 267=>214 | 266=>226 | 314=>237 | n=>n,fun | 9=>9 | 3=>3 | 4=>4 | 5=>5 | 46=>165 | 146=>199 | 51=>142 | n=>n,fun | 1=>0 | n=>n⟩
theorem Tryz.lays219:Go.Proofs.Lays.n219 Tryz.prog Tryz.lays219_ren:={
 mixed:=by kernel_rfl
 f217:=Tryz.func212.trans (congrArg some (by kernel_rfl))
 f219:=Tryz.func182.trans (congrArg some (by kernel_rfl))
 f224:=Tryz.func124.trans (congrArg some (by kernel_rfl))
 f225:=Tryz.func213.trans (congrArg some (by kernel_rfl))
 f266:=Tryz.func226.trans (congrArg some (by kernel_rfl))
 f267:=Tryz.func214.trans (congrArg some (by kernel_rfl))
 f314:=Tryz.func237.trans (congrArg some (by kernel_rfl))
 t3:=Tryz.underlying3
 a3:=Tryz.isAgg3
 z3:=Tryz.sizeOf3
 v3:=Tryz.zeroValue3
 t4:=Tryz.underlying4
 a4:=Tryz.isAgg4
 z4:=Tryz.sizeOf4
 v4:=Tryz.zeroValue4
 t5:=Tryz.underlying5
 a5:=Tryz.isAgg5
 z5:=Tryz.sizeOf5
 v5:=Tryz.zeroValue5
 t9:=Tryz.underlying9
 a9:=Tryz.isAgg9
 z9:=Tryz.sizeOf9
 v9:=Tryz.zeroValue9
 t46:=Tryz.underlying165
 a46:=Tryz.isAgg165
 z46:=Tryz.sizeOf165
 v46:=Tryz.zeroValue165
 t51:=Tryz.underlying142
 a51:=Tryz.isAgg142
 z51:=Tryz.sizeOf142
 v51:=Tryz.zeroValue142
 t146:=Tryz.underlying199
 a146:=Tryz.isAgg199
 z146:=Tryz.sizeOf199
 v146:=Tryz.zeroValue199
 g1:=by kernel_rfl }
def Tryz.lays185_ren:Go.Shelf.Ren:=⟨fun | 185=>83 | 187=>121 | 115=>122 | 253=>123 | 224=>124 | 254=>125 | 255=>153 | 291=>154 | n=>n,fun | 37=>34 | 3=>3 | 4=>4 | 0=>0 | 5=>5 | 46=>165 | 9=>9 | 146=>199 | 51=>142 | n=>n,fun | 1=>0 | n=>n⟩
theorem Tryz.lays185:Go.Proofs.Lays.n185 Tryz.prog Tryz.lays185_ren:={
 mixed:=by kernel_rfl
 f115:=Tryz.func122.trans (congrArg some (by kernel_rfl))
 f185:=Tryz.func83.trans (congrArg some (by kernel_rfl))
 f187:=Tryz.func121.trans (congrArg some (by kernel_rfl))
 f224:=Tryz.func124.trans (congrArg some (by kernel_rfl))
 f253:=Tryz.func123.trans (congrArg some (by kernel_rfl))
 f254:=Tryz.func125.trans (congrArg some (by kernel_rfl))
 f255:=Tryz.func153.trans (congrArg some (by kernel_rfl))
 f291:=Tryz.func154.trans (congrArg some (by kernel_rfl))
 t0:=Tryz.underlying0
 a0:=Tryz.isAgg0
 z0:=Tryz.sizeOf0
 v0:=Tryz.zeroValue0
 t3:=Tryz.underlying3
 a3:=Tryz.isAgg3
 z3:=Tryz.sizeOf3
 v3:=Tryz.zeroValue3
 t4:=Tryz.underlying4
 a4:=Tryz.isAgg4
 z4:=Tryz.sizeOf4
 v4:=Tryz.zeroValue4
 t5:=Tryz.underlying5
 a5:=Tryz.isAgg5
 z5:=Tryz.sizeOf5
 v5:=Tryz.zeroValue5
 t9:=Tryz.underlying9
 a9:=Tryz.isAgg9
 z9:=Tryz.sizeOf9
 v9:=Tryz.zeroValue9
 t37:=Tryz.underlying34
 a37:=Tryz.isAgg34
 z37:=Tryz.sizeOf34
 v37:=Tryz.zeroValue34
 t46:=Tryz.underlying165
 a46:=Tryz.isAgg165
 z46:=Tryz.sizeOf165
 v46:=Tryz.zeroValue165
 t51:=Tryz.underlying142
 a51:=Tryz.isAgg142
 z51:=Tryz.sizeOf142
 v51:=Tryz.zeroValue142
 t146:=Tryz.underlying199
 a146:=Tryz.isAgg199
 z146:=Tryz.sizeOf199
 v146:=Tryz.zeroValue199
 g1:=by kernel_rfl }
def Tryz.laysM185_ren:Go.Shelf.Ren:=⟨fun | 185=>83 | 187=>121 | 115=>122 | 253=>123 | 224=>124 | 254=>125 | 255=>153 | 291=>154 | n=>n,fun | 37=>34 | 3=>3 | 4=>4 | 0=>0 | 5=>5 | 46=>165 | 9=>9 | 146=>199 | 51=>142 | n=>n,fun | 1=>0 | n=>n⟩
theorem Tryz.laysM185:Go.Proofs.LaysM.n185 Tryz.prog Tryz.laysM185_ren:={
 mixed:=by kernel_rfl
 f115:=Tryz.func122.trans (congrArg some (by kernel_rfl))
 f185:=Tryz.func83.trans (congrArg some (by kernel_rfl))
 f187:=Tryz.func121.trans (congrArg some (by kernel_rfl))
 f224:=Tryz.func124.trans (congrArg some (by kernel_rfl))
 f253:=Tryz.func123.trans (congrArg some (by kernel_rfl))
 f254:=Tryz.func125.trans (congrArg some (by kernel_rfl))
 f255:=Tryz.func153.trans (congrArg some (by kernel_rfl))
 f291:=Tryz.func154.trans (congrArg some (by kernel_rfl))
 t0:=Tryz.underlying0
 a0:=Tryz.isAgg0
 z0:=Tryz.sizeOf0
 v0:=Tryz.zeroValue0
 t3:=Tryz.underlying3
 a3:=Tryz.isAgg3
 z3:=Tryz.sizeOf3
 v3:=Tryz.zeroValue3
 t4:=Tryz.underlying4
 a4:=Tryz.isAgg4
 z4:=Tryz.sizeOf4
 v4:=Tryz.zeroValue4
 t5:=Tryz.underlying5
 a5:=Tryz.isAgg5
 z5:=Tryz.sizeOf5
 v5:=Tryz.zeroValue5
 t9:=Tryz.underlying9
 a9:=Tryz.isAgg9
 z9:=Tryz.sizeOf9
 v9:=Tryz.zeroValue9
 t37:=Tryz.underlying34
 a37:=Tryz.isAgg34
 z37:=Tryz.sizeOf34
 v37:=Tryz.zeroValue34
 t46:=Tryz.underlying165
 a46:=Tryz.isAgg165
 z46:=Tryz.sizeOf165
 v46:=Tryz.zeroValue165
 t51:=Tryz.underlying142
 a51:=Tryz.isAgg142
 z51:=Tryz.sizeOf142
 v51:=Tryz.zeroValue142
 t146:=Tryz.underlying199
 a146:=Tryz.isAgg199
 z146:=Tryz.sizeOf199
 v146:=Tryz.zeroValue199
 g1:=by kernel_rfl
 i0:=by kernel_rfl
 i3:=by kernel_rfl
 i4:=by kernel_rfl
 i5:=by kernel_rfl
 i9:=by kernel_rfl
 i37:=by kernel_rfl
 i46:=by kernel_rfl
 i51:=by kernel_rfl
 i146:=by kernel_rfl
 m1:=by kernel_rfl
 s1_3:=fun w h=>Go.Proofs.cell_of_shapedOpen_int (zero:= #[.int .i64 0]) (t:=3) h (of_decide_eq_true (by kernel_rfl)) (by kernel_rfl) rfl (by kernel_rfl) (by kernel_rfl) Tryz.underlying3 }
end Go.Proofs
namespace Go.Proofs
open Go.Shelf
def Tryz.layD_ren:Go.Shelf.Ren:=⟨fun | 32=>231 | 49=>243 | n=>n,fun | 0=>0 | 3=>3 | 4=>4 | 5=>5 | 21=>21 | 25=>165 | 30=>34 | 33=>273 | 66=>293 | 68=>295 | 69=>296 | n=>n,fun | 2=>6 | 3=>7 | n=>n⟩
set_option maxRecDepth 100000 in
theorem Tryz.layD:Lays7.n32 Tryz.prog Tryz.layD_ren:={
 mixed:=by kernel_rfl
 f32:=Tryz.func231.trans (congrArg some (by kernel_rfl))
 f49:=Tryz.func243.trans (congrArg some (by kernel_rfl))
 t0:=Tryz.underlying0
 a0:=Tryz.isAgg0
 z0:=Tryz.sizeOf0
 v0:=Tryz.zeroValue0
 i0:=by kernel_rfl
 t3:=Tryz.underlying3
 a3:=Tryz.isAgg3
 z3:=Tryz.sizeOf3
 v3:=Tryz.zeroValue3
 i3:=by kernel_rfl
 t4:=Tryz.underlying4
 a4:=Tryz.isAgg4
 z4:=Tryz.sizeOf4
 v4:=Tryz.zeroValue4
 i4:=by kernel_rfl
 t5:=Tryz.underlying5
 a5:=Tryz.isAgg5
 z5:=Tryz.sizeOf5
 v5:=Tryz.zeroValue5
 i5:=by kernel_rfl
 t21:=Tryz.underlying21
 a21:=Tryz.isAgg21
 z21:=Tryz.sizeOf21
 v21:=Tryz.zeroValue21
 i21:=by kernel_rfl
 t25:=Tryz.underlying165
 a25:=Tryz.isAgg165
 z25:=Tryz.sizeOf165
 v25:=Tryz.zeroValue165
 i25:=by kernel_rfl
 t30:=Tryz.underlying34
 a30:=Tryz.isAgg34
 z30:=Tryz.sizeOf34
 v30:=Tryz.zeroValue34
 i30:=by kernel_rfl
 t33:=Tryz.underlying273
 a33:=Tryz.isAgg273
 z33:=Tryz.sizeOf273
 v33:=Tryz.zeroValue273
 i33:=by kernel_rfl
 t66:=Tryz.underlying293
 a66:=Tryz.isAgg293
 z66:=Tryz.sizeOf293
 t68:=Tryz.underlying295
 a68:=Tryz.isAgg295
 z68:=Tryz.sizeOf295
 v68:=Tryz.zeroValue295
 i68:=by kernel_rfl
 t69:=Tryz.underlying296
 a69:=Tryz.isAgg296
 z69:=Tryz.sizeOf296
 v69:=Tryz.zeroValue296
 i69:=by kernel_rfl
 g2:=by kernel_rfl
 g3:=by kernel_rfl }
end Go.Proofs
namespace Go.Ev.S
open Go Go.Proofs Go.Ev
theorem ok_0 [MaxL] [TxtC]:okRange cx 0 40 = true:=by kernel_rfl
theorem ok_40 [MaxL] [TxtC]:okRange cx 40 40 = true:=by kernel_rfl
theorem ok_80 [MaxL] [TxtC]:okRange cx 80 40 = true:=by kernel_rfl
theorem ok_120 [MaxL] [TxtC]:okRange cx 120 40 = true:=by kernel_rfl
theorem ok_160 [MaxL] [TxtC]:okRange cx 160 40 = true:=by kernel_rfl
theorem ok_200 [MaxL] [TxtC]:okRange cx 200 40 = true:=by kernel_rfl
theorem ok_240 [MaxL] [TxtC]:okRange cx 240 37 = true:=by kernel_rfl
theorem fsize:Tryz.prog.funcs.size = 277:=by kernel_rfl
theorem all_ok [MaxL] [TxtC] (f:Nat) (h:f < 277):okOne cx f = true:=by
 rcases Nat.lt_or_ge f 40 with h0 | h0
 ·exact okRange_get ok_0 (by omega) (by omega)
 rcases Nat.lt_or_ge f 80 with h1 | h1
 ·exact okRange_get ok_40 (by omega) (by omega)
 rcases Nat.lt_or_ge f 120 with h2 | h2
 ·exact okRange_get ok_80 (by omega) (by omega)
 rcases Nat.lt_or_ge f 160 with h3 | h3
 ·exact okRange_get ok_120 (by omega) (by omega)
 rcases Nat.lt_or_ge f 200 with h4 | h4
 ·exact okRange_get ok_160 (by omega) (by omega)
 rcases Nat.lt_or_ge f 240 with h5 | h5
 ·exact okRange_get ok_200 (by omega) (by omega)
 exact okRange_get ok_240 (by omega) (by omega)
set_option maxHeartbeats 4000000 in
set_option maxRecDepth 100000 in
theorem good [MaxL] [TxtC] (hT:TxtRun):Good cx where
 mixed:=by kernel_rfl
 okc f fn c hf hc hb:=(okOne_get (all_ok f (by rw [← fsize];exact (Array.getElem?_eq_some_iff.1 hf).1)) hf).2 c hc hb
 ng f fn hf:=(okOne_get (all_ok f (by rw [← fsize];exact (Array.getElem?_eq_some_iff.1 hf).1)) hf).1
 ext f fn args d hf hn h ok w ι H vs hs hv:=by
  by_cases h105:f = 105
  ·subst h105
   rw [ex105] at h
   have hff:=Tryz.func105
   rw [show cx.P.funcs[105]? = Tryz.prog.funcs[105]? from rfl,hff] at hf
   injection hf with hf
   subst hf
   exact cmpExt_run (P:=cx.P) hff rfl (by kernel_rfl) (by kernel_rfl) (by kernel_rfl) h hv
  by_cases h226:f = 226
  ·subst h226
   rw [ex226] at h
   have hff:=Tryz.func226
   rw [show cx.P.funcs[226]? = Tryz.prog.funcs[226]? from rfl,hff] at hf
   injection hf with hf
   subst hf
   exact idxBExt_run (P:=cx.P) hff rfl (by kernel_rfl) (by kernel_rfl) (by kernel_rfl) h hv
  ·have:cx.ext f args = none:=by
    show extT f args = none
    unfold extT
    split
    ·exact absurd rfl h105
    ·exact absurd rfl h226
    ·rfl
   rw [this] at h
   cases h
 con f args H r H' h ok w ι vs hs hv:=by
  by_cases h182:f = 182
  ·subst h182
   rw [co182] at h
   exact conIdx_run (X:=cx) (m:=MaxL.m) Tryz.lays219 rfl h hs hv
  by_cases h83:f = 83
  ·subst h83
   rw [co83] at h
   exact conBIdx_run (X:=cx) (m:=MaxL.m) Tryz.lays185 rfl h hs hv
  by_cases h215:f = 215
  ·subst h215
   rw [co215] at h
   exact conClone_run (X:=cx) Tryz.laysM316 h hs hv
  by_cases h210:f = 210
  ·subst h210
   rw [co210] at h
   exact conLen64_run (X:=cx) Tryz.lays129 h hs hv
  by_cases h189:f = 189
  ·subst h189
   rw [co189] at h
   exact conSmall_run (X:=cx) Tryz.lays283 h hs hv
  by_cases h64:f = 64
  ·subst h64
   rw [co64] at h
   exact hT (f:=64) h hs hv
  by_cases h200:f = 200
  ·subst h200
   rw [co200] at h
   exact hT (f:=200) h hs hv
  by_cases h231:f = 231
  ·subst h231
   rw [co231] at h
   exact conDec_run (X:=cx) Tryz.layD rfl rfl h hs hv
  by_cases h213:f = 213
  ·subst h213
   rw [co213] at h
   exact conIS_run (m:=MaxL.m) (g:=0) Tryz.func213 rfl (by kernel_rfl) (by kernel_rfl) (by kernel_rfl) (by kernel_rfl) rfl h hs hv
  ·have:cx.con f args H = none:=by
    show conT f args H = none
    unfold conT
    split
    ·exact absurd rfl h182
    ·exact absurd rfl h83
    ·exact absurd rfl h215
    ·exact absurd rfl h210
    ·exact absurd rfl h189
    ·exact absurd rfl h64
    ·exact absurd rfl h200
    ·exact absurd rfl h231
    ·exact absurd rfl h213
    ·rfl
   rw [this] at h
   cases h
end Go.Ev.S
namespace Go.Ev.S
open Go Go.Proofs Go.Ev
theorem globs [MaxL] [TxtC] {W:World} (h:laidMet Tryz.prog YtkfojmihnjnhfaaGreatDoor.Rows.recvPlaysRow.laid W) (hm0:W.cell? ⟨0,0,none⟩ = some (.int .i64 MaxL.m)):∀ g cs,cx.glob g = some cs→Rep (· < W.heap.size) W iota0 [] (.vptr cs) (.pointer (some ⟨g,0,none⟩)):=by
 unfold YtkfojmihnjnhfaaGreatDoor.Rows.recvPlaysRow at h
 have hu8:Lib.Utf8Tabs 6 7 W:=by
  obtain ⟨ps0,hl0,_⟩:=h
  have x3:=Lib.LaidVars_reads hl0 _ _ (List.mem_of_getElem? (i:=6) rfl)
  have x4:=Lib.LaidVars_reads hl0 _ _ (List.mem_of_getElem? (i:=3) rfl)
  have e3:YtkfojmihnjnhfaaGreatDoor.Rows.laid_unicode_utf8_first = Lib.firstData:=by kernel_rfl
  have e4:YtkfojmihnjnhfaaGreatDoor.Rows.laid_unicode_utf8_acceptRanges = Lib.acceptData:=by kernel_rfl
  rw [e3] at x3
  rw [e4] at x4
  exact utf8Tabs_of_readsT (ρ:=(⟨fun n=>n,fun | 5=>5 | 119=>293 | 138=>295 | 139=>296 | n=>n,fun | 3=>6 | 4=>7 | n=>n⟩:Go.Shelf.Ren)) ⟨Tryz.underlying5,Tryz.underlying293,Tryz.underlying295,Tryz.underlying296⟩ ⟨by kernel_rfl,by kernel_rfl,by kernel_rfl,by kernel_rfl,by kernel_rfl,by kernel_rfl,by kernel_rfl⟩ x3 x4
 have tu8:=rep_u8 hu8
 have t4:=rep_tab (g:=4) (zs:=gz4) (Lib.tabIs_of_head (g:=4) (t:=291) (e:=5) (n:=32) (k:=.u8) (by kernel_rfl) (by kernel_rfl) (by kernel_rfl) (by kernel_rfl) (by kernel_rfl) (by kernel_rfl) h) (by kernel_rfl)
 replace h:=h.tail
 have t5:=rep_tab (g:=5) (zs:=gz5) (Lib.tabIs_of_head (g:=5) (t:=292) (e:=5) (n:=64) (k:=.u8) (by kernel_rfl) (by kernel_rfl) (by kernel_rfl) (by kernel_rfl) (by kernel_rfl) (by kernel_rfl) h) (by kernel_rfl)
 replace h:=h.tail
 have t3:=rep_tab (g:=3) (zs:=gz3) (Lib.tabIs_of_head (g:=3) (t:=261) (e:=27) (n:=20) (k:=.u64) (by kernel_rfl) (by kernel_rfl) (by kernel_rfl) (by kernel_rfl) (by kernel_rfl) (by kernel_rfl) h) (by kernel_rfl)
 replace h:=h.tail
 replace h:=h.tail
 have t2 := rep_err (g := 2) (text := gs2) (by kernel_rfl) (laid_sentinel (g := 2) (ti := 158) (tp := 281) (te := 283) (ts := 9) h (by kernel_rfl) (by kernel_rfl) Tryz.underlying158 (err_row (base := "errors.errorString") (by decide) (by kernel_rfl) (by kernel_rfl) (by decide)) Tryz.underlying281 Tryz.underlying283 rfl rfl (by kernel_rfl) (by kernel_rfl) (by kernel_rfl))
 replace h:=h.tail
 have t1 := rep_err (g := 1) (text := gs1) (by kernel_rfl) (laid_sentinel (g := 1) (ti := 158) (tp := 281) (te := 283) (ts := 9) h (by kernel_rfl) (by kernel_rfl) Tryz.underlying158 (err_row (base := "errors.errorString") (by decide) (by kernel_rfl) (by kernel_rfl) (by decide)) Tryz.underlying281 Tryz.underlying283 rfl rfl (by kernel_rfl) (by kernel_rfl) (by kernel_rfl))
 replace h:=h.tail
 intro g cs hg
 have hgl:globT g = some cs:=hg
 unfold globT at hgl
 split at hgl
 ·cases hgl;exact t1
 ·cases hgl;exact t2
 ·cases hgl;exact t3
 ·cases hgl;exact t4
 ·cases hgl;exact t5
 ·cases hgl;exact rep_one hm0
 ·cases hgl;exact tu8.1
 ·cases hgl;exact tu8.2
 ·cases hgl
end Go.Ev.S
namespace Go.Ev.S
open Go Go.Proofs Go.Ev
theorem hexs_take {l:List UInt8} {k:Nat} (h:k < l.length):hexs (l.take (k+1)) = hexs (l.take k) ++ [hexc (l[k].toNat / 16),hexc (l[k].toNat % 16)]:=by
 rw [List.take_succ_eq_append_getElem h,hexs_append]
 rfl
set_option maxHeartbeats 2000000 in
theorem hex_ev [MaxL] [TxtC] (l:List UInt8) (hl:l.length = 16):call cx 98 [.agg (ofBytes l)] [] = some (.str (hexs l),[]):=by
 refine call_run Tryz.func98 rfl ⟨rfl,rfl⟩ ?_
 have ht:List.take 16 (ofBytes l) = ofBytes l:=List.take_of_length_le (by simp;omega)
 have hl2:16≤l.length:=by omega
 simp [Tryz.f98,ht,hl2]
 refine Run.loopThen (fun (k:Nat) e H'=>k≤16∧look e 6 = some (.agg (ofBytes l))∧look e 7 = some (.int .i64 k) ∧
   ((k = 0∧look e 3 = some (.vsl true [] 0)∧H' = [some (ofBytes l)]) ∨
   (∃ w,look e 3 = some (.osl 1 (hexs (l.take k)).length 0 (hexs (l.take k)).length 1)∧H' = [w,some (ofBytes (hexs (l.take k)))]) ∨
   (∃ w,look e 3 = some (.osl 0 (hexs (l.take k)).length 0 (hexs (l.take k)).length 1)∧H' = [some (ofBytes (hexs (l.take k))),w]))) (fun k=>16 - k) 0 ?_ ?_
 ·simp
 rintro k e H' ⟨hk,k6,k7,hH⟩
 by_cases hlt:k < 16
 ·have hlt':(k:Int) < 16:=by omega
  have hkl:k < l.length:=by omega
  have hw:IntKind.i64.wrap ((k:Int)+1) = ((k+1:Nat):Int):=by rw [wrap_i64] <;> omega
  have hat:=ofBytes_at hkl
  have hsn:=hexs_take hkl
  have hb:=l[k].toNat_lt
  have ha:=and15_u8 l[k]
  have hp4:(2:Int) ^ min 4 IntKind.u8.bits = 16:=by decide
  have hf:=fdiv16 l[k].toNat
  have d1:=digL_at (l[k].toNat / 16) (by omega)
  have d2:=digL_at (l[k].toNat % 16) (by omega)
  simp only [digL] at d1 d2
  have hget:(ofBytes l)[k]? = some (.int .u8 l[k].toNat):=by
   rw [List.getElem?_eq_getElem (by simpa using hkl),ofBytes_get]
  have hlen:(hexs (l.take k)).length = 2 * k:=by rw [hexs_len,List.length_take];omega
  generalize l[k] = b at *
  generalize hexc (b.toNat / 16) = c1 at *
  generalize hexc (b.toNat % 16) = c2 at *
  obtain ⟨m1,hm1⟩:∃ m,m = b.toNat / 16:=⟨_,rfl⟩
  obtain ⟨m2,hm2⟩:∃ m,m = b.toNat % 16:=⟨_,rfl⟩
  rw [← hm1] at hf d1
  rw [← hm2] at ha d2
  have hXl:(hexs (l.take (k+1))).length = (hexs (l.take k)).length+2:=by rw [hsn];simp
  have hap:ofBytes (hexs (l.take k)) ++ [.int .u8 c1.toNat,.int .u8 c2.toNat] = ofBytes (hexs (l.take (k+1))):=by rw [hsn];simp [ofBytes]
  have hmx:(hexs (l.take k)).length+2≤maxBytes:=Nat.le_trans (show _≤100 by omega) (by decide)
  rcases hH with ⟨rfl,k3,rfl⟩ | ⟨w,k3,rfl⟩ | ⟨w,k3,rfl⟩
  ·simp at hap hXl
   have hm2:2≤maxBytes:=by decide
   simp [k3,k6,k7,hget,ha,hp4,hf,d1,d2,hm2]
   exact ⟨1,by omega,by omega,by simp,by rw [hXl];simp [hexs],by rw [← hap];simp [hexs,ofBytes]⟩
  ·generalize hexs (l.take k) = X at *
   simp [k3,k6,k7,hlt',hw,hget,ha,hp4,hf,d1,d2,hap,hmx]
   exact ⟨k+1,by omega,by omega,by simp,by rw [hXl],rfl⟩
  ·generalize hexs (l.take k) = X at *
   simp [k3,k6,k7,hlt',hw,hget,ha,hp4,hf,d1,d2,hap,hmx]
   exact ⟨k+1,by omega,by omega,by simp,by rw [hXl],rfl⟩
 ·have hlt':¬ (k:Int) < 16:=by omega
  have hke:k = 16:=by omega
  subst hke
  have htk:l.take 16 = l:=List.take_of_length_le (by omega)
  rw [htk] at hH
  rcases hH with ⟨h,_⟩ | ⟨w,k3,rfl⟩ | ⟨w,k3,rfl⟩
  ·omega
  ·simp [k3,k6,k7]
  ·simp [k3,k6,k7]
end Go.Ev.S
namespace Go.Ev.S
open Go Go.Proofs Go.Ev
theorem idx_cases (sep:List UInt8):∀ (s:List UInt8) (n:Nat),(∃ i:Nat,idxN sep s n = ((n+i:Nat):Int)∧i+sep.length≤s.length∧sep.isPrefixOf (s.drop i) = true)∨idxN sep s n = -1
 | [],n=>by
  unfold idxN
  cases sep with
  | nil=>exact .inl ⟨0,by simp⟩
  | cons a l=>exact .inr (by simp)
 | b :: l,n=>by
  unfold idxN
  by_cases h:sep.isPrefixOf (b :: l) = true
  ·rw [if_pos h]
   refine .inl ⟨0,by simp,?_,by simpa using h⟩
   have:=List.IsPrefix.length_le (List.isPrefixOf_iff_prefix.1 h)
   simpa using this
  ·rw [if_neg h]
   rcases idx_cases sep l (n+1) with ⟨i,h1,h2,h3⟩ | h1
   ·exact .inl ⟨i+1,by rw [h1];omega,by simp;omega,by simpa using h3⟩
   ·exact .inr h1
theorem index_ev [MaxL] [TxtC] (s sep:List UInt8) (hs:s.length < 4294967281):call cx 182 [.str s,.str sep] [] = some (.int .i64 (idxN sep s 0),[]):=by
 refine call_con ?_
 rw [co182,conIdx,if_pos hs]
end Go.Ev.S
namespace Go.Ev.S
open Go Go.Proofs Go.Ev
theorem idxb_ev [MaxL] [TxtC] (s:List UInt8) (c:UInt8):call cx 225 [.str s,.int .u8 c.toNat] [] = some (.int .i64 (idxB c s 0),[]):=by
 have h0:call cx 226 [.str s,.int .u8 c.toNat] [] = some (.int .i64 (idxB c s 0),[]):=by
  rw [call_ext (X:=cx) (f:=226) rfl Tryz.func226 rfl,ex226]
  simp [idxBExt]
 have h1:call cx 212 [.str s,.int .u8 c.toNat] [] = some (.int .i64 (idxB c s 0),[]):=by
  refine call_run Tryz.func212 rfl ⟨rfl,rfl⟩ ?_
  simp [Tryz.f212,h0]
 refine call_run Tryz.func225 rfl ⟨rfl,rfl⟩ ?_
 simp [Tryz.f225,h1]
theorem zero16_of:ofBytes zero16 = [.int .u8 0,.int .u8 0,.int .u8 0,.int .u8 0,.int .u8 0,.int .u8 0,.int .u8 0,.int .u8 0,.int .u8 0,.int .u8 0,.int .u8 0,.int .u8 0,.int .u8 0,.int .u8 0,.int .u8 0,.int .u8 0]:=rfl
theorem set_bytesC (st:List UInt8) (j:Nat) (c:UInt8) (h:j < st.length):setRange (ofBytes st) j [.int .u8 c.toNat] = ofBytes (st.set j c):=by
 unfold setRange ofBytes
 rw [List.set_eq_take_append_cons_drop,if_pos h]
 simp
set_option maxHeartbeats 2000000 in
theorem id_ev [MaxL] [TxtC] (s:List UInt8) (_:s.length < 1000000):call cx 199 [.str s] [] = some (.tup [.agg (ofBytes ((idP s).getD zero16)),.bool (idP s).isSome],[]):=by
 refine call_run Tryz.func199 rfl ⟨rfl,rfl⟩ ?_
 have z16:=zero16_of
 have z16l:zero16.length = 16:=rfl
 have z16d:List.drop 16 (ofBytes zero16) = []:=rfl
 by_cases h32:s.length = 32
 ·have h32':(s.length:Int) = 32:=by omega
  have hP:idP s = idGo s 0 zero16:=by unfold idP;rw [if_pos h32]
  rw [hP]
  simp [Tryz.f199,h32']
  rw [← z16]
  refine Run.loopThen (fun (q:Nat × List UInt8) e H'=>q.1≤32∧q.2.length = 16∧idGo (s.drop q.1) q.1 q.2 = idGo s 0 zero16∧H' = [some (ofBytes zero16),some (ofBytes q.2)]∧look e 0 = some (.str s)∧look e 2 = some (.optr 0 16 0)∧look e 4 = some (.optr 1 16 0) ∧
    look e 12 = some (.int .i64 32)∧look e 13 = some (.int .i64 (q.1:Nat))) (fun q=>32 - q.1) (0,zero16) ?_ ?_
  ·simp [zero16]
  rintro ⟨k,st⟩ e H' ⟨hk,hst,hgo,rfl,k0,k2,k4,k12,k13⟩
  simp only at hk hst hgo k13
  by_cases hlt:k < 32
  ·have hlt':(k:Int) < 32:=by omega
   have hks:k < s.length:=by omega
   rw [List.drop_eq_getElem_cons hks,idGo] at hgo
   have hsk:s[k]? = some s[k]:=List.getElem?_eq_getElem hks
   have hix:=idxb_ev digL s[k]
   have hir:=idx_range s[k] digL 0
   generalize s[k] = c at *
   simp only [digL] at hix
   have hw:IntKind.i64.wrap ((k:Int)+1) = ((k+1:Nat):Int):=by rw [wrap_i64] <;> omega
   rcases hir with hn | ⟨m,hm1,hm2⟩
   ·rw [hn,if_pos (by omega)] at hgo
    simp only [digL] at hn
    rw [hn] at hix
    rw [← hgo]
    simp [k0,k2,k4,k12,k13,hlt',hsk,hix,← z16,z16l,z16d]
   ·rw [Nat.zero_add] at hm2
    have hm16:m < 16:=hm1
    rw [hm2,if_neg (by omega)] at hgo
    simp only [digL] at hm2
    rw [hm2] at hix
    have hmn:¬ (m:Int) < 0:=by omega
    have hmt:((m:Nat):Int).toNat = m:=by omega
    rw [hmt] at hgo
    have hq:(k:Int).tdiv 2 = ((k / 2:Nat):Int):=(Int.ofNat_tdiv k 2).symm
    have hq2:IntKind.i64.wrap ((k:Int) / 2) = ((k / 2:Nat):Int):=by rw [wrap_i64] <;> omega
    obtain ⟨j,hj⟩:∃ j,j = k / 2:=⟨_,rfl⟩
    rw [← hj] at hgo hq hq2
    have hj16:j < st.length:=by omega
    have hj16':(j:Int) < 16:=by omega
    have hat:=ofBytes_at hj16
    have hgd:st.getD j 0 = st[j]:=by rw [List.getD,List.getElem?_eq_getElem hj16];rfl
    rw [hgd] at hgo
    have hwm:IntKind.u8.wrap (m:Int) = (m:Int):=by rw [wrap_u8] <;> omega
    have hor:=shl4_u8 st[j] m hm16
    have hset:=set_bytesC st j (st[j] <<< 4 ||| UInt8.ofNat m) hj16
    generalize st[j] = b at *
    generalize hx:b <<< 4 ||| UInt8.ofNat m = x at *
    have hj1:j+1≤st.length:=by omega
    have hj15:j≤15:=by omega
    have hp8:(2:Int) ^ min 4 IntKind.u8.bits = 16:=by decide
    have hsl:(st.set j x).length = 16:=by simpa using hst
    generalize st.set j x = st' at *
    simp [-setRange_eq,k0,k2,k4,k12,k13,hlt',hsk,hix,hmn,hq2,hj16',hat,hwm,hor,hp8,hset,hst,hj15,hw]
    exact ⟨k+1,by omega,by omega,st',hsl,hgo,rfl,by simp⟩
  ·have hlt':¬ (k:Int) < 32:=by omega
   rw [List.drop_eq_nil_of_le (by omega),idGo] at hgo
   rw [← hgo]
   have hl16:16≤st.length:=by omega
   have ht:List.take 16 (ofBytes st) = ofBytes st:=List.take_of_length_le (by simp;omega)
   simp [k0,k2,k4,k12,k13,hlt',ht,hst,z16l,z16d]
 ·have h32':¬ (s.length:Int) = 32:=by omega
  have hP:idP s = none:=by unfold idP;rw [if_neg h32]
  rw [hP]
  simp [Tryz.f199,h32',← z16,z16l,z16d]
end Go.Ev.S
namespace Go.Ev
open Go Go.Proofs
structure Rq where
 path:List UInt8
 epoch:Int
 number:Int
 body:Sl UInt8
instance:Enc Rq:=⟨4,fun m=>(.str m.path :: (.int .u64 m.epoch :: (.int .u64 m.number :: ((.vsl m.body.nil (ofBytes m.body.l) m.body.l.length) :: ([]:List D))))),fun m=>by simp,fun m=>by simp [idFree]⟩
theorem Rq.cells (m:Rq):Enc.cells m = (.str m.path :: (.int .u64 m.epoch :: (.int .u64 m.number :: ((.vsl m.body.nil (ofBytes m.body.l) m.body.l.length) :: ([]:List D))))):=rfl
@[simp] theorem Rq.size:Enc.size Rq = 4:=rfl
@[simp] theorem Rq.cl (a:Rq):(Enc.cells a).length = 4:=Enc.len a
@[simp] theorem Rq.ct (a:Rq) (r:List D):(Enc.cells a ++ r).take 4 = Enc.cells a:=cells_take rfl a r
@[simp] theorem Rq.ct' (a:Rq):(Enc.cells a).take 4 = Enc.cells a:=cells_take' rfl a
@[simp] theorem Rq.cd (a:Rq) (r:List D):(Enc.cells a ++ r).drop 4 = r:=cells_drop rfl a r
@[simp] theorem Rq.el (l:List Rq):(encs l).length = l.length * 4:=encs_len' rfl l
@[simp] theorem Rq.ed (l:List Rq) (i:Nat):(encs l).drop (i * 4) = encs (l.drop i):=encs_drop rfl l i
@[simp] theorem Rq.et (l:List Rq) (i:Nat):(encs l).take (i * 4) = encs (l.take i):=encs_take rfl l i
@[simp high] theorem Rq.ea {l:List Rq} {i:Nat} (h:i < l.length):(encs l).drop (i * 4) = Enc.cells l[i] ++ encs (l.drop (i+1)):=encs_at rfl h
@[simp high] theorem Rq.es (m:Rq) {l:List Rq} {j:Nat} (h:j < l.length):setRange (encs l) (j * 4) (Enc.cells m) = encs (l.set j m):=encs_set rfl m l h
@[simp] theorem Rq.g0 (m:Rq) (h):(Enc.cells m)[0]'h = .str m.path:=by simp [Rq.cells]
@[simp] theorem Rq.q0 (m:Rq):(Enc.cells m)[0]? = some (.str m.path):=by simp [Rq.cells]
@[simp] theorem Rq.s0 (m:Rq) (x:List UInt8):setRange (Enc.cells m) 0 [.str x] = Enc.cells { m with path:=x }:=by simp [Rq.cells]
@[simp] theorem Rq.d1 (m:Rq):(Enc.cells m).drop 1 = (.int .u64 m.epoch :: (.int .u64 m.number :: ((.vsl m.body.nil (ofBytes m.body.l) m.body.l.length) :: ([]:List D)))):=by simp [Rq.cells]
@[simp] theorem Rq.d1' (m:Rq) (r:List D):(Enc.cells m ++ r).drop 1 = (.int .u64 m.epoch :: (.int .u64 m.number :: ((.vsl m.body.nil (ofBytes m.body.l) m.body.l.length) :: ([]:List D)))) ++ r:=by simp [Rq.cells]
@[simp] theorem Rq.g1 (m:Rq) (h):(Enc.cells m)[1]'h = .int .u64 m.epoch:=by simp [Rq.cells]
@[simp] theorem Rq.q1 (m:Rq):(Enc.cells m)[1]? = some (.int .u64 m.epoch):=by simp [Rq.cells]
@[simp] theorem Rq.s1 (m:Rq) (x:Int):setRange (Enc.cells m) 1 [.int .u64 x] = Enc.cells { m with epoch:=x }:=by simp [Rq.cells]
@[simp] theorem Rq.d2 (m:Rq):(Enc.cells m).drop 2 = (.int .u64 m.number :: ((.vsl m.body.nil (ofBytes m.body.l) m.body.l.length) :: ([]:List D))):=by simp [Rq.cells]
@[simp] theorem Rq.d2' (m:Rq) (r:List D):(Enc.cells m ++ r).drop 2 = (.int .u64 m.number :: ((.vsl m.body.nil (ofBytes m.body.l) m.body.l.length) :: ([]:List D))) ++ r:=by simp [Rq.cells]
@[simp] theorem Rq.g2 (m:Rq) (h):(Enc.cells m)[2]'h = .int .u64 m.number:=by simp [Rq.cells]
@[simp] theorem Rq.q2 (m:Rq):(Enc.cells m)[2]? = some (.int .u64 m.number):=by simp [Rq.cells]
@[simp] theorem Rq.s2 (m:Rq) (x:Int):setRange (Enc.cells m) 2 [.int .u64 x] = Enc.cells { m with number:=x }:=by simp [Rq.cells]
@[simp] theorem Rq.d3 (m:Rq):(Enc.cells m).drop 3 = ((.vsl m.body.nil (ofBytes m.body.l) m.body.l.length) :: ([]:List D)):=by simp [Rq.cells]
@[simp] theorem Rq.d3' (m:Rq) (r:List D):(Enc.cells m ++ r).drop 3 = ((.vsl m.body.nil (ofBytes m.body.l) m.body.l.length) :: ([]:List D)) ++ r:=by simp [Rq.cells]
@[simp] theorem Rq.g3 (m:Rq) (h):(Enc.cells m)[3]'h = (.vsl m.body.nil (ofBytes m.body.l) m.body.l.length):=by simp [Rq.cells]
@[simp] theorem Rq.q3 (m:Rq):(Enc.cells m)[3]? = some ((.vsl m.body.nil (ofBytes m.body.l) m.body.l.length)):=by simp [Rq.cells]
@[simp] theorem Rq.s3 (m:Rq) (x:Sl UInt8):setRange (Enc.cells m) 3 [(.vsl x.nil (ofBytes x.l) x.l.length)] = Enc.cells { m with body:=x }:=by simp [Rq.cells]
structure Msg where
 kind:Int
 epoch:Int
 number:Int
 body:Sl UInt8
instance:Enc Msg:=⟨4,fun m=>(.int .i64 m.kind :: (.int .u64 m.epoch :: (.int .u64 m.number :: ((.vsl m.body.nil (ofBytes m.body.l) m.body.l.length) :: ([]:List D))))),fun m=>by simp,fun m=>by simp [idFree]⟩
theorem Msg.cells (m:Msg):Enc.cells m = (.int .i64 m.kind :: (.int .u64 m.epoch :: (.int .u64 m.number :: ((.vsl m.body.nil (ofBytes m.body.l) m.body.l.length) :: ([]:List D))))):=rfl
@[simp] theorem Msg.size:Enc.size Msg = 4:=rfl
@[simp] theorem Msg.cl (a:Msg):(Enc.cells a).length = 4:=Enc.len a
@[simp] theorem Msg.ct (a:Msg) (r:List D):(Enc.cells a ++ r).take 4 = Enc.cells a:=cells_take rfl a r
@[simp] theorem Msg.ct' (a:Msg):(Enc.cells a).take 4 = Enc.cells a:=cells_take' rfl a
@[simp] theorem Msg.cd (a:Msg) (r:List D):(Enc.cells a ++ r).drop 4 = r:=cells_drop rfl a r
@[simp] theorem Msg.el (l:List Msg):(encs l).length = l.length * 4:=encs_len' rfl l
@[simp] theorem Msg.ed (l:List Msg) (i:Nat):(encs l).drop (i * 4) = encs (l.drop i):=encs_drop rfl l i
@[simp] theorem Msg.et (l:List Msg) (i:Nat):(encs l).take (i * 4) = encs (l.take i):=encs_take rfl l i
@[simp high] theorem Msg.ea {l:List Msg} {i:Nat} (h:i < l.length):(encs l).drop (i * 4) = Enc.cells l[i] ++ encs (l.drop (i+1)):=encs_at rfl h
@[simp high] theorem Msg.es (m:Msg) {l:List Msg} {j:Nat} (h:j < l.length):setRange (encs l) (j * 4) (Enc.cells m) = encs (l.set j m):=encs_set rfl m l h
@[simp] theorem Msg.g0 (m:Msg) (h):(Enc.cells m)[0]'h = .int .i64 m.kind:=by simp [Msg.cells]
@[simp] theorem Msg.q0 (m:Msg):(Enc.cells m)[0]? = some (.int .i64 m.kind):=by simp [Msg.cells]
@[simp] theorem Msg.s0 (m:Msg) (x:Int):setRange (Enc.cells m) 0 [.int .i64 x] = Enc.cells { m with kind:=x }:=by simp [Msg.cells]
@[simp] theorem Msg.d1 (m:Msg):(Enc.cells m).drop 1 = (.int .u64 m.epoch :: (.int .u64 m.number :: ((.vsl m.body.nil (ofBytes m.body.l) m.body.l.length) :: ([]:List D)))):=by simp [Msg.cells]
@[simp] theorem Msg.d1' (m:Msg) (r:List D):(Enc.cells m ++ r).drop 1 = (.int .u64 m.epoch :: (.int .u64 m.number :: ((.vsl m.body.nil (ofBytes m.body.l) m.body.l.length) :: ([]:List D)))) ++ r:=by simp [Msg.cells]
@[simp] theorem Msg.g1 (m:Msg) (h):(Enc.cells m)[1]'h = .int .u64 m.epoch:=by simp [Msg.cells]
@[simp] theorem Msg.q1 (m:Msg):(Enc.cells m)[1]? = some (.int .u64 m.epoch):=by simp [Msg.cells]
@[simp] theorem Msg.s1 (m:Msg) (x:Int):setRange (Enc.cells m) 1 [.int .u64 x] = Enc.cells { m with epoch:=x }:=by simp [Msg.cells]
@[simp] theorem Msg.d2 (m:Msg):(Enc.cells m).drop 2 = (.int .u64 m.number :: ((.vsl m.body.nil (ofBytes m.body.l) m.body.l.length) :: ([]:List D))):=by simp [Msg.cells]
@[simp] theorem Msg.d2' (m:Msg) (r:List D):(Enc.cells m ++ r).drop 2 = (.int .u64 m.number :: ((.vsl m.body.nil (ofBytes m.body.l) m.body.l.length) :: ([]:List D))) ++ r:=by simp [Msg.cells]
@[simp] theorem Msg.g2 (m:Msg) (h):(Enc.cells m)[2]'h = .int .u64 m.number:=by simp [Msg.cells]
@[simp] theorem Msg.q2 (m:Msg):(Enc.cells m)[2]? = some (.int .u64 m.number):=by simp [Msg.cells]
@[simp] theorem Msg.s2 (m:Msg) (x:Int):setRange (Enc.cells m) 2 [.int .u64 x] = Enc.cells { m with number:=x }:=by simp [Msg.cells]
@[simp] theorem Msg.d3 (m:Msg):(Enc.cells m).drop 3 = ((.vsl m.body.nil (ofBytes m.body.l) m.body.l.length) :: ([]:List D)):=by simp [Msg.cells]
@[simp] theorem Msg.d3' (m:Msg) (r:List D):(Enc.cells m ++ r).drop 3 = ((.vsl m.body.nil (ofBytes m.body.l) m.body.l.length) :: ([]:List D)) ++ r:=by simp [Msg.cells]
@[simp] theorem Msg.g3 (m:Msg) (h):(Enc.cells m)[3]'h = (.vsl m.body.nil (ofBytes m.body.l) m.body.l.length):=by simp [Msg.cells]
@[simp] theorem Msg.q3 (m:Msg):(Enc.cells m)[3]? = some ((.vsl m.body.nil (ofBytes m.body.l) m.body.l.length)):=by simp [Msg.cells]
@[simp] theorem Msg.s3 (m:Msg) (x:Sl UInt8):setRange (Enc.cells m) 3 [(.vsl x.nil (ofBytes x.l) x.l.length)] = Enc.cells { m with body:=x }:=by simp [Msg.cells]
structure Rs where
 status:Int
 epoch:Int
 number:Int
 body:Sl UInt8
instance:Enc Rs:=⟨4,fun m=>(.int .i64 m.status :: (.int .u64 m.epoch :: (.int .u64 m.number :: ((.vsl m.body.nil (ofBytes m.body.l) m.body.l.length) :: ([]:List D))))),fun m=>by simp,fun m=>by simp [idFree]⟩
theorem Rs.cells (m:Rs):Enc.cells m = (.int .i64 m.status :: (.int .u64 m.epoch :: (.int .u64 m.number :: ((.vsl m.body.nil (ofBytes m.body.l) m.body.l.length) :: ([]:List D))))):=rfl
@[simp] theorem Rs.size:Enc.size Rs = 4:=rfl
@[simp] theorem Rs.cl (a:Rs):(Enc.cells a).length = 4:=Enc.len a
@[simp] theorem Rs.ct (a:Rs) (r:List D):(Enc.cells a ++ r).take 4 = Enc.cells a:=cells_take rfl a r
@[simp] theorem Rs.ct' (a:Rs):(Enc.cells a).take 4 = Enc.cells a:=cells_take' rfl a
@[simp] theorem Rs.cd (a:Rs) (r:List D):(Enc.cells a ++ r).drop 4 = r:=cells_drop rfl a r
@[simp] theorem Rs.el (l:List Rs):(encs l).length = l.length * 4:=encs_len' rfl l
@[simp] theorem Rs.ed (l:List Rs) (i:Nat):(encs l).drop (i * 4) = encs (l.drop i):=encs_drop rfl l i
@[simp] theorem Rs.et (l:List Rs) (i:Nat):(encs l).take (i * 4) = encs (l.take i):=encs_take rfl l i
@[simp high] theorem Rs.ea {l:List Rs} {i:Nat} (h:i < l.length):(encs l).drop (i * 4) = Enc.cells l[i] ++ encs (l.drop (i+1)):=encs_at rfl h
@[simp high] theorem Rs.es (m:Rs) {l:List Rs} {j:Nat} (h:j < l.length):setRange (encs l) (j * 4) (Enc.cells m) = encs (l.set j m):=encs_set rfl m l h
@[simp] theorem Rs.g0 (m:Rs) (h):(Enc.cells m)[0]'h = .int .i64 m.status:=by simp [Rs.cells]
@[simp] theorem Rs.q0 (m:Rs):(Enc.cells m)[0]? = some (.int .i64 m.status):=by simp [Rs.cells]
@[simp] theorem Rs.s0 (m:Rs) (x:Int):setRange (Enc.cells m) 0 [.int .i64 x] = Enc.cells { m with status:=x }:=by simp [Rs.cells]
@[simp] theorem Rs.d1 (m:Rs):(Enc.cells m).drop 1 = (.int .u64 m.epoch :: (.int .u64 m.number :: ((.vsl m.body.nil (ofBytes m.body.l) m.body.l.length) :: ([]:List D)))):=by simp [Rs.cells]
@[simp] theorem Rs.d1' (m:Rs) (r:List D):(Enc.cells m ++ r).drop 1 = (.int .u64 m.epoch :: (.int .u64 m.number :: ((.vsl m.body.nil (ofBytes m.body.l) m.body.l.length) :: ([]:List D)))) ++ r:=by simp [Rs.cells]
@[simp] theorem Rs.g1 (m:Rs) (h):(Enc.cells m)[1]'h = .int .u64 m.epoch:=by simp [Rs.cells]
@[simp] theorem Rs.q1 (m:Rs):(Enc.cells m)[1]? = some (.int .u64 m.epoch):=by simp [Rs.cells]
@[simp] theorem Rs.s1 (m:Rs) (x:Int):setRange (Enc.cells m) 1 [.int .u64 x] = Enc.cells { m with epoch:=x }:=by simp [Rs.cells]
@[simp] theorem Rs.d2 (m:Rs):(Enc.cells m).drop 2 = (.int .u64 m.number :: ((.vsl m.body.nil (ofBytes m.body.l) m.body.l.length) :: ([]:List D))):=by simp [Rs.cells]
@[simp] theorem Rs.d2' (m:Rs) (r:List D):(Enc.cells m ++ r).drop 2 = (.int .u64 m.number :: ((.vsl m.body.nil (ofBytes m.body.l) m.body.l.length) :: ([]:List D))) ++ r:=by simp [Rs.cells]
@[simp] theorem Rs.g2 (m:Rs) (h):(Enc.cells m)[2]'h = .int .u64 m.number:=by simp [Rs.cells]
@[simp] theorem Rs.q2 (m:Rs):(Enc.cells m)[2]? = some (.int .u64 m.number):=by simp [Rs.cells]
@[simp] theorem Rs.s2 (m:Rs) (x:Int):setRange (Enc.cells m) 2 [.int .u64 x] = Enc.cells { m with number:=x }:=by simp [Rs.cells]
@[simp] theorem Rs.d3 (m:Rs):(Enc.cells m).drop 3 = ((.vsl m.body.nil (ofBytes m.body.l) m.body.l.length) :: ([]:List D)):=by simp [Rs.cells]
@[simp] theorem Rs.d3' (m:Rs) (r:List D):(Enc.cells m ++ r).drop 3 = ((.vsl m.body.nil (ofBytes m.body.l) m.body.l.length) :: ([]:List D)) ++ r:=by simp [Rs.cells]
@[simp] theorem Rs.g3 (m:Rs) (h):(Enc.cells m)[3]'h = (.vsl m.body.nil (ofBytes m.body.l) m.body.l.length):=by simp [Rs.cells]
@[simp] theorem Rs.q3 (m:Rs):(Enc.cells m)[3]? = some ((.vsl m.body.nil (ofBytes m.body.l) m.body.l.length)):=by simp [Rs.cells]
@[simp] theorem Rs.s3 (m:Rs) (x:Sl UInt8):setRange (Enc.cells m) 3 [(.vsl x.nil (ofBytes x.l) x.l.length)] = Enc.cells { m with body:=x }:=by simp [Rs.cells]
@[simp] theorem ofBytes_nil:ofBytes [] = []:=rfl
def Msg.zero:Msg:=⟨0,0,0,.none⟩
def crlf:List UInt8:=[13,10]
def epochL:List UInt8:=[88,45,69,112,111,99,104,58,32]
def numberL:List UInt8:=[88,45,78,117,109,98,101,114,58,32]
def lengthL:List UInt8:=[67,111,110,116,101,110,116,45,76,101,110,103,116,104,58,32]
def numsL (e n l:Nat):List UInt8:=epochL ++ (dec e ++ (crlf ++ (numberL ++ (dec n ++ (crlf ++ (lengthL ++ (dec l ++ (crlf ++ crlf))))))))
theorem decF_len:∀ (f v:Nat),(decF f v).length≤f
 | 0,_=>Nat.le_refl _
 | f+1,v=>by
  rw [decF]
  split
  ·simp
  ·have:=decF_len f (v / 10)
   simp
   omega
theorem dec_len (v:Nat):(dec v).length≤20:=decF_len 20 v
theorem dec_pos (v:Nat):0 < (dec v).length:=by
 unfold dec decF
 split <;> simp
theorem nums_len (e n l:Nat):(numsL e n l).length≤103:=by
 have h1:=dec_len e
 have h2:=dec_len n
 have h3:=dec_len l
 simp only [numsL,List.length_append,epochL,numberL,lengthL,crlf,List.length_cons,List.length_nil]
 omega
theorem cat_of {x y s:List UInt8} (e:s = x ++ y) (h:x.length+y.length≤100000):strD .add x y = some (.str s):=by
 simp only [strD,e]
 rw [if_pos (by omega)]
section
variable {H:Type} {enc:TypeId × Value→H} {P:Program} {W:World} {base n:Nat} {t e:TypeId} {v:Value} {d:DataW H} {ps:List MemPlace}
end
end Go.Ev
namespace Go.Ev
open Go Go.Proofs
def kS:List UInt8:=[115,61]
def kI:List UInt8:=[59,105,61]
def kB:List UInt8:=[59,98,61]
def kM:List UInt8:=[59,109,61]
def kT:List UInt8:=[59,116,61]
def kX:List UInt8:=[59,120,61]
def showL (c:Cur):List UInt8:=kS ++ (hexs c.seq.l ++ (kI ++ (hx c.n.toNat ++ (kB ++ (hexs c.boot.l ++ (kM ++ (hx c.mono.toNat ++ (kT ++ (hx c.real.toNat ++ (kX ++ hx c.xor.toNat))))))))))
theorem showL_len (c:Cur):80≤(showL c).length∧(showL c).length≤200:=by
 have h1:=hx_len c.n.toNat
 have h2:=hx_len c.mono.toNat
 have h3:=hx_len c.real.toNat
 have h4:=hx_len c.xor.toNat
 have g1:=hx_pos c.n.toNat
 have g2:=hx_pos c.mono.toNat
 have g3:=hx_pos c.real.toNat
 have g4:=hx_pos c.xor.toNat
 have i1:=hexs_len c.seq.l
 have i2:=hexs_len c.boot.l
 rw [c.seq.h] at i1
 rw [c.boot.h] at i2
 simp only [showL,List.length_append,kS,kI,kB,kM,kT,kX,List.length_cons,List.length_nil]
 omega
def Cur.zero:Cur:=⟨ID.zero,0,ID.zero,0,0,0⟩
def idOf (s:List UInt8):ID:=⟨(idP s).getD zero16,by
 cases h:idP s with
 | none=>rfl
 | some r=>exact idP_len h⟩
def curEq (a b:Cur):Bool:=a.seq == b.seq && (a.n == b.n && (a.boot == b.boot && (a.mono == b.mono && (a.real == b.real && a.xor == b.xor))))
@[simp] theorem Cur.eq36 (a b:Cur):cellsEq [.i,.i,.i,.i,.i,.i,.i,.i,.i,.i,.i,.i,.i,.i,.i,.i,.i,.i,.i,.i,.i,.i,.i,.i,.i,.i,.i,.i,.i,.i,.i,.i,.i,.i,.i,.i] (Enc.cells a) (Enc.cells b) = some (curEq a b):=by
 have h1:=cellsEq16 a.seq b.seq
 have h2:=cellsEq16 a.boot b.boot
 rw [Cur.cells,Cur.cells]
 have e:([.i,.i,.i,.i,.i,.i,.i,.i,.i,.i,.i,.i,.i,.i,.i,.i,.i,.i,.i,.i,.i,.i,.i,.i,.i,.i,.i,.i,.i,.i,.i,.i,.i,.i,.i,.i]:List CK) = [.i,.i,.i,.i,.i,.i,.i,.i,.i,.i,.i,.i,.i,.i,.i,.i] ++ (.i :: ([.i,.i,.i,.i,.i,.i,.i,.i,.i,.i,.i,.i,.i,.i,.i,.i] ++ [.i,.i,.i])):=rfl
 rw [e,cellsEq_app _ _ _ _ _ _ (by simp) (by simp),h1]
 simp only [cellsEq,cellEq,if_true]
 rw [cellsEq_app _ _ _ _ _ _ (by simp) (by simp),h2]
 simp only [cellsEq,cellEq,if_true,Bool.and_true]
 rfl
theorem idx_at (c:UInt8):∀ (A B:List UInt8) (n:Nat),(∀ x∈A,x≠c)→idxN [c] (A ++ c :: B) n = ((n+A.length:Nat):Int)
 | [],B,n,_=>by simp [idxN,List.isPrefixOf]
 | x :: A,B,n,h=>by
  have hx:=h x (by simp)
  have hx2:(c == x) = false:=by simpa using Ne.symm hx
  rw [List.cons_append,idxN,if_neg (by simp [List.isPrefixOf,hx2]),idx_at c A B (n+1) fun y hy=>h y (by simp [hy])]
  simp
  omega
theorem idOf_hexs (i:ID):idOf (hexs i.l) = i:=ID.ext' (by show (idP (hexs i.l)).getD zero16 = i.l;rw [idP_hexs i.h];rfl)
end Go.Ev
namespace Go.Ev
open Go Go.Proofs
end Go.Ev
namespace Go.Ev.S
open Go Go.Proofs Go.Ev
end Go.Ev.S
namespace Go.Ev.S
open Go Go.Proofs Go.Ev
theorem pow2_ev [MaxL] [TxtC]:call cx 220 [.int .i64 16] [] = some (.bool true,[]):=call_some.2 ⟨60,by kernel_rfl⟩
theorem tz_ev [MaxL] [TxtC]:call cx 221 [.int .u64 16] [] = some (.int .i64 4,[]):=call_some.2 ⟨100,by kernel_rfl⟩
def HexI (v i u:Nat) (s:List UInt8):Prop:= ∃ g,1≤g∧g≤16∧i = 49+g∧s.length+g = 16∧u < 16 ^ g∧hexF g u ++ s = hx v
theorem hexI_step {v i u:Nat} {s:List UInt8} (h:HexI v i u s) (hu:16≤u):51≤i∧HexI v (i - 1) (u / 16) (hexc (u % 16) :: s):=by
 obtain ⟨g,h1,h2,rfl,h4,h5,h6⟩:=h
 obtain ⟨f,rfl⟩:∃ f,g = f+1:=⟨g - 1,by omega⟩
 have hf:1≤f:=by
  rcases f with _ | f
  ·simp at h5;omega
  ·omega
 refine ⟨by omega,f,hf,by omega,by omega,by simp;omega,by rw [Nat.pow_succ] at h5;omega,?_⟩
 rw [hexF,if_neg (by omega)] at h6
 simpa using h6
theorem hexI_end {v i u:Nat} {s:List UInt8} (h:HexI v i u s) (hu:u < 16):hexc u :: s = hx v∧50≤i∧i≤65∧i+s.length = 65:=by
 obtain ⟨g,h1,h2,rfl,h4,h5,h6⟩:=h
 obtain ⟨f,rfl⟩:∃ f,g = f+1:=⟨g - 1,by omega⟩
 rw [hexF,if_pos hu] at h6
 exact ⟨by simpa using h6,by omega,by omega,by omega⟩
theorem hexI_len {v i u:Nat} {s:List UInt8} (h:HexI v i u s):i+s.length = 65∧50≤i:=by
 obtain ⟨g,h1,h2,rfl,h4,h5,h6⟩:=h
 omega
theorem fill_of {i j:Nat} (hi:i = j+1) (s:List UInt8) (c:UInt8):setRange (List.replicate i (D.int .u8 0) ++ ofBytes s) j [.int .u8 c.toNat] = List.replicate j (.int .u8 0) ++ ofBytes (c :: s):=by
 rw [hi];exact fill_behind j s c
set_option maxHeartbeats 2000000 in
theorem fb16_ev [MaxL] [TxtC] (v:Nat) (hv:v < 18446744073709551616):call cx 192 [.vsl true [] 0,.int .u64 v,.int .i64 16,.bool false,.bool false] [] = some (.tup [.vsl true [] 0,.str (hx v)],[]):=by
 have h1:=pow2_ev
 have h2:=tz_ev
 have w16:IntKind.u64.wrap 16 = 16:=by decide
 have w15:IntKind.u64.wrap 15 = 15:=by decide
 have w4:IntKind.u64.wrap 4 = 4:=by decide
 refine call_run Tryz.func192 rfl ⟨rfl,rfl⟩ ?_
 simp [-List.reduceReplicate,Tryz.f192,h1,h2,w16,w15,w4]
 refine Run.loopThen (fun (q:Nat × Nat × List UInt8) e H'=>HexI v q.1 q.2.1 q.2.2∧q.2.1 < 18446744073709551616∧H' = [some (List.replicate q.1 (.int .u8 0) ++ ofBytes q.2.2)] ∧
   look e 0 = some (.vsl true [] 0)∧look e 1 = some (.int .u64 (q.2.1:Nat))∧look e 3 = some (.bool false)∧look e 4 = some (.bool false)∧look e 10 = some (.vsl true [] 0)∧look e 11 = some (.str [])∧look e 12 = some (.optr 0 65 0) ∧
   look e 13 = some (.int .i64 (q.1:Nat))∧look e 14 = some (.int .u64 4)∧look e 15 = some (.int .u64 16)∧look e 16 = some (.int .u64 15)) (fun q=>q.2.1) (65,v,[]) ?_ ?_
 ·refine ⟨⟨16,by omega,by omega,by omega,by simp,by omega,by simp [hx]⟩,hv,?_,?_⟩
  ·show [some (List.replicate 65 (D.int .u8 0))] = [some (List.replicate 65 (D.int .u8 0) ++ [])]
   rw [List.append_nil]
  ·simp
 rintro ⟨i,u,s⟩ e H' ⟨hI,hu,rfl,k0,k1,k3,k4,k10,k11,k12,k13,k14,k15,k16⟩
 simp only at hI hu k1 k13
 obtain ⟨hl,h50⟩:=hexI_len hI
 obtain ⟨j,hj⟩:∃ j,i = j+1:=⟨i - 1,by omega⟩
 have hw:IntKind.i64.wrap ((i:Int) - 1) = (j:Int):=by rw [wrap_i64] <;> omega
 have hj65:(j:Int) < 65:=by omega
 have hj1:j+1≤i+s.length:=by omega
 have hj64:j≤64:=by omega
 by_cases h16:16≤u
 ·have h16':(16:Int)≤(u:Int):=by omega
  obtain ⟨h51,hS⟩:=hexI_step hI h16
  have ha:=and15_u64 hu
  have hd:=dig36_at (u % 16) (Nat.mod_lt _ (by decide))
  simp only [dig36] at hd
  have hf:=fdiv16 u
  have hst:=fill_of hj s (hexc (u % 16))
  have e1:i - 1 = j:=by omega
  rw [e1] at hS
  have hu2:u / 16 < u:=by omega
  have hu3:u / 16 < 18446744073709551616:=by omega
  generalize u / 16 = u2 at *
  generalize hexc (u % 16) = c at *
  obtain ⟨m,hm⟩:∃ m,m = u % 16:=⟨_,rfl⟩
  rw [← hm] at ha hd
  simp [-setRange_eq,k0,k1,k3,k4,k10,k11,k12,k13,k14,k15,k16,h16',hw,hj65,hj64,hl,ha,hd,hst]
  have hp4:(2:Int) ^ min 4 IntKind.u64.bits = 16:=by decide
  exact ⟨j,u2,hu2,c :: s,hS,hu3,by simp [hp4,hf]⟩
 ·have h16':¬ (16:Int)≤(u:Int):=by omega
  obtain ⟨hE,_,_,_⟩:=hexI_end hI (by omega)
  have hd:=dig36_at u (by omega)
  simp only [dig36] at hd
  have hst:=fill_of hj s (hexc u)
  have hdr:List.take (65 - j) (List.drop j (List.replicate j (D.int .u8 0) ++ ofBytes (hexc u :: s))) = ofBytes (hx v):=by
   rw [List.drop_left' (by simp),hE]
   refine List.take_of_length_le ?_
   rw [← hE]
   simp
   omega
  have hj2:(j:Int)≤65:=by omega
  have hj3:j≤65:=by omega
  have hj4:j < 65:=by omega
  have hl3:j+(65 - j) = 65:=by omega
  have hl4:j+(hx v).length = 65:=by rw [← hE];simp;omega
  have hlh:(hx v).length = 65 - j:=by rw [← hE];simp;omega
  have hl2:j+(ofBytes (hexc u :: s)).length = 65:=by simp;omega
  simp only [hE] at hst hdr hl2
  generalize hexc u = c at *
  simp [-setRange_eq,k0,k1,k3,k4,k10,k11,k12,k13,k14,k15,k16,h16',hw,hj65,hj64,hl,hd,hst,hj2,hj4,hl3,hlh]
theorem fui16_ev [MaxL] [TxtC] (v:Nat) (hv:v < 18446744073709551616):call cx 160 [.int .u64 v,.int .i64 16] [] = some (.str (hx v),[]):=by
 have h:=fb16_ev v hv
 refine call_run Tryz.func160 rfl ⟨rfl,rfl⟩ ?_
 simp [Tryz.f160,h]
theorem fu16_ev [MaxL] [TxtC] (v:Nat) (hv:v < 18446744073709551616):call cx 131 [.int .u64 v,.int .i64 16] [] = some (.str (hx v),[]):=by
 have h:=fui16_ev v hv
 refine call_run Tryz.func131 rfl ⟨rfl,rfl⟩ ?_
 simp [Tryz.f131,h]
end Go.Ev.S
namespace Go.Ev.S
open Go Go.Proofs Go.Ev
structure CurOk (c:Cur):Prop where
 n:isU64 c.n
 mono:isU64 c.mono
 real:isU64 c.real
 xor:isU64 c.xor
end Go.Ev.S
namespace Go.Ev.S
open Go Go.Proofs Go.Ev
theorem show1_ev [MaxL] [TxtC] (v:Nat) (hv:v < 18446744073709551616):call cx 141 [.int .u64 v] [] = some (.str (hx v),[]):=by
 have h:=fu16_ev v hv
 refine call_run Tryz.func141 rfl ⟨rfl,rfl⟩ ?_
 simp [Tryz.f141,h]
set_option maxHeartbeats 2000000 in
theorem show_ev [MaxL] [TxtC] (c:Cur) (h:CurOk c):call cx 99 [.agg (Enc.cells c)] [] = some (.str (showL c),[]):=by
 obtain ⟨w1,w2,w3,w4⟩:=h
 unfold isU64 at w1 w2 w3 w4
 have e1:((c.n.toNat:Nat):Int) = c.n:=by omega
 have e2:((c.mono.toNat:Nat):Int) = c.mono:=by omega
 have e3:((c.real.toNat:Nat):Int) = c.real:=by omega
 have e4:((c.xor.toNat:Nat):Int) = c.xor:=by omega
 have h1:=hex_ev c.seq.l c.seq.h
 have h2:=show1_ev c.n.toNat (by omega)
 have h3:=hex_ev c.boot.l c.boot.h
 have h4:=show1_ev c.mono.toNat (by omega)
 have h5:=show1_ev c.real.toNat (by omega)
 have h6:=show1_ev c.xor.toNat (by omega)
 rw [e1] at h2
 rw [e2] at h4
 rw [e3] at h5
 rw [e4] at h6
 have l1:=hexs_len c.seq.l
 have l2:=hx_len c.n.toNat
 have l3:=hexs_len c.boot.l
 have l4:=hx_len c.mono.toNat
 have l5:=hx_len c.real.toNat
 have l6:=hx_len c.xor.toNat
 rw [c.seq.h] at l1
 rw [c.boot.h] at l3
 unfold showL
 generalize hexs c.seq.l = a1 at *
 generalize hx c.n.toNat = a2 at *
 generalize hexs c.boot.l = a3 at *
 generalize hx c.mono.toNat = a4 at *
 generalize hx c.real.toNat = a5 at *
 generalize hx c.xor.toNat = a6 at *
 clear e1 e2 e3 e4 w1 w2 w3 w4
 obtain ⟨s1,es1⟩:∃ s,s = kS ++ a1:=⟨_,rfl⟩
 have ls1:s1.length = kS.length+a1.length:=by rw [es1,List.length_append]
 obtain ⟨s2,es2⟩:∃ s,s = s1 ++ kI:=⟨_,rfl⟩
 have ls2:s2.length = s1.length+kI.length:=by rw [es2,List.length_append]
 obtain ⟨s3,es3⟩:∃ s,s = s2 ++ a2:=⟨_,rfl⟩
 have ls3:s3.length = s2.length+a2.length:=by rw [es3,List.length_append]
 obtain ⟨s4,es4⟩:∃ s,s = s3 ++ kB:=⟨_,rfl⟩
 have ls4:s4.length = s3.length+kB.length:=by rw [es4,List.length_append]
 obtain ⟨s5,es5⟩:∃ s,s = s4 ++ a3:=⟨_,rfl⟩
 have ls5:s5.length = s4.length+a3.length:=by rw [es5,List.length_append]
 obtain ⟨s6,es6⟩:∃ s,s = s5 ++ kM:=⟨_,rfl⟩
 have ls6:s6.length = s5.length+kM.length:=by rw [es6,List.length_append]
 obtain ⟨s7,es7⟩:∃ s,s = s6 ++ a4:=⟨_,rfl⟩
 have ls7:s7.length = s6.length+a4.length:=by rw [es7,List.length_append]
 obtain ⟨s8,es8⟩:∃ s,s = s7 ++ kT:=⟨_,rfl⟩
 have ls8:s8.length = s7.length+kT.length:=by rw [es8,List.length_append]
 obtain ⟨s9,es9⟩:∃ s,s = s8 ++ a5:=⟨_,rfl⟩
 have ls9:s9.length = s8.length+a5.length:=by rw [es9,List.length_append]
 obtain ⟨s10,es10⟩:∃ s,s = s9 ++ kX:=⟨_,rfl⟩
 have ls10:s10.length = s9.length+kX.length:=by rw [es10,List.length_append]
 obtain ⟨s11,es11⟩:∃ s,s = s10 ++ a6:=⟨_,rfl⟩
 have ls11:s11.length = s10.length+a6.length:=by rw [es11,List.length_append]
 simp only [kS,kI,kB,kM,kT,kX,List.length_cons,List.length_nil] at ls1 ls2 ls3 ls4 ls5 ls6 ls7 ls8 ls9 ls10 ls11
 have cs1:=cat_of es1 (by (try simp only [kS,List.length_cons,List.length_nil]);omega)
 have cs2:=cat_of es2 (by (try simp only [kI,List.length_cons,List.length_nil]);omega)
 have cs3:=cat_of es3 (by (try simp only [kS,kI,kB,kM,kT,kX,List.length_cons,List.length_nil]);omega)
 have cs4:=cat_of es4 (by (try simp only [kB,List.length_cons,List.length_nil]);omega)
 have cs5:=cat_of es5 (by (try simp only [kS,kI,kB,kM,kT,kX,List.length_cons,List.length_nil]);omega)
 have cs6:=cat_of es6 (by (try simp only [kM,List.length_cons,List.length_nil]);omega)
 have cs7:=cat_of es7 (by (try simp only [kS,kI,kB,kM,kT,kX,List.length_cons,List.length_nil]);omega)
 have cs8:=cat_of es8 (by (try simp only [kT,List.length_cons,List.length_nil]);omega)
 have cs9:=cat_of es9 (by (try simp only [kS,kI,kB,kM,kT,kX,List.length_cons,List.length_nil]);omega)
 have cs10:=cat_of es10 (by (try simp only [kX,List.length_cons,List.length_nil]);omega)
 have cs11:=cat_of es11 (by (try simp only [kS,kI,kB,kM,kT,kX,List.length_cons,List.length_nil]);omega)
 simp only [kS,kI,kB,kM,kT,kX] at cs1 cs2 cs3 cs4 cs5 cs6 cs7 cs8 cs9 cs10 cs11
 have hfin:kS ++ (a1 ++ (kI ++ (a2 ++ (kB ++ (a3 ++ (kM ++ (a4 ++ (kT ++ (a5 ++ (kX ++ a6)))))))))) = s11:=by
  simp [es11,es10,es9,es8,es7,es6,es5,es4,es3,es2,es1]
 rw [hfin]
 clear hfin es1 es2 es3 es4 es5 es6 es7 es8 es9 es10 es11 ls1 ls2 ls3 ls4 ls5 ls6 ls7 ls8 ls9 ls10 ls11 l1 l2 l3 l4 l5 l6
 refine call_run Tryz.func99 rfl ⟨rfl,rfl⟩ ?_
 simp [Tryz.f99,h1,h2,h3,h4,h5,h6,-strD,cs1,cs2,cs3,cs4,cs5,cs6,cs7,cs8,cs9,cs10,cs11]
end Go.Ev.S
namespace Go.Ev.S
open Go Go.Proofs Go.Ev
end Go.Ev.S
namespace Go.Ev.S
open Go Go.Proofs Go.Ev
theorem z36:[.int .u8 0,.int .u8 0,.int .u8 0,.int .u8 0,.int .u8 0,.int .u8 0,.int .u8 0,.int .u8 0,.int .u8 0,.int .u8 0,.int .u8 0,.int .u8 0,.int .u8 0,.int .u8 0,.int .u8 0,.int .u8 0,.int .u64 0,.int .u8 0,.int .u8 0,.int .u8 0,.int .u8 0,.int .u8 0,.int .u8 0,.int .u8 0,.int .u8 0,.int .u8 0,.int .u8 0,.int .u8 0,.int .u8 0,.int .u8 0,.int .u8 0,.int .u8 0,.int .u8 0,.int .u64 0,.int .u64 0,.int .u64 0] = Enc.cells Cur.zero:=rfl
def payL (p:Pr):List UInt8:=(p.name ++ [61]) ++ p.value
theorem pay_ev [MaxL] [TxtC] (p:Pr) (h1:p.name.length < 1000000) (h2:p.value.length < 1000000):call cx 138 [.agg (Enc.cells p)] [] = some (.str (payL p),[]):=by
 refine call_run Tryz.func138 rfl ⟨rfl,rfl⟩ ?_
 have x1:p.name.length+1≤4611686018427387904:=by omega
 have x2:p.name.length+1+p.value.length≤4611686018427387904:=by omega
 have x3:p.name.length+(p.value.length+1)≤4611686018427387904:=by omega
 unfold payL
 simp [Tryz.f138,Pr.cells,x1,x2]
def xorP:List (List UInt8)→Int→Int
 | [],v=>v
 | b :: l,v=>xorP l (xorI .u64 v (lookN b))
def bD (b:List UInt8):D:=.vsl false (ofBytes b) b.length
theorem bDs_at {L:List (List UInt8)} {k:Nat} (h:k < L.length):List.drop k (L.map bD) = bD L[k] :: List.drop (k+1) (L.map bD):=by
 rw [List.drop_eq_getElem_cons (by simpa using h)]
 simp
set_option maxHeartbeats 1000000 in
theorem xor_ev [MaxL] [TxtC] (nl:Bool) (L:List (List UInt8)) (hnl:nl = true→L = []) (hL:L.length < 1000000) (hb:∀ b∈L,b.length < 3000000):call cx 142 [.vsl nl (L.map bD) L.length] [] = some (.int .u64 (xorP L 0),[]):=by
 refine call_run Tryz.func142 rfl ⟨rfl,rfl⟩ ?_
 obtain ⟨r,hr⟩:∃ r,xorP L 0 = r:=⟨_,rfl⟩
 rw [hr]
 simp [Tryz.f142]
 refine Run.loopThen (fun (q:Nat × Int) e H'=>q.1≤L.length∧xorP (L.drop q.1) q.2 = r∧look e 3 = some (.int .u64 q.2)∧look e 6 = some (.vsl nl (L.map bD) L.length)∧look e 7 = some (.int .i64 L.length)∧look e 8 = some (.int .i64 (q.1:Nat))∧H' = []) (fun q=>L.length - q.1) (0,0) ?_ ?_
 ·simp [hr]
 rintro ⟨k,v⟩ e H' ⟨hk,hR,k3,k6,k7,k8,rfl⟩
 simp only at hk hR k3 k8
 by_cases hlt:k < L.length
 ·have hlt':(k:Int) < (L.length:Int):=by omega
  have hw:IntKind.i64.wrap ((k:Int)+1) = ((k+1:Nat):Int):=by rw [wrap_i64] <;> omega
  have hnn:nl = false:=by
   cases hq:nl with
   | false=>rfl
   | true=>rw [hnl hq] at hlt;simp at hlt
  have hat:=bDs_at hlt
  rw [List.drop_eq_getElem_cons hlt,xorP] at hR
  have hl:=lookup_ev (.of L[k]) (by have:=hb _ (List.getElem_mem hlt);show L[k].length < _;omega)
  replace hl:call cx 167 [.vsl false (ofBytes L[k]) L[k].length] [] = some (.int .u64 (lookN L[k]),[]):=hl
  generalize L[k] = b at *
  generalize lookN b = z at *
  simp [k3,k6,k7,k8,hlt',hw,hnn,hat,bD,hl]
  exact ⟨k+1,by omega,by omega,_,hR,rfl,by omega⟩
 ·have hlt':¬ (k:Int) < (L.length:Int):=by omega
  rw [List.drop_eq_nil_of_le (by omega),xorP] at hR
  subst hR
  simp [k3,k6,k7,k8,hlt']
def PrB (p:Pr):Prop:=p.name.length < 1000000∧p.value.length < 1000000
theorem payL_len {p:Pr} (h:PrB p):(payL p).length < 3000000:=by
 obtain ⟨h1,h2⟩:=h
 unfold payL
 simp
 omega
def cOfP (q:ID) (r:Rec):Cur:=⟨q,r.seq,r.boot,r.mono,r.real,xorP (r.fields.l.map payL) 0⟩
def paysB (l:List Pr):List D:=(l.map payL).map bD
theorem paysB_len (l:List Pr):(paysB l).length = l.length:=by simp [paysB]
theorem paysB_idFree (l:List Pr):(paysB l).all idFree = true:=by
 rw [List.all_eq_true]
 intro x hx
 obtain ⟨b,_,rfl⟩:=List.mem_map.1 hx
 rfl
@[simp] theorem paysB_idFree' (l:List Pr):(paysB l).all idFree = true:=paysB_idFree l
@[simp] theorem paysB_idFreeL (l:List Pr):idFree.idFreeL (paysB l) = true:=by rw [idFreeL_all];exact paysB_idFree l
@[simp] theorem paysB_closedL (n:Nat) (l:List Pr):closed.closedL n (paysB l) = true:=closedL_free n _ (paysB_idFreeL l)
@[simp] theorem paysB_closed (n:Nat) (l:List Pr):(paysB l).all (closed n) = true:=by rw [← closedL_all];exact paysB_closedL n l
@[simp] theorem paysB_aI (l:List Pr):(∀ x,x∈paysB l→idFree x = true) = True:=eq_true (List.all_eq_true.1 (paysB_idFree l))
@[simp] theorem paysB_aC (n:Nat) (l:List Pr):(∀ x,x∈paysB l→closed n x = true) = True:=eq_true (List.all_eq_true.1 (paysB_closed n l))
theorem paysB_snoc {l:List Pr} {k:Nat} (h:k < l.length):paysB (l.take k) ++ [bD (payL l[k])] = paysB (l.take (k+1)):=by
 unfold paysB
 rw [List.take_succ_eq_append_getElem h,List.map_append,List.map_append]
 rfl
set_option maxHeartbeats 4000000 in
theorem cof_ev [MaxL] [TxtC] (q:ID) (r:Rec) (hn:r.fields.l.length < 1000000) (hb:∀ p∈r.fields.l,PrB p):call cx 100 [.agg (ofBytes q.l),.agg (Enc.cells r)] [] = some (.agg (Enc.cells (cOfP q r)),[]):=by
 have hL:Enc.cells r = .int .u64 r.seq :: .int .u64 r.real :: .int .u64 r.mono :: (ofBytes r.boot.l ++ [(.vsl r.fields.nil (encs r.fields.l) r.fields.l.length)]):=Rec.cells r
 have hC:Enc.cells (cOfP q r) = ofBytes q.l ++ ([.int .u64 r.seq] ++ (ofBytes r.boot.l ++ [.int .u64 r.mono,.int .u64 r.real,.int .u64 (xorP (r.fields.l.map payL) 0)])):=rfl
 have hbl:∀ b∈r.fields.l.map payL,b.length < 3000000:=by
  intro b hm
  obtain ⟨p,hp,rfl⟩:=List.mem_map.1 hm
  exact payL_len (hb p hp)
 have hxe:=fun nl h=>xor_ev nl (r.fields.l.map payL) h (by simpa using hn) hbl
 rw [hL,hC]
 have hz:=z36
 clear hL hC
 generalize r.fields = F at *
 refine call_run Tryz.func100 rfl ⟨rfl,rfl⟩ ?_
 simp [Tryz.f100,hz]
 refine Run.loopThen (fun (k:Nat) e H'=>k≤F.l.length∧look e 2 = some (.optr 0 16 0)∧look e 3 = some (.optr 1 20 0)∧look e 4 = some (.optr 2 36 0)∧look e 9 = some (.vsl F.nil (encs F.l) F.l.length)∧look e 10 = some (.int .i64 F.l.length)∧look e 11 = some (.int .i64 k) ∧
   ((k = 0∧look e 5 = some (.vsl true [] 0)∧H' = [some (ofBytes q.l),some (.int .u64 r.seq :: .int .u64 r.real :: .int .u64 r.mono :: (ofBytes r.boot.l ++ [(.vsl F.nil (encs F.l) F.l.length)])),some (Enc.cells Cur.zero)]) ∨
   (∃ n1 v1,0 < k∧look e 5 = some (.osl 4 k 0 k 1)∧H' = [some (ofBytes q.l),some (.int .u64 r.seq :: .int .u64 r.real :: .int .u64 r.mono :: (ofBytes r.boot.l ++ [(.vsl F.nil (encs F.l) F.l.length)])),some (Enc.cells Cur.zero),some [.str n1,.str v1],some (paysB (F.l.take k))]) ∨
   (∃ n1 v1 n2 v2,0 < k∧look e 5 = some (.osl 4 k 0 k 1)∧H' = [some (ofBytes q.l),some (.int .u64 r.seq :: .int .u64 r.real :: .int .u64 r.mono :: (ofBytes r.boot.l ++ [(.vsl F.nil (encs F.l) F.l.length)])),some (Enc.cells Cur.zero),some [.str n1,.str v1],some (paysB (F.l.take k)),some [.str n2,.str v2]]))) (fun k=>F.l.length - k) 0 (by simp) ?_
 rintro k e H' ⟨hk,k2,k3,k4,k9,k10,k11,hH⟩
 by_cases hlt:k < F.l.length
 ·have hlt':(k:Int) < (F.l.length:Int):=by omega
  have hw:IntKind.i64.wrap ((k:Int)+1) = ((k+1:Nat):Int):=by rw [wrap_i64] <;> omega
  have hpb:=hb F.l[k] (List.getElem_mem hlt)
  have hsn:=paysB_snoc hlt
  have hpl:=paysB_len (F.l.take k)
  rw [List.length_take,Nat.min_eq_left (by omega)] at hpl
  have hpy:payL F.l[k] = F.l[k].name ++ 61 :: F.l[k].value:=by simp [payL]
  have hnn:=Sl.nn hlt
  obtain ⟨x1,x2⟩:=hpb
  have x3:F.l[k].name.length+1≤4611686018427387904:=by omega
  have x4:F.l[k].name.length+1+F.l[k].value.length≤4611686018427387904:=by omega
  have x5:F.l[k].name.length+(F.l[k].value.length+1)≤4611686018427387904:=by omega
  have hbD:bD (payL F.l[k]) = .vsl false (ofBytes (F.l[k].name ++ 61 :: F.l[k].value)) (F.l[k].name.length+(F.l[k].value.length+1)):=by
   unfold bD
   rw [hpy]
   simp
  rw [hbD] at hsn
  have hm1:24≤maxBytes:=by decide
  have hm2:1≤maxBytes:=by decide
  have hmx:(k+1) * 24≤maxBytes:=Nat.le_trans (show _≤30000000 by omega) (by decide)
  have hmx2:k+1≤maxBytes:=Nat.le_trans (show _≤30000000 by omega) (by decide)
  rcases hH with ⟨rfl,k5,rfl⟩ | ⟨n1,v1,hk0,k5,rfl⟩ | ⟨n1,v1,n2,v2,hk0,k5,rfl⟩
  ·have hc0:List.take 2 (encs F.l) = [.str F.l[0].name,.str F.l[0].value]:=by
    rw [encs_at0 hlt,Pr.cells]
    rfl
   have hc1:2≤F.l.length * 2:=by omega
   simp [k2,k3,k4,k5,k9,k10,k11,hlt,hnn,x3,x4,hc0,hc1,hm1,hm2]
   exact ⟨1,by omega,by omega,by simp,by omega,rfl,hsn⟩
  ·simp [k2,k3,k4,k5,k9,k10,k11,hlt',hlt,hw,hnn,x3,x4,Pr.cells,hmx,hmx2,hpl,hsn]
   exact ⟨k+1,by omega,by omega,by omega,by omega,rfl,rfl⟩
  ·simp [k2,k3,k4,k5,k9,k10,k11,hlt',hlt,hw,hnn,x3,x4,Pr.cells,hmx,hmx2,hpl,hsn]
   exact ⟨k+1,by omega,by omega,by omega,by omega,rfl,rfl⟩
 ·have hlt':¬ (k:Int) < (F.l.length:Int):=by omega
  have hke:k = F.l.length:=by omega
  have htk:F.l.take k = F.l:=List.take_of_length_le (by omega)
  rw [htk] at hH
  have hpl:=paysB_len F.l
  have htp:List.take F.l.length (paysB F.l) = paysB F.l:=List.take_of_length_le (by omega)
  rcases hH with ⟨rfl,k5,rfl⟩ | ⟨n1,v1,hk0,k5,rfl⟩ | ⟨n1,v1,n2,v2,hk0,k5,rfl⟩
  ·have hl0:F.l = []:=List.length_eq_zero_iff.1 hke.symm
   have hx:=hxe true (fun _=>by rw [hl0];rfl)
   rw [hl0] at hx
   simp at hx
   simp [k2,k3,k4,k5,k9,k10,k11,hl0,hx,List.drop_append,List.take_append,drop_bytes]
  ·have hx:=hxe false (fun h=>by cases h)
   replace hx:call cx 142 [.vsl false (paysB F.l) F.l.length] [] = some (.int .u64 (xorP (F.l.map payL) 0),[]):=by
    simpa [paysB] using hx
   subst hke
   generalize xorP (F.l.map payL) 0 = z at *
   simp [k2,k3,k4,k5,k9,k10,k11,hlt',hx,hpl,htp,List.drop_append,List.take_append,drop_bytes]
  ·have hx:=hxe false (fun h=>by cases h)
   replace hx:call cx 142 [.vsl false (paysB F.l) F.l.length] [] = some (.int .u64 (xorP (F.l.map payL) 0),[]):=by
    simpa [paysB] using hx
   subst hke
   generalize xorP (F.l.map payL) 0 = z at *
   simp [k2,k3,k4,k5,k9,k10,k11,hlt',hx,hpl,htp,List.drop_append,List.take_append,drop_bytes]
end Go.Ev.S
namespace Go.Ev.S
open Go Go.Proofs Go.Ev
theorem bytesclone_ev [MaxL] [TxtC] (s:Sl UInt8) (hn:s.l.length≤140737488355328) :
  call cx 85 [(.vsl s.nil (ofBytes s.l) s.l.length)] [] = if s.nil then some (.vsl true [] 0,[]) else some (.osl 0 s.l.length 0 s.l.length 1,[some (ofBytes s.l)]):=by
 obtain ⟨nil,l,hnil⟩:=s
 simp only at hn ⊢
 cases nil with
 | true =>
  have hl0:=hnil rfl
  subst hl0
  rw [if_pos rfl]
  refine call_run Tryz.func85 rfl ⟨rfl,rfl⟩ ?_
  simp [Tryz.f85]
 | false =>
  rw [if_neg (by decide)]
  refine call_run Tryz.func85 rfl ⟨rfl,rfl⟩ ?_
  simp [Tryz.f85,maxBytes,hn]
theorem leB_val (v:Nat) {i:Nat} (hi:i≤7):IntKind.u8.wrap ((v:Int).fdiv (2 ^ min (8 * i) 64)) = ((UInt8.ofNat (v / 256 ^ i % 256)).toNat:Int):=by
 have e1:min (8 * i) 64 = 8 * i:=by omega
 have e2:((2:Int) ^ (8 * i)) = ((256 ^ i:Nat):Int):=by rw [Int.pow_mul];simp
 have e3:(v:Int).fdiv ((256 ^ i:Nat):Int) = ((v / 256 ^ i:Nat):Int):=by
  rw [Int.fdiv_eq_ediv_of_nonneg _ (Int.natCast_nonneg _)]
  exact (Int.natCast_ediv v (256 ^ i)).symm
 rw [e1,e2,e3,UInt8.toNat_ofNat_of_lt' (Nat.mod_lt _ (by decide))]
 simp only [IntKind.wrap,IntKind.signed,IntKind.bits]
 simp
def Buf (d:D) (H:Heap) (l:List UInt8):Prop:=(d = .vsl true [] 0∧l = []∧H = [])∨(d = .osl 0 l.length 0 l.length 1∧H = [some (ofBytes l)])
def leAdd (l:List UInt8) (n:Int) (v:Nat):List UInt8:=if szOk n then l ++ leB n.toNat v else l
theorem buf_pack {d:D} {H:Heap} {l:List UInt8} (h:Buf d H l):pack 0 H d = some (d,H):=by
 rcases h with ⟨rfl,rfl,rfl⟩ | ⟨rfl,rfl⟩ <;> simp
set_option maxHeartbeats 1000000 in
theorem leadd_ev [MaxL] [TxtC] (s:Sl UInt8) (n:Int) (v:Nat) (hn:s.l.length≤140737488355000) :
  ∃ d H,Buf d H (leAdd s.l n v)∧call cx 63 [(.vsl s.nil (ofBytes s.l) s.l.length),.int .i64 n,.int .u64 v] [] = some (d,H):=by
 have hc:=bytesclone_ev s (by omega)
 have hs:=lesize_ev n
 have hcl:∃ d H,Buf d H s.l∧call cx 85 [(.vsl s.nil (ofBytes s.l) s.l.length)] [] = some (d,H)∧shift 0 d = d:=by
  cases hnil:s.nil with
  | true =>
   rw [hnil,if_pos rfl] at hc
   exact ⟨_,_,.inl ⟨rfl,s.h hnil,rfl⟩,hc,rfl⟩
  | false =>
   rw [hnil,if_neg (by decide)] at hc
   exact ⟨_,_,.inr ⟨rfl,rfl⟩,hc,rfl⟩
 obtain ⟨d0,H0,hb0,hc0,hsh⟩:=hcl
 cases hz:szOk n with
 | false =>
  rw [hz] at hs
  have hla:leAdd s.l n v = s.l:=by simp [leAdd,hz]
  rw [hla]
  refine ⟨d0,H0,hb0,?_⟩
  refine call_run Tryz.func63 rfl ⟨rfl,rfl⟩ ?_
  simp [Tryz.f63,hc0,hs,hsh,buf_pack hb0,-pack]
 | true =>
  have hb:=szOk_le hz
  rw [hz] at hs
  obtain ⟨k,rfl⟩:∃ k:Nat,n = k:=⟨n.toNat,by omega⟩
  have hla:leAdd s.l k v = s.l ++ leB k v:=by simp [leAdd,hz]
  have hR:∃ d H,Buf d H (leAdd s.l k v):=⟨_,_,.inr ⟨rfl,rfl⟩⟩
  refine ⟨.osl 0 (leAdd s.l k v).length 0 (leAdd s.l k v).length 1,[some (ofBytes (leAdd s.l k v))],.inr ⟨rfl,rfl⟩,?_⟩
  refine call_run Tryz.func63 rfl ⟨rfl,rfl⟩ ?_
  simp [Tryz.f63,hc0,hs,hsh,-pack]
  refine Run.loopThen (fun (i:Nat) e H=>i≤k∧(∃ d,look e 7 = some d∧Buf d H (s.l ++ leB i v))∧look e 2 = some (.int .u64 v)∧look e 15 = some (.int .i64 k)∧look e 16 = some (.int .i64 i)) (fun i=>k - i) 0 (by simp [leB,hb0]) ?_
  rintro i e H ⟨hi,⟨d,h7,hbuf⟩,h2,h15,h16⟩
  by_cases hlt:i < k
  ·have hlt':(i:Int) < (k:Int):=by omega
   have hw:IntKind.i64.wrap ((i:Int)+1) = ((i+1:Nat):Int):=by rw [wrap_i64] <;> omega
   have hw8:IntKind.i64.wrap (8 * (i:Int)) = 8 * (i:Int):=by rw [wrap_i64];omega
   have hng:¬ (8 * (i:Int) < 0):=by omega
   have htn:(8 * (i:Int)).toNat = 8 * i:=by omega
   have hv:=leB_val v (i:=i) (by omega)
   have hl:(s.l ++ leB i v).length≤140737488355100:=by simp;omega
   have hsn:s.l ++ leB (i+1) v = (s.l ++ leB i v) ++ [UInt8.ofNat (v / 256 ^ i % 256)]:=by rw [leB_snoc,List.append_assoc]
   generalize s.l ++ leB i v = l at *
   generalize UInt8.ofNat (v / 256 ^ i % 256) = c at *
   have hmx:l.length+1≤140737488355328:=by omega
   rcases hbuf with ⟨rfl,rfl,rfl⟩ | ⟨rfl,rfl⟩
   ·simp [h7,h2,h15,h16,hlt',hw,hw8,hng,htn,IntKind.bits,hv,maxBytes]
    exact ⟨i+1,by omega,by omega,.inr (by simp [hsn,ofBytes]),rfl⟩
   ·simp [h7,h2,h15,h16,hlt',hw,hw8,hng,htn,IntKind.bits,hv,maxBytes,hmx]
    exact ⟨i+1,by omega,by omega,.inr (by simp [hsn,ofBytes]),rfl⟩
  ·have hlt':¬ (i:Int) < (k:Int):=by omega
   have hik:i = k:=by omega
   subst hik
   rw [← hla] at hbuf
   have hlen:1≤(leAdd s.l i v).length:=by rw [hla];simp;omega
   rcases hbuf with ⟨rfl,hnil,rfl⟩ | ⟨rfl,rfl⟩
   ·rw [hnil] at hlen;simp at hlen
   ·simp [h7,h2,h15,h16,hlt']
end Go.Ev.S
namespace Go.Ev.S
open Go Go.Proofs Go.Ev
end Go.Ev.S
namespace Go.Ev.S
open Go Go.Proofs Go.Ev
theorem len64_ev [MaxL] [TxtC] (v:Nat) (h:v < 18446744073709551616):call cx 210 [.int .u64 v] [] = some (.int .i64 (Lib.bitLen v),[]):=by
 refine call_con ?_
 rw [co210,conLen64,if_pos (by omega)]
 rfl
theorem small_ev [MaxL] [TxtC] (v:Nat) (h:v < 100):call cx 189 [.int .i64 v] [] = some (.str (dec v),[]):=by
 refine call_con ?_
 rw [co189,conSmall,if_pos (by omega)]
 rfl
theorem bool2_ev [MaxL] [TxtC] (b:Bool):call cx 219 [.bool b] [] = some (.int .i64 (if b then 1 else 0),[]):=by
 refine call_run Tryz.func219 rfl ⟨rfl,rfl⟩ ?_
 cases b <;> simp [Tryz.f219]
theorem l10_ev [MaxL] [TxtC] (v:Nat) (h:v≤64):call cx 218 [.int .i64 v] [] = some (.int .i64 (Lib.l10 v),[]):=by
 refine call_run Tryz.func218 rfl ⟨rfl,rfl⟩ ?_
 have h1:IntKind.i64.wrap ((v:Int) * 78913) = ((v * 78913:Nat):Int):=by rw [wrap_i64] <;> omega
 simp [Tryz.f218,h1]
 unfold Lib.l10
 have:(2:Int) ^ min 18 IntKind.i64.bits = 262144:=by decide
 rw [this,Int.fdiv_eq_ediv_of_nonneg _ (by omega)]
 omega
theorem pow10_at {t:Nat} (h:t≤19):∃ r,gd3.drop t = .int .u64 ((10 ^ t:Nat):Int) :: r:=by
 have ht:t = 0∨t = 1∨t = 2∨t = 3∨t = 4∨t = 5∨t = 6∨t = 7∨t = 8∨t = 9∨t = 10∨t = 11∨t = 12∨t = 13∨t = 14∨t = 15∨t = 16∨t = 17∨t = 18∨t = 19:=by omega
 rcases ht with rfl | rfl | rfl | rfl | rfl | rfl | rfl | rfl | rfl | rfl | rfl | rfl | rfl | rfl | rfl | rfl | rfl | rfl | rfl | rfl <;> exact ⟨_,rfl⟩
theorem ndig_ev [MaxL] [TxtC] (v:Nat) (h1:1≤v) (h:v < 18446744073709551616):call cx 190 [.int .u64 v] [] = some (.int .i64 (Lib.nDigits v),[]):=by
 obtain ⟨e1,e2⟩:=Lib.numDigits_eq v h1 h
 have hb:Lib.bitLen v≤64:=Lib.bitLen_le v 64 (Nat.le_refl _) h
 have g1:=len64_ev v h
 have g2:=l10_ev (Lib.bitLen v) hb
 generalize Lib.l10 (Lib.bitLen v) = t at *
 obtain ⟨r,hr⟩:=pow10_at e2
 generalize 10 ^ t = p at *
 have g3:=bool2_ev (decide ((p:Int)≤(v:Int)))
 have ht:(t:Int) < 20:=by omega
 have hw:∀ k:Int,0≤k→k≤1→IntKind.i64.wrap ((t:Int)+k) = (t:Int)+k:=fun k _ _=>by rw [wrap_i64];omega
 have hw0:IntKind.i64.wrap (t:Int) = t:=by rw [wrap_i64];omega
 refine call_run Tryz.func190 rfl ⟨rfl,rfl⟩ ?_
 by_cases hc:p≤v
 ·rw [if_pos hc] at e1
  rw [decide_eq_true (by omega)] at g3
  simp [Tryz.f190,g1,g2,g3,hr,ht,hc,hw]
  omega
 ·rw [if_neg hc] at e1
  rw [decide_eq_false (by omega)] at g3
  simp [Tryz.f190,g1,g2,g3,hr,ht,hc,hw0]
  omega
end Go.Ev.S
