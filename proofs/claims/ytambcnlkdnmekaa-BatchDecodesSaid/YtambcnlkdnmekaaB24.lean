/- Batches: what the row of BatchDecodes imports. -/
import Derived.Test.YtambcnlkdnmekaaB20
import Derived.Test.YtambcnlkdnmekaaB23
